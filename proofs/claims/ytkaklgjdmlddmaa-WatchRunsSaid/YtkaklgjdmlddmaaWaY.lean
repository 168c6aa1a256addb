/-
  The laws of chapter 22: alive.
-/
import Derived.Test.YtkaklgjdmlddmaaWaX
import Derived.Test.YtkaklgjdmlddmaaWaO
namespace Go.Proofs.Ytkaklgjdmlddmaa
open Go.ChangeShapes Go.WideShapes Go.ChangeAt Go.RowKit
set_option linter.unusedVariables false
set_option linter.unusedSimpArgs false
attribute [local go_sem ↓] Go.wp_at_zero Go.wp_at_succ
def aS0 : WS := wNew (TS.new 2)
def aS1 : WS := addF aS0 [1, 2]
def aS2 : WS := addF aS1 [-1, 2]
def aS3 : WS := { aS2 with t := aS2.t.up.put (-2) (-1) }
def aS4 : WS := (visitF aS3 0 2).1
theorem lb0 : LB 0 [] := ⟨by simp, fun s => by simp⟩
theorem lits12 : Lits3 [1, 2] := fun x hx => by simp at hx; unfold lit3; omega
theorem litsm12 : Lits3 [-1, 2] := fun x hx => by simp at hx; unfold lit3; omega
theorem lbA1 : LB 2 aS1.ls := by
  have h : aS1.ls = watchL [] [1, 2] 0 2 := by kernel_rfl
  rw [h]
  exact lb0.watch lits12 0 2 (by simp)
theorem lbA2 : LB 4 aS2.ls := by
  have h : aS2.ls = watchL aS1.ls [-1, 2] 1 2 := by kernel_rfl
  rw [h]
  exact lbA1.watch litsm12 1 2 (by simp)
theorem tbA0 : TB aS0.t := ⟨by decide +kernel, by decide +kernel, by decide +kernel, by decide +kernel⟩
theorem sgA0 : Signs aS0.t := signs_new 2
theorem tbA1 : TB aS1.t := ⟨by decide +kernel, by decide +kernel, by decide +kernel, by decide +kernel⟩
theorem sgA1 : Signs aS1.t := by unfold Signs; decide +kernel
theorem sgA3 : Signs aS3.t := by unfold Signs; decide +kernel
theorem sgA4 : Signs aS4.t := by unfold Signs; decide +kernel
theorem tbA3 : TB aS3.t := ⟨by decide +kernel, by decide +kernel, by decide +kernel, by decide +kernel⟩
theorem tbA4 : TB aS4.t := ⟨by decide +kernel, by decide +kernel, by decide +kernel, by decide +kernel⟩
theorem lbA3 : LB 4 aS3.ls := lbA2
theorem lbA4 : LB 4 aS4.ls := by have h : aS4.ls = aS2.ls := by kernel_rfl
                                 rw [h]; exact lbA2
theorem runA2 : RunB aS2 := ⟨by unfold Signs; decide +kernel, ⟨by decide +kernel, by decide +kernel, by decide +kernel, by decide +kernel⟩, by decide +kernel, by decide +kernel, by unfold Lits3 lit3; decide +kernel, lbA2.mono (by omega)⟩
theorem runA3 : RunB aS3 := ⟨sgA3, tbA3, by decide +kernel, by decide +kernel, by unfold Lits3 lit3; decide +kernel, lbA3.mono (by omega)⟩
theorem runA4 : RunB aS4 := ⟨sgA4, tbA4, by decide +kernel, by decide +kernel, by unfold Lits3 lit3; decide +kernel, lbA4.mono (by omega)⟩
theorem w3 : wrongOf aS3 = 2 := by kernel_rfl
theorem w4 : wrongOf aS4 = 2 := by kernel_rfl
theorem law1 : RunLaw (fun S => S = aS2) (fun _ _ _ => False) (fun id fine S => id = -1 ∧ fine = true ∧ S = aS2) where
  qb := fun S h => by rw [h]; exact runA2
  skip := fun S h hd => by rw [h] at hd; exact absurd hd (by decide +kernel)
  start := fun S h hd => by rw [h] at hd; exact absurd hd (by decide +kernel)
  rb := fun S keep rest h => h.elim
  vis := fun S keep id rest h => h.elim
  step := fun S keep k rest h => h.elim
  confl := fun S keep k rest h => h.elim
  finish := fun S keep h => h.elim
  done := fun S h _ => ⟨rfl, rfl, h⟩
theorem dnA2 : aS2.dn.length = 0 := by decide +kernel
theorem dnA3 : aS3.dn.length = 0 := by decide +kernel
theorem backA2 : BackOk aS2 := ⟨by decide +kernel, (fun j hj => absurd hj (by rw [dnA2]; omega)), (fun j hj => absurd hj (by rw [dnA2]; omega)), by decide +kernel⟩
theorem backA3 : BackOk aS3 := ⟨by decide +kernel, (fun j hj => absurd hj (by rw [dnA3]; omega)), (fun j hj => absurd hj (by rw [dnA3]; omega)), by decide +kernel⟩
def RA (S : WS) (keep rest : List Int) : Prop := (S = aS3 ∧ keep = [] ∧ rest = [0, 1]) ∨ (S = aS4 ∧ keep = [0] ∧ rest = [1])
theorem law2 : RunLaw (fun S => S = aS3) RA (fun _ fine S => fine = false ∧ S.t.lv.length = 1) where
  qb := fun S h => by rw [h]; exact runA3
  skip := fun S h hd hs => by rw [h] at hs; exact absurd hs (by decide +kernel)
  start := fun S h hd hs => by rw [h]; exact .inl ⟨rfl, rfl, by kernel_rfl⟩
  rb := fun S keep rest h => by
    rcases h with ⟨rfl, rfl, rfl⟩ | ⟨rfl, rfl, rfl⟩
    · exact ⟨runA3, by decide +kernel, by decide +kernel, by simp⟩
    · exact ⟨runA4, by decide +kernel, by decide +kernel, by simp⟩
  vis := fun S keep id rest h => by
    rcases h with ⟨rfl, rfl, h⟩ | ⟨rfl, rfl, h⟩
    · injection h with h1 h2
      rw [w3]
      exact ⟨0, by omega, sgA3, tbA3, by decide +kernel, by decide +kernel, by decide +kernel, by decide +kernel, by unfold Lits3 lit3; decide +kernel, lbA3.mono (by omega), by decide +kernel⟩
    · injection h with h1 h2
      rw [w4]
      exact ⟨1, by omega, sgA4, tbA4, by decide +kernel, by decide +kernel, by decide +kernel, by decide +kernel, by unfold Lits3 lit3; decide +kernel, lbA4.mono (by omega), by decide +kernel⟩
  step := fun S keep k rest h hf => by
    rcases h with ⟨rfl, rfl, h⟩ | ⟨rfl, rfl, h⟩
    · injection h with h1 h2
      obtain rfl : k = 0 := by omega
      subst h2
      rw [w3]
      exact .inr ⟨rfl, by decide +kernel, rfl⟩
    · injection h with h1 h2
      obtain rfl : k = 1 := by omega
      rw [w4] at hf
      exact absurd hf (by decide +kernel)
  confl := fun S keep k rest h hf => by
    rcases h with ⟨rfl, rfl, h⟩ | ⟨rfl, rfl, h⟩
    · injection h with h1 h2
      obtain rfl : k = 0 := by omega
      rw [w3] at hf
      exact absurd hf (by decide +kernel)
    · injection h with h1 h2
      obtain rfl : k = 1 := by omega
      rw [w4]
      exact ⟨rfl, (by decide +kernel : (visitF aS4 1 2).1.t.lv.length = 1)⟩
  finish := fun S keep h => by
    rcases h with ⟨rfl, rfl, h⟩ | ⟨rfl, rfl, h⟩ <;> cases h
  done := fun S h hd => by rw [h] at hd; exact absurd hd (by decide +kernel)
theorem pair_of (w : World) (a b : Int) : Ints (w.alloc (.cells #[.int .i64 a, .int .i64 b] 3)) (.slice (some ⟨w.heap.size, 0, none⟩) 2 2) [a, b] := by
  refine ⟨_, 2, rfl, (fun h => by cases h), by simp, by simp [maxLen], .inr ⟨w.heap.size, 0, rfl, fun j hj => ?_⟩⟩
  match j, hj with
  | 0, _ => simp [World.cell?_alloc_at]
  | 1, _ => simp [World.cell?_alloc_at]
/-- A trail is decided upon. -/
theorem decide_ {B : Nat} {w0 w : World} {r : Nat → Nat} {wb t : Nat} {S : WS} (h : LW B w0 w r wb t S) (hb : TB S.t) (hlv : S.t.lv.length ≤ 100000) (l : Int) (hf : S.t.isFree l = true) :
    Calls Try.prog 14 #[.pointer (some ⟨t, 0, none⟩), .int .i64 l] w fun e w' => e = .returned (.bool true) ∧ ∃ r', LW B w0 w' r' wb t { S with t := S.t.up.put l (-1) } ∧ Chg (fun b => B ≤ b ∧ r b ≠ 0) w w' ∧ ∀ b, b < w.heap.size → r' b = r b := by
  obtain ⟨vl, vs, vd, us, xs, hV⟩ := h.at_
  obtain ⟨fp, hT, hfp⟩ := hV.tr
  have := hb.n0; have := hb.n1; have := hb.l; have := hb.wh
  refine (trail_Decide_yes hT l hf (by omega) (by omega) (by omega) (by omega) (by omega)).mono ?_
  rintro e w' ⟨rfl, hD⟩
  obtain ⟨r', q1, q2, q3⟩ := hV.done h.hB hfp hD
  exact ⟨rfl, h.post ⟨r', ⟨_, _, _, _, _, q1⟩, q2, q3⟩⟩
theorem LW.depth {B : Nat} {w0 w : World} {r : Nat → Nat} {wb t : Nat} {S : WS} (h : LW B w0 w r wb t S) : Calls Try.prog 22 #[.pointer (some ⟨t, 0, none⟩)] w fun e w' => e = .returned (.int .i64 S.t.lv.length) ∧ w = w' := by
  obtain ⟨vl, vs, vd, us, xs, hV⟩ := h.at_
  obtain ⟨fp, hT, hfp⟩ := hV.tr
  exact trail_Depth hT
theorem LW.new {w0 w w1 w2 : World} {wb t : Nat} {r : Nat → Nat} {s : TS} (hb0 : Below w0.heap.size w0 w) (hb1 : Below w.heap.size w w1) (h : WAt w0.heap.size w2 r wb t (wNew s)) (hb2 : Below w1.heap.size w1 w2) : LW w0.heap.size w0 w2 r wb t (wNew s) :=
  ⟨h, (hb0.trans (hb1.mono hb0.size)).trans (hb2.mono (Nat.le_trans hb0.size hb1.size)), Nat.le_trans (Nat.le_trans hb0.size hb1.size) hb2.size⟩
set_option maxHeartbeats 2000000 in
set_option maxRecDepth 100000 in
theorem alive_ (w : World) : Calls Try.prog 8 #[] w fun e w' => e = .returned (.bool true) ∧ Below w.heap.size w w' := by
  go_enter Try.func8, Try.ntmps8
  go_wp2_with fail
  refine (trail_New 2 (by omega) _).mono ?_
  rintro e w1 ⟨rfl, hT, hb⟩
  obtain ⟨t, ht⟩ : ∃ t, t = w.heap.size + 1 := ⟨_, rfl⟩
  obtain ⟨B, hB⟩ : ∃ B, B = w.heap.size := ⟨_, rfl⟩
  have hfp : ∀ k ∈ [w.heap.size + 1, w.heap.size], B ≤ k := by intro k hk; simp at hk; omega
  have HNW := Lib.hid (New_ hT hfp (by rw [hB]; exact hb.size))
  rw [← ht] at HNW ⊢
  have HB1 := Lib.hid hb
  have HBB := Lib.hid hB
  clear ht hT hb hfp hB
  go_wp2_with fail
  refine HNW.out.mono ?_
  rintro e w2 ⟨wb, r, rfl, hat, hb2⟩
  have hW : LW B w w2 r wb t aS0 := by have := LW.new (Below.refl _ w) HB1.out (by rw [← HBB.out]; exact hat) hb2; rwa [← HBB.out] at this
  clear hat hb2
  replace hW := hW.below ((Below.refl _ _).alloc (Nat.le_refl _) (.cells #[.int .i64 1, .int .i64 2] 3))
  have HA := Lib.hid (Add_ hW.at_ hW.hB sgA0 tbA0 (pair_of w2 1 2) lits12 (by simp) (by simp) (lb0.mono (by omega)) (by decide +kernel))
  have HW := Lib.hid hW
  clear hW
  go_wp2_with fail
  refine HA.out.mono ?_
  rintro e w3 ⟨rfl, hp⟩
  obtain ⟨r1, hW, -, -⟩ := HW.out.post hp
  clear hp
  replace hW : LW B w w3 r1 wb t aS1 := hW
  replace hW := hW.below ((Below.refl _ _).alloc (Nat.le_refl _) (.cells #[.int .i64 (-1), .int .i64 2] 3))
  have HA2 := Lib.hid (Add_ hW.at_ hW.hB sgA1 tbA1 (pair_of w3 (-1) 2) litsm12 (by simp) (by simp) (lbA1.mono (by omega)) (by decide +kernel))
  have HW1 := Lib.hid hW
  clear hW
  go_wp2_with fail
  refine HA2.out.mono ?_
  rintro e w4 ⟨rfl, hp⟩
  obtain ⟨r2, hW, -, -⟩ := HW1.out.post hp
  clear hp
  replace hW : LW B w w4 r2 wb t aS2 := hW
  have hk2 := backA2
  have HR := Lib.hid (Run_ law1 hW.at_ hW.hB (by decide +kernel) hk2 (by kernel_rfl))
  have HW2 := Lib.hid hW
  clear hW hk2
  go_wp2_with fail
  refine HR.out.mono ?_
  rintro e w5 ⟨id, fine, S', rfl, ⟨rfl, rfl, rfl⟩, hp⟩
  obtain ⟨r3, hW, -, -⟩ := HW2.out.post hp
  clear hp
  have HD := Lib.hid (decide_ hW (l := -2) runA2.tb (by decide +kernel) (by decide +kernel))
  clear hW
  go_wp2_with fail
  refine HD.out.mono ?_
  rintro e w6 ⟨rfl, r4, hW, -, -⟩
  replace hW : LW B w w6 r4 wb t aS3 := hW
  have hk3 := backA3
  have HR3 := Lib.hid (Run_ law2 hW.at_ hW.hB (by decide +kernel) hk3 (by kernel_rfl))
  have HW3 := Lib.hid hW
  clear hW hk3
  go_wp2_with fail
  refine HR3.out.mono ?_
  rintro e w7 ⟨id, fine, S', rfl, ⟨rfl, hlv⟩, hp⟩
  obtain ⟨r5, hW, -, -⟩ := HW3.out.post hp
  clear hp
  have hde := hW.depth
  rw [hlv] at hde
  have HDE := Lib.hid hde
  have HW5 := Lib.hid hW
  have l0 : aS0.cl.length = 0 := by decide +kernel
  have l1 : aS1.cl.length = 1 := by decide +kernel
  rw [l0, l1]
  clear hde hW hlv l0 l1
  go_wp2_with ((go_at_call 22; refine (HDE.out).mono ?_; rintro e w' ⟨rfl, rfl⟩))
  go_ret
  exact ⟨rfl, by rw [← HBB.out]; exact HW5.out.old⟩
end Go.Proofs.Ytkaklgjdmlddmaa
