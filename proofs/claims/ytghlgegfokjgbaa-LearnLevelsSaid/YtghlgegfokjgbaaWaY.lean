/-
  The laws of chapter 22: alive.
-/
import Derived.Test.YtghlgegfokjgbaaWaW
import Derived.Test.YtghlgegfokjgbaaWaO
namespace Go.Proofs.Ytghlgegfokjgbaa
open Go.ChangeShapes Go.WideShapes Go.ChangeAt Go.RowKit
set_option linter.unusedVariables false
set_option linter.unusedSimpArgs false
attribute [local go_sem ↓] Go.wp_at_zero Go.wp_at_succ
def aS0 : WS := wNew (TS.new 2)
def aS1 : WS := addF aS0 [1, 2]
def aS2 : WS := addF aS1 [-1, 2]
def aS3 : WS := { aS2 with t := aS2.t.up.put (-2) (-1) }
def aS4 : WS := (visitF aS3 0 2).1
theorem lb0 : LB 0 [] := ⟨by simp, fun s => by simp⟩
theorem lits12 : Lits3 [1, 2] := fun x hx => by simp at hx; unfold lit3; omega
theorem litsm12 : Lits3 [-1, 2] := fun x hx => by simp at hx; unfold lit3; omega
theorem lbA1 : LB 2 aS1.ls := by
  have h : aS1.ls = watchL [] [1, 2] 0 2 := by kernel_rfl
  rw [h]
  exact lb0.watch lits12 0 2 (by simp)
theorem lbA2 : LB 4 aS2.ls := by
  have h : aS2.ls = watchL aS1.ls [-1, 2] 1 2 := by kernel_rfl
  rw [h]
  exact lbA1.watch litsm12 1 2 (by simp)
theorem tbA0 : TB aS0.t := ⟨by decide +kernel, by decide +kernel, by decide +kernel, by decide +kernel⟩
theorem sgA0 : Signs aS0.t := signs_new 2
theorem tbA1 : TB aS1.t := ⟨by decide +kernel, by decide +kernel, by decide +kernel, by decide +kernel⟩
theorem sgA1 : Signs aS1.t := by unfold Signs; decide +kernel
theorem sgA3 : Signs aS3.t := by unfold Signs; decide +kernel
theorem sgA4 : Signs aS4.t := by unfold Signs; decide +kernel
theorem tbA3 : TB aS3.t := ⟨by decide +kernel, by decide +kernel, by decide +kernel, by decide +kernel⟩
theorem tbA4 : TB aS4.t := ⟨by decide +kernel, by decide +kernel, by decide +kernel, by decide +kernel⟩
theorem lbA3 : LB 4 aS3.ls := lbA2
theorem lbA4 : LB 4 aS4.ls := by have h : aS4.ls = aS2.ls := by kernel_rfl
                                 rw [h]; exact lbA2
theorem runA2 : RunB aS2 := ⟨by unfold Signs; decide +kernel, ⟨by decide +kernel, by decide +kernel, by decide +kernel, by decide +kernel⟩, by decide +kernel, by decide +kernel, by unfold Lits3 lit3; decide +kernel, lbA2.mono (by omega)⟩
theorem runA3 : RunB aS3 := ⟨sgA3, tbA3, by decide +kernel, by decide +kernel, by unfold Lits3 lit3; decide +kernel, lbA3.mono (by omega)⟩
theorem runA4 : RunB aS4 := ⟨sgA4, tbA4, by decide +kernel, by decide +kernel, by unfold Lits3 lit3; decide +kernel, lbA4.mono (by omega)⟩
theorem w3 : wrongOf aS3 = 2 := by kernel_rfl
theorem w4 : wrongOf aS4 = 2 := by kernel_rfl
theorem law1 : RunLaw (fun S => S = aS2) (fun _ _ _ => False) (fun id fine S => id = -1 ∧ fine = true ∧ S = aS2) where
  qb := fun S h => by rw [h]; exact runA2
  skip := fun S h hd => by rw [h] at hd; exact absurd hd (by decide +kernel)
  start := fun S h hd => by rw [h] at hd; exact absurd hd (by decide +kernel)
  rb := fun S keep rest h => h.elim
  vis := fun S keep id rest h => h.elim
  step := fun S keep k rest h => h.elim
  confl := fun S keep k rest h => h.elim
  finish := fun S keep h => h.elim
  done := fun S h _ => ⟨rfl, rfl, h⟩
theorem dnA2 : aS2.dn.length = 0 := by decide +kernel
theorem dnA3 : aS3.dn.length = 0 := by decide +kernel
theorem backA2 : BackOk aS2 := ⟨by decide +kernel, (fun j hj => absurd hj (by rw [dnA2]; omega)), (fun j hj => absurd hj (by rw [dnA2]; omega)), by decide +kernel⟩
theorem backA3 : BackOk aS3 := ⟨by decide +kernel, (fun j hj => absurd hj (by rw [dnA3]; omega)), (fun j hj => absurd hj (by rw [dnA3]; omega)), by decide +kernel⟩
def RA (S : WS) (keep rest : List Int) : Prop := (S = aS3 ∧ keep = [] ∧ rest = [0, 1]) ∨ (S = aS4 ∧ keep = [0] ∧ rest = [1])
theorem law2 : RunLaw (fun S => S = aS3) RA (fun _ fine S => fine = false ∧ S.t.lv.length = 1) where
  qb := fun S h => by rw [h]; exact runA3
  skip := fun S h hd hs => by rw [h] at hs; exact absurd hs (by decide +kernel)
  start := fun S h hd hs => by rw [h]; exact .inl ⟨rfl, rfl, by kernel_rfl⟩
  rb := fun S keep rest h => by
    rcases h with ⟨rfl, rfl, rfl⟩ | ⟨rfl, rfl, rfl⟩
    · exact ⟨runA3, by decide +kernel, by decide +kernel, by simp⟩
    · exact ⟨runA4, by decide +kernel, by decide +kernel, by simp⟩
  vis := fun S keep id rest h => by
    rcases h with ⟨rfl, rfl, h⟩ | ⟨rfl, rfl, h⟩
    · injection h with h1 h2
      rw [w3]
      exact ⟨0, by omega, sgA3, tbA3, by decide +kernel, by decide +kernel, by decide +kernel, by decide +kernel, by unfold Lits3 lit3; decide +kernel, lbA3.mono (by omega), by decide +kernel⟩
    · injection h with h1 h2
      rw [w4]
      exact ⟨1, by omega, sgA4, tbA4, by decide +kernel, by decide +kernel, by decide +kernel, by decide +kernel, by unfold Lits3 lit3; decide +kernel, lbA4.mono (by omega), by decide +kernel⟩
  step := fun S keep k rest h hf => by
    rcases h with ⟨rfl, rfl, h⟩ | ⟨rfl, rfl, h⟩
    · injection h with h1 h2
      obtain rfl : k = 0 := by omega
      subst h2
      rw [w3]
      exact .inr ⟨rfl, by decide +kernel, rfl⟩
    · injection h with h1 h2
      obtain rfl : k = 1 := by omega
      rw [w4] at hf
      exact absurd hf (by decide +kernel)
  confl := fun S keep k rest h hf => by
    rcases h with ⟨rfl, rfl, h⟩ | ⟨rfl, rfl, h⟩
    · injection h with h1 h2
      obtain rfl : k = 0 := by omega
      rw [w3] at hf
      exact absurd hf (by decide +kernel)
    · injection h with h1 h2
      obtain rfl : k = 1 := by omega
      rw [w4]
      exact ⟨rfl, (by decide +kernel : (visitF aS4 1 2).1.t.lv.length = 1)⟩
  finish := fun S keep h => by
    rcases h with ⟨rfl, rfl, h⟩ | ⟨rfl, rfl, h⟩ <;> cases h
  done := fun S h hd => by rw [h] at hd; exact absurd hd (by decide +kernel)
theorem pair_of (w : World) (a b : Int) : Ints (w.alloc (.cells #[.int .i64 a, .int .i64 b] 3)) (.slice (some ⟨w.heap.size, 0, none⟩) 2 2) [a, b] := by
  refine ⟨_, 2, rfl, (fun h => by cases h), by simp, by simp [maxLen], .inr ⟨w.heap.size, 0, rfl, fun j hj => ?_⟩⟩
  match j, hj with
  | 0, _ => simp [World.cell?_alloc_at]
  | 1, _ => simp [World.cell?_alloc_at]
/-- A trail is decided upon. -/
theorem decide_ {B : Nat} {w0 w : World} {r : Nat → Nat} {wb t : Nat} {S : WS} (h : LW B w0 w r wb t S) (hb : TB S.t) (hlv : S.t.lv.length ≤ 100000) (l : Int) (hf : S.t.isFree l = true) :
    Calls Try.prog 15 #[.pointer (some ⟨t, 0, none⟩), .int .i64 l] w fun e w' => e = .returned (.bool true) ∧ ∃ r', LW B w0 w' r' wb t { S with t := S.t.up.put l (-1) } ∧ Chg (fun b => B ≤ b ∧ r b ≠ 0) w w' ∧ ∀ b, b < w.heap.size → r' b = r b := by
  obtain ⟨vl, vs, vd, us, xs, hV⟩ := h.at_
  obtain ⟨fp, hT, hfp⟩ := hV.tr
  have := hb.n0; have := hb.n1; have := hb.l; have := hb.wh
  refine (trail_Decide_yes hT l hf (by omega) (by omega) (by omega) (by omega) (by omega)).mono ?_
  rintro e w' ⟨rfl, hD⟩
  obtain ⟨r', q1, q2, q3⟩ := hV.done h.hB hfp hD
  exact ⟨rfl, h.post ⟨r', ⟨_, _, _, _, _, q1⟩, q2, q3⟩⟩
theorem LW.depth {B : Nat} {w0 w : World} {r : Nat → Nat} {wb t : Nat} {S : WS} (h : LW B w0 w r wb t S) : Calls Try.prog 22 #[.pointer (some ⟨t, 0, none⟩)] w fun e w' => e = .returned (.int .i64 S.t.lv.length) ∧ w = w' := by
  obtain ⟨vl, vs, vd, us, xs, hV⟩ := h.at_
  obtain ⟨fp, hT, hfp⟩ := hV.tr
  exact trail_Depth hT
theorem LW.new {w0 w w1 w2 : World} {wb t : Nat} {r : Nat → Nat} {s : TS} (hb0 : Below w0.heap.size w0 w) (hb1 : Below w.heap.size w w1) (h : WAt w0.heap.size w2 r wb t (wNew s)) (hb2 : Below w1.heap.size w1 w2) : LW w0.heap.size w0 w2 r wb t (wNew s) :=
  ⟨h, (hb0.trans (hb1.mono hb0.size)).trans (hb2.mono (Nat.le_trans hb0.size hb1.size)), Nat.le_trans (Nat.le_trans hb0.size hb1.size) hb2.size⟩
end Go.Proofs.Ytghlgegfokjgbaa
