/-
  Package trace: which witnesses are right.
-/
import Derived.Test.YtibinmabdidecaaGreatDoorTrB
namespace Go.Proofs.YtibinmabdidecaaGreatDoor
open Go.ChangeShapes Go.WideShapes Go.ChangeAt Go.RowKit
set_option linter.unusedVariables false
/-- A slice's index, or -1. -/
def IdxPost (w : World) (b : Bool) (e : Ending) (w' : World) : Prop := (∃ i : Int, e = .returned (.int .i64 i) ∧ decide (0 ≤ i) = b) ∧ Below w.heap.size w w'
theorem Bo.len {w : World} {v : Value} {l : List Bool} (h : Bo w v l) : ∃ a cap, v = .slice a l.length cap := by
  obtain ⟨a, cap, h, -, -⟩ := h.form; exact ⟨a, cap, h⟩
def longB (l : List Bool) : Bool := decide (4096 < l.length)
theorem long_ {w : World} {u : Value} {l : List Bool} (h : Bo w u l) : Calls Tryz.prog 43 #[u] w fun e w' => e = .returned (.bool (longB l)) ∧ Below w.heap.size w w' := by
  obtain ⟨a, cap, rfl⟩ := h.len
  clear h
  have hl : longB l = decide ((4096 : Int) < (l.length : Int)) := by unfold longB; rw [decide_eq_decide]; omega
  rw [hl]
  clear hl
  go_enter Tryz.func43, Tryz.ntmps43
  go_wp2
  go_ret
  exact ⟨by simp, Below.refl _ _⟩
def wrongB (l : CS) : Bool := !rightB 62 64 l
theorem wrong_ {w : World} {u : Value} {l : CS} (h : Pairs w u l) : Calls Tryz.prog 44 #[u] w fun e w' => e = .returned (.bool (wrongB l)) ∧ Below w.heap.size w w' := by
  have HR := Lib.hid (ram_Right (aw := 62) (ww := 64) h)
  unfold wrongB
  generalize rightB 62 64 l = r at *
  clear h
  go_enter Tryz.func44, Tryz.ntmps44
  go_wp2_with fail
  refine HR.out.mono ?_
  rintro e w1 ⟨rfl, hb⟩
  go_wp2
  go_ret
  exact ⟨rfl, hb⟩
set_option maxHeartbeats 1000000 in
theorem idxBB {w : World} {v : Value} {xs : List (List Bool)} (h : Seq w 1 BosR [] v xs) : Calls Tryz.prog 68 #[v, .func (.func 43) #[] #[]] w (IdxPost w (xs.any longB)) := by
  obtain ⟨a, cap, hv, hc, hm⟩ := h.form
  subst hv
  obtain ⟨n, hn⟩ : ∃ n, n = xs.length := ⟨_, rfl⟩
  have H := Lib.hid h
  rw [← hn] at H hc ⊢
  have hbig : n ≤ 9223372036854775807 := Nat.le_trans hc hm
  have HN := Lib.hid hn
  clear h hn hc hm
  go_enter Tryz.func68, Tryz.ntmps68
  go_wp2
  go_loopw [8] (fun i wr => ∃ k : Nat, k ≤ n ∧ i = .int .i64 k ∧ (xs.take k).any longB = false ∧ Below w.heap.size w wr) (fun i _ => n - (intOf i).toNat)
  case atStart => exact ⟨0, Nat.zero_le _, rfl, rfl, Below.refl _ _⟩
  case round =>
    obtain ⟨k, hk, rfl, hany, hb⟩ := hrel
    have HB := Lib.hid hb
    by_cases hlt : (k : Int) < (n : Int)
    · have hkn : k < xs.length := by have := HN.out; omega
      obtain ⟨b, off, cap2, he, u, hcell, hp⟩ := (HN.out ▸ H.out : Seq w 1 BosR [] (.slice a xs.length cap) xs).at_ hkn
      injection he with e1 e2 e3
      subst e1
      have hc1 := cell_below hcell hb
      rw [Nat.mul_one] at hc1
      have HC := Lib.hid (long_ (w := wr) (hp.below stays_bo hb))
      have hst : (xs.take (k + 1)).any longB = longB (xs.getD k []) := by
        rw [List.take_succ_eq_append_getElem hkn, List.any_append, hany]
        simp [List.getD, hkn]
      have HS := Lib.hid hst
      have HA : Hid (longB (xs.getD k []) = true → xs.any longB = true) := Lib.hid fun h => List.any_eq_true.2 ⟨_, List.getElem_mem hkn, by simpa [List.getD, hkn] using h⟩
      generalize longB (xs.getD k []) = ans at *
      have eg : ∀ args w, (callFunc 43 args).run Tryz.prog w = .ok (.enter 43 args) w := enters_of Tryz.func43 (by kernel_rfl) rfl
      clear hcell hp e2 e3 hany hst hb
      go_wp2_with fail
      refine HC.out.mono ?_
      rintro e w1 ⟨rfl, hb1⟩
      have HB1 := Lib.hid (HB.out.trans (hb1.mono HB.out.size))
      clear hb1
      cases ans with
      | true =>
        go_wp2
        go_ret
        exact ⟨⟨(k : Int), rfl, by rw [HA.out (by trivial)]; exact decide_eq_true (by omega)⟩, HB1.out⟩
      | false =>
        go_wp2
        go_roundw
        case rel => exact ⟨k + 1, by omega, by go_num, HS.out, HB1.out⟩
        case measure => simp [intOf]; omega
    · have hkn : k = xs.length := by have := HN.out; omega
      rw [hkn, List.take_length] at hany
      have HA := Lib.hid hany
      clear hany hkn hb
      go_wp2
      go_ret
      exact ⟨⟨-1, rfl, by rw [HA.out]; rfl⟩, HB.out⟩
theorem hasBB {w : World} {v : Value} {xs : List (List Bool)} (h : Seq w 1 BosR [] v xs) : Calls Tryz.prog 46 #[v, .func (.func 43) #[] #[]] w fun e w' => e = .returned (.bool (xs.any longB)) ∧ Below w.heap.size w w' := by
  have HI := Lib.hid (idxBB h)
  generalize xs.any longB = ans at *
  clear h
  go_enter Tryz.func46, Tryz.ntmps46
  go_wp2_with fail
  refine HI.out.mono ?_
  rintro e w1 ⟨⟨i, rfl, hd⟩, hb⟩
  have HD := Lib.hid hd
  clear hd
  go_wp2
  go_ret
  exact ⟨by rw [← HD.out]; simp, hb⟩
set_option maxHeartbeats 1000000 in
theorem idxCC {w : World} {v : Value} {xs : List (CS)} (h : Seq w 1 CesR [] v xs) : Calls Tryz.prog 69 #[v, .func (.func 44) #[] #[]] w (IdxPost w (xs.any wrongB)) := by
  obtain ⟨a, cap, hv, hc, hm⟩ := h.form
  subst hv
  obtain ⟨n, hn⟩ : ∃ n, n = xs.length := ⟨_, rfl⟩
  have H := Lib.hid h
  rw [← hn] at H hc ⊢
  have hbig : n ≤ 9223372036854775807 := Nat.le_trans hc hm
  have HN := Lib.hid hn
  clear h hn hc hm
  go_enter Tryz.func69, Tryz.ntmps69
  go_wp2
  go_loopw [8] (fun i wr => ∃ k : Nat, k ≤ n ∧ i = .int .i64 k ∧ (xs.take k).any wrongB = false ∧ Below w.heap.size w wr) (fun i _ => n - (intOf i).toNat)
  case atStart => exact ⟨0, Nat.zero_le _, rfl, rfl, Below.refl _ _⟩
  case round =>
    obtain ⟨k, hk, rfl, hany, hb⟩ := hrel
    have HB := Lib.hid hb
    by_cases hlt : (k : Int) < (n : Int)
    · have hkn : k < xs.length := by have := HN.out; omega
      obtain ⟨b, off, cap2, he, u, hcell, hp⟩ := (HN.out ▸ H.out : Seq w 1 CesR [] (.slice a xs.length cap) xs).at_ hkn
      injection he with e1 e2 e3
      subst e1
      have hc1 := cell_below hcell hb
      rw [Nat.mul_one] at hc1
      have HC := Lib.hid (wrong_ (w := wr) (hp.below hb))
      have hst : (xs.take (k + 1)).any wrongB = wrongB (xs.getD k []) := by
        rw [List.take_succ_eq_append_getElem hkn, List.any_append, hany]
        simp [List.getD, hkn]
      have HS := Lib.hid hst
      have HA : Hid (wrongB (xs.getD k []) = true → xs.any wrongB = true) := Lib.hid fun h => List.any_eq_true.2 ⟨_, List.getElem_mem hkn, by simpa [List.getD, hkn] using h⟩
      generalize wrongB (xs.getD k []) = ans at *
      have eg : ∀ args w, (callFunc 44 args).run Tryz.prog w = .ok (.enter 44 args) w := enters_of Tryz.func44 (by kernel_rfl) rfl
      clear hcell hp e2 e3 hany hst hb
      go_wp2_with fail
      refine HC.out.mono ?_
      rintro e w1 ⟨rfl, hb1⟩
      have HB1 := Lib.hid (HB.out.trans (hb1.mono HB.out.size))
      clear hb1
      cases ans with
      | true =>
        go_wp2
        go_ret
        exact ⟨⟨(k : Int), rfl, by rw [HA.out (by trivial)]; exact decide_eq_true (by omega)⟩, HB1.out⟩
      | false =>
        go_wp2
        go_roundw
        case rel => exact ⟨k + 1, by omega, by go_num, HS.out, HB1.out⟩
        case measure => simp [intOf]; omega
    · have hkn : k = xs.length := by have := HN.out; omega
      rw [hkn, List.take_length] at hany
      have HA := Lib.hid hany
      clear hany hkn hb
      go_wp2
      go_ret
      exact ⟨⟨-1, rfl, by rw [HA.out]; rfl⟩, HB.out⟩
theorem hasCC {w : World} {v : Value} {xs : List (CS)} (h : Seq w 1 CesR [] v xs) : Calls Tryz.prog 47 #[v, .func (.func 44) #[] #[]] w fun e w' => e = .returned (.bool (xs.any wrongB)) ∧ Below w.heap.size w w' := by
  have HI := Lib.hid (idxCC h)
  generalize xs.any wrongB = ans at *
  clear h
  go_enter Tryz.func47, Tryz.ntmps47
  go_wp2_with fail
  refine HI.out.mono ?_
  rintro e w1 ⟨⟨i, rfl, hd⟩, hb⟩
  have HD := Lib.hid hd
  clear hd
  go_wp2
  go_ret
  exact ⟨by rw [← HD.out]; simp, hb⟩
end Go.Proofs.YtibinmabdidecaaGreatDoor
