/-
  The document's clauses (astrariumref17), walked: their small functions; general for any chapter.
-/
import Derived.Test.YtghlgegfokjgbaaClL
import Derived.Test.YtghlgegfokjgbaaIntsB
import Derived.Deep.RegionHeld3
import Derived.Deep.DrawnRows
namespace Go.Proofs.Ytghlgegfokjgbaa
open Go.ChangeShapes Go.WideShapes Go.ChangeAt Go.RowKit
set_option linter.unusedVariables false
attribute [local go_sem ↓] Go.wp_at_zero Go.wp_at_succ
def small (x : Int) : Prop := -1152921504606846976 ≤ x ∧ x ≤ 1152921504606846976
theorem r17_Abs (x : Int) (h : small x) (w : World) : Calls Try.prog 21 #[.int .i64 x] w fun e w' => e = .returned (.int .i64 (absI x)) ∧ w = w' := by
  obtain ⟨h0, h1⟩ := h
  by_cases hx : x < 0
  · have e : absI x = -x := by unfold absI; rw [if_pos hx]
    rw [e]
    clear e
    go_enter Try.func21, Try.ntmps21
    go_wp2
    go_ret
    exact ⟨rfl, rfl⟩
  · have e : absI x = x := by unfold absI; rw [if_neg hx]
    rw [e]
    clear e
    go_enter Try.func21, Try.ntmps21
    go_wp2
    go_ret
    exact ⟨rfl, rfl⟩
theorem absI_bd {x : Int} (h : small x) : 0 ≤ absI x ∧ absI x ≤ 1152921504606846976 := by obtain ⟨h0, h1⟩ := h; unfold absI; omega
theorem not_contains {l : List Int} {x : Int} {n : Nat} (hn : n = l.length) (h : ∀ j, j < n → l.getD j 0 ≠ x) : l.contains x = false := by
  rw [List.contains_eq_mem, decide_eq_false_iff_not]
  intro hm
  obtain ⟨j, hj, rfl⟩ := List.getElem_of_mem hm
  exact h j (by omega) (by simp [List.getD, hj])
theorem yes_contains {l : List Int} {x : Int} {k : Nat} (hk : k < l.length) (h : l.getD k 0 = x) : l.contains x = true := by
  rw [List.contains_eq_mem, decide_eq_true_eq, ← h]
  simp [List.getD, hk]
set_option maxHeartbeats 1000000 in
theorem r17_Has {w : World} {v : Value} {l : List Int} (h : Ints w v l) (x : Int) : Calls Try.prog 50 #[v, .int .i64 x] w fun e w' => e = .returned (.bool (l.contains x)) ∧ w = w' := by
  obtain ⟨a, cap, rfl, -, hc1, hc2, hv⟩ := h
  obtain ⟨ans, hans⟩ : ∃ b, b = l.contains x := ⟨_, rfl⟩
  rw [← hans]
  obtain ⟨n, hn⟩ : ∃ n, n = l.length := ⟨_, rfl⟩
  rw [← hn] at hc1 ⊢
  have hm : n ≤ 9223372036854775807 := Nat.le_trans hc1 hc2
  have HA := Lib.hid hans
  have HN := Lib.hid hn
  have HV := Lib.hid hv
  clear hv hn hc1 hc2 hans
  go_enter Try.func50, Try.ntmps50
  go_wp2
  go_loopw [5] (fun i wr => ∃ k : Nat, k ≤ n ∧ i = .int .i64 k ∧ (∀ j, j < k → l.getD j 0 ≠ x) ∧ wr = w) (fun i _ => n - (intOf i).toNat)
  case atStart => exact ⟨0, Nat.zero_le _, rfl, fun _ h => absurd h (by omega), rfl⟩
  case round =>
    obtain ⟨k, hk, rfl, hrel, rfl⟩ := hrel
    have HR := Lib.hid hrel
    clear hrel
    by_cases hlt : (k : Int) < (n : Int)
    · have hkn : k < l.length := by have := HN.out; omega
      obtain ⟨b, off, rfl, hcell⟩ := ints_cells HV.out hkn
      have q1 := hcell wr (Below.refl _ _)
      obtain ⟨y, hy⟩ : ∃ y, y = l.getD k 0 := ⟨_, rfl⟩
      rw [← hy] at q1
      have HY := Lib.hid hy
      have HK := Lib.hid hkn
      clear hcell hkn hy
      by_cases hyx : y = x
      · have hb : (y == x) = true := by rw [beq_iff_eq]; exact hyx
        have HZ : Hid (ans = true) := Lib.hid (by rw [HA.out]; exact yes_contains HK.out (by rw [← HY.out]; exact hyx))
        clear hyx
        go_wp2
        go_ret
        exact ⟨by rw [HZ.out]; rfl, rfl⟩
      · have hb : (y == x) = false := by rw [beq_eq_false_iff_ne]; exact hyx
        have HX := Lib.hid hyx
        clear hyx
        go_wp2
        go_roundw
        case rel =>
          refine ⟨k + 1, by omega, by go_num, fun j hj => ?_, trivial⟩
          rcases Nat.lt_or_ge j k with h | h
          · exact HR.out j h
          · rw [show j = k by omega, ← HY.out]; exact HX.out
        case measure => simp [intOf]; omega
    · have HZ : Hid (ans = false) := Lib.hid (by rw [HA.out]; exact not_contains (n := k) (by have := HN.out; omega) HR.out)
      go_wp2
      go_ret
      exact ⟨by rw [HZ.out]; rfl, rfl⟩
instance (l : List Int) : Decidable (ClauseL l) := inferInstanceAs (Decidable (∀ x ∈ l, x ≠ 0 ∧ -1152921504606846976 ≤ x ∧ x ≤ 1152921504606846976))
def clauseB (l : List Int) : Bool := decide (ClauseL l)
theorem clause_no {l : List Int} {k : Nat} (hk : k < l.length) (h : l.getD k 0 = 0 ∨ l.getD k 0 < -1152921504606846976 ∨ 1152921504606846976 < l.getD k 0) : clauseB l = false := by
  refine decide_eq_false fun g => ?_
  have := g (l.getD k 0) (by simp [List.getD, hk])
  omega
theorem clause_yes {l : List Int} {n : Nat} (hn : n = l.length) (h : ∀ j, j < n → l.getD j 0 ≠ 0 ∧ small (l.getD j 0)) : clauseB l = true := by
  refine decide_eq_true fun x hx => ?_
  obtain ⟨j, hj, rfl⟩ := List.getElem_of_mem hx
  have := h j (by omega)
  simpa [List.getD, hj, small] using this
theorem ClauseL.small {l : List Int} (h : ClauseL l) : ∀ x ∈ l, Go.Proofs.Ytghlgegfokjgbaa.small x := fun x hx => (h x hx).2
theorem small_at {l : List Int} (h : ClauseL l) {j : Nat} (hj : j < l.length) : small (l.getD j 0) := by
  have := h.small _ (List.getElem_mem hj)
  simpa [List.getD, hj] using this
/-- Subsumes. -/
def subB (a b : List Int) : Bool := a.all fun x => b.contains x
def sameS (a b : List Int) : Bool := subB a b && subB b a
theorem all_no' {l : List Int} {p : Int → Bool} {k : Nat} (hk : k < l.length) (h : p (l.getD k 0) = false) : l.all p = false := by
  rw [List.all_eq_false]
  exact ⟨_, List.getElem_mem hk, by simpa [List.getD, hk] using h⟩
theorem all_yes' {l : List Int} {p : Int → Bool} {n : Nat} (hn : n = l.length) (h : ∀ j, j < n → p (l.getD j 0) = true) : l.all p = true := by
  rw [List.all_eq_true]
  intro x hx
  obtain ⟨j, hj, rfl⟩ := List.getElem_of_mem hx
  have := h j (by omega)
  simpa [List.getD, hj] using this
end Go.Proofs.Ytghlgegfokjgbaa
