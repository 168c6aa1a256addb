/-
  Clauses: the small functions, walked (those of them that need no search in a list).
-/
import Derived.Test.YtkofhilgehhopaaClL
import Derived.Test.YtkofhilgehhopaaIntsB
import Derived.Deep.RegionHeld3
namespace Go.Proofs.Ytkofhilgehhopaa
open Go.ChangeShapes Go.WideShapes Go.ChangeAt Go.RowKit
set_option linter.unusedVariables false
def small (x : Int) : Prop := -1152921504606846976 ≤ x ∧ x ≤ 1152921504606846976
theorem cl_abs (x : Int) (h : small x) (w : World) : Calls Try.prog 69 #[.int .i64 x] w fun e w' => e = .returned (.int .i64 (absI x)) ∧ w = w' := by
  obtain ⟨h0, h1⟩ := h
  go_enter Try.func69, Try.ntmps69
  go_wp2
  all_goals
    go_ret
    refine ⟨congrArg (fun z => Ending.returned (Value.int IntKind.i64 z)) ?_, rfl⟩
    unfold absI
    (try simp only [Int.max_def])
    (repeat (first | omega | split))
theorem r17_Abs (x : Int) (h : small x) (w : World) : Calls Try.prog 56 #[.int .i64 x] w fun e w' => e = .returned (.int .i64 (absI x)) ∧ w = w' := by
  obtain ⟨h0, h1⟩ := h
  by_cases hx : x < 0
  · have e : absI x = -x := by unfold absI; rw [if_pos hx]
    rw [e]
    clear e
    go_enter Try.func56, Try.ntmps56
    go_wp2
    go_ret
    exact ⟨rfl, rfl⟩
  · have e : absI x = x := by unfold absI; rw [if_neg hx]
    rw [e]
    clear e
    go_enter Try.func56, Try.ntmps56
    go_wp2
    go_ret
    exact ⟨rfl, rfl⟩
theorem absI_bd {x : Int} (h : small x) : 0 ≤ absI x ∧ absI x ≤ 1152921504606846976 := by obtain ⟨h0, h1⟩ := h; unfold absI; omega
instance (l : List Int) : Decidable (ClauseL l) := inferInstanceAs (Decidable (∀ x ∈ l, x ≠ 0 ∧ -1152921504606846976 ≤ x ∧ x ≤ 1152921504606846976))
def clauseB (l : List Int) : Bool := decide (ClauseL l)
theorem clause_no {l : List Int} {k : Nat} (hk : k < l.length) (h : l.getD k 0 = 0 ∨ l.getD k 0 < -1152921504606846976 ∨ 1152921504606846976 < l.getD k 0) : clauseB l = false := by
  refine decide_eq_false fun g => ?_
  have := g (l.getD k 0) (by simp [List.getD, hk])
  omega
theorem clause_yes {l : List Int} {n : Nat} (hn : n = l.length) (h : ∀ j, j < n → l.getD j 0 ≠ 0 ∧ small (l.getD j 0)) : clauseB l = true := by
  refine decide_eq_true fun x hx => ?_
  obtain ⟨j, hj, rfl⟩ := List.getElem_of_mem hx
  have := h j (by omega)
  simpa [List.getD, hj, small] using this
end Go.Proofs.Ytkofhilgehhopaa
