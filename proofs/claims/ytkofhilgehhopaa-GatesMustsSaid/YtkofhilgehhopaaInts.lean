/-
  Slices of numbers that are read: copies, and whether two are the same.
-/
import Derived.Test.YtkofhilgehhopaaClone
import Derived.Deep.QuietTactic
import Derived.BigQuiet
import Derived.Lib.LazyBuf
namespace Go.Proofs.Ytkofhilgehhopaa
open Go.ChangeShapes Go.WideShapes Go.ChangeAt Go.RowKit
set_option linter.unusedVariables false

def sameB (xs ys : List Int) : Bool := decide (xs = ys)
theorem sameB_self (xs : List Int) : sameB xs xs = true := decide_eq_true rfl
theorem take_ext {xs ys : List Int} (hl : xs.length = ys.length) (h : ∀ j, j < xs.length → xs.getD j 0 = ys.getD j 0) : xs = ys := by
  apply List.ext_getElem hl
  intro i h1 h2
  have := h i h1
  simpa [List.getD, h1, h2] using this
def SameRel (xs ys : List Int) (k : Nat) (w wr : World) : Prop := (∀ j, j < k → xs.getD j 0 = ys.getD j 0) ∧ ∃ n, wr = w.drewN n
theorem SameRel.step {xs ys : List Int} {k : Nat} {w wr wr' : World} (h : SameRel xs ys k w wr) (he : xs.getD k 0 = ys.getD k 0) (hw : ∃ n, wr' = wr.drewN n) : SameRel xs ys (k + 1) w wr' := by
  obtain ⟨h1, n, rfl⟩ := h
  obtain ⟨m, rfl⟩ := hw
  refine ⟨fun j hj => ?_, n + m, by rw [World.drewN_drewN]⟩
  rcases Nat.lt_or_ge j k with h | h
  · exact h1 j h
  · obtain rfl : j = k := by omega
    exact he
end Go.Proofs.Ytkofhilgehhopaa
