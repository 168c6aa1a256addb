/-
  REGIONS that draw their order, over any program: behind some first operations, in whatever order they came up, all that is left is quiet: one walk of the rest, in the order of the text, serves.
-/
import Derived.Deep.QuietTactic
import Derived.BigQuiet
import Derived.RegionTactic
import Derived.Deep.DrawnRows
namespace Go.Proofs.Ytkofhilgehhopaa
open Go
section
variable {P : Program} {md : Region.Mode} {l : List Oper} {C : World → Prop}
theorem wpAny_lexQuiet (k : Nat) {fuel : Nat} {listed : Array Bool} {a : Act} {w : World} {Q : Exit → Act → World → Prop} (hs : Region.noSelect l.toArray = true) (hB : Region.lexFrom md l.toArray (l.drop k).length k listed = true)
    (hf : fuel = (l.drop k).length) (hC : C w) (h : wpQuiet P l.toArray C (fun a' => ∀ w', C w' → Q .normal a' w') (l.drop k) a) : wpAny P md l.toArray Q fuel listed a w := by
  refine wpAny_of_quiet (C := C) (Q := fun a' => ∀ w', C w' → Q .normal a' w') (fun _ w' hw' h => h w' hw') _ _ _ _ hC ?_
  rw [hf]
  exact wpAnyQ_lex hs (l.drop k) k listed a (fun j => by simp) hB h
/-- The same at the class 'w after some draws'. -/
theorem wpAny_lexDrawn (k : Nat) {fuel : Nat} {listed : Array Bool} {a : Act} {w : World} {Q : Exit → Act → World → Prop} (hs : Region.noSelect l.toArray = true) (hB : Region.lexFrom md l.toArray (l.drop k).length k listed = true)
    (hf : fuel = (l.drop k).length) (h : wpQuiet P l.toArray (fun w' => ∃ n, w' = w.drewN n) (fun a' => ∀ w', (∃ n, w' = w.drewN n) → Q .normal a' w') (l.drop k) a) : wpAny P md l.toArray Q fuel listed a w :=
  wpAny_lexQuiet k hs hB hf ⟨0, rfl⟩ h
end
end Go.Proofs.Ytkofhilgehhopaa
