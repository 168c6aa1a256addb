/-
  Slices of numbers that are read.
-/
import Derived.Test.YtkofhilgehhopaaRows
import Derived.Test.YtkofhilgehhopaaFoot
import Derived.Deep.QuietTactic
import Derived.BigQuiet
import Derived.Lib.LazyBuf
namespace Go.Proofs.Ytkofhilgehhopaa
open Go.ChangeShapes Go.WideShapes Go.ChangeAt Go.RowKit
set_option linter.unusedVariables false

theorem infoI : (Try.prog.info? 3).map (fun i => (i.zero, i.size, i.bytes)) = some (some (.int .i64 0), 1, 8) := by kernel_rfl
def iv (n : Int) : Value := .int .i64 n
/-- The slice v reads as the numbers xs. -/
def Ints (w : World) (v : Value) (xs : List Int) : Prop :=
  ∃ a cap, v = .slice a xs.length cap ∧ (a = none → cap = 0) ∧ xs.length ≤ cap ∧ cap ≤ maxLen ∧ (xs = [] ∨ ∃ b off, a = some ⟨b, off, none⟩ ∧ ∀ j, j < xs.length → w.cell? ⟨b, off + j, none⟩ = some (.int .i64 (xs.getD j 0)))
theorem Ints.chg {w w' : World} {v : Value} {xs : List Int} {S : Nat → Prop} (h : Ints w v xs) (hc : Chg S w w') (hn : ∀ b, v.ownBlock = some b → ¬ S b) : Ints w' v xs := by
  obtain ⟨a, cap, rfl, h0, h1, h2, h3⟩ := h
  refine ⟨a, cap, rfl, h0, h1, h2, ?_⟩
  rcases h3 with h3 | ⟨b, off, rfl, hcell⟩
  · exact .inl h3
  · refine .inr ⟨b, off, rfl, fun j hj => ?_⟩
    have := hcell j hj
    have hlt := World.block_lt_of_cell? w _ this
    rw [World.cell?_of_block (w := w) (hc.block b hlt (hn b rfl))]; exact this
theorem Ints.below {w w' : World} {v : Value} {xs : List Int} (h : Ints w v xs) (hb : Below w.heap.size w w') : Ints w' v xs := h.chg (S := fun _ => False) (Chg.of_below hb) (fun _ _ h => h)
theorem Ints.drewN {w : World} {v : Value} {xs : List Int} (h : Ints w v xs) (n : Nat) : Ints (w.drewN n) v xs := h
theorem ints_nil (w : World) : Ints w (.slice none 0 0) [] := ⟨none, 0, rfl, fun _ => rfl, by simp, by simp, .inl rfl⟩
theorem Row.ints {w : World} {e : TypeId} {v : Value} {xs : List Int} (h : Row w e 1 v xs.length (xs.map iv)) : Ints w v xs := by
  rcases h.form with ⟨rfl, h0, -⟩ | ⟨g, cap, rfl, h1, h2, -, hc⟩
  · obtain rfl := List.eq_nil_of_length_eq_zero h0
    exact ints_nil w
  · refine ⟨_, cap, rfl, (fun h => by cases h), h1, h2, .inr ⟨g, 0, rfl, fun j hj => ?_⟩⟩
    rw [Nat.zero_add, (hc j (by simpa using hj)).1]
    simp [List.getD, hj, iv]

/-- Where the cells of what is read lie, in whatever world behind. -/
theorem ints_cells {w : World} {a : Option Addr} {l : List Int} (hv : l = [] ∨ ∃ b off, a = some ⟨b, off, none⟩ ∧ ∀ j, j < l.length → w.cell? ⟨b, off + j, none⟩ = some (.int .i64 (l.getD j 0))) {j : Nat} (hj : j < l.length) :
    ∃ b off, a = some ⟨b, off, none⟩ ∧ ∀ wr, Below w.heap.size w wr → wr.cell? ⟨b, off + j, none⟩ = some (.int .i64 (l.getD j 0)) := by
  have hne : l ≠ [] := fun e => by rw [e] at hj; simp at hj
  obtain ⟨b, off, h1, h2⟩ := hv.resolve_left hne
  refine ⟨b, off, h1, fun wr hwr => ?_⟩
  have h3 := h2 j hj
  have hlt := World.block_lt_of_cell? w _ h3
  rw [World.cell?_of_block (w := w) (hwr.block b hlt)]; exact h3
def Quiet (w w' : World) : Prop := ∃ n, w' = w.drewN n
theorem Quiet.below {w w' : World} (h : Quiet w w') : Below w.heap.size w w' := by obtain ⟨n, rfl⟩ := h; exact below_drewN (Below.refl _ _) n
end Go.Proofs.Ytkofhilgehhopaa
