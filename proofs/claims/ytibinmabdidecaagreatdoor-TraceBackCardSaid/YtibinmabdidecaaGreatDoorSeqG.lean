/-
  Slices read element by element; texts.
-/
import Derived.Test.YtibinmabdidecaaGreatDoorPairs
import Derived.Test.YtibinmabdidecaaGreatDoorDecU
namespace Go.Proofs.YtibinmabdidecaaGreatDoor
open Go.ChangeShapes Go.WideShapes Go.ChangeAt Go.RowKit
set_option linter.unusedVariables false
/-- A slice of elements of size cells, each read by R at its first cell. -/
def Seq {α : Type} (w : World) (size : Nat) (R : World → Nat → Nat → α → Prop) (d : α) (v : Value) (xs : List α) : Prop :=
  ∃ a cap, v = .slice a xs.length cap ∧ xs.length ≤ cap ∧ cap ≤ maxLen ∧ (xs = [] ∨ ∃ b off, a = some ⟨b, off, none⟩ ∧ ∀ j, j < xs.length → R w b (off + j * size) (xs.getD j d))
/-- What is read stays below what a call makes. -/
def Stays {α : Type} (R : World → Nat → Nat → α → Prop) : Prop := ∀ {w w' : World} {b o : Nat} {x : α}, R w b o x → Below w.heap.size w w' → R w' b o x
theorem cell_below {w w' : World} {b o : Nat} {u : Value} (h : w.cell? ⟨b, o, none⟩ = some u) (hb : Below w.heap.size w w') : w'.cell? ⟨b, o, none⟩ = some u :=
  (hb.cell (p := ⟨b, o, none⟩) (World.block_lt_of_cell? w _ h)).trans h
theorem Seq.below {α : Type} {w w' : World} {size : Nat} {R : World → Nat → Nat → α → Prop} {d : α} {v : Value} {xs : List α} (hR : Stays R) (h : Seq w size R d v xs) (hb : Below w.heap.size w w') : Seq w' size R d v xs := by
  obtain ⟨a, cap, rfl, h1, h2, h3⟩ := h
  refine ⟨a, cap, rfl, h1, h2, ?_⟩
  rcases h3 with h3 | ⟨b, off, rfl, hc⟩
  · exact .inl h3
  · exact .inr ⟨b, off, rfl, fun j hj => hR (hc j hj) hb⟩
theorem Seq.form {α : Type} {w : World} {size : Nat} {R : World → Nat → Nat → α → Prop} {d : α} {v : Value} {xs : List α} (h : Seq w size R d v xs) : ∃ a cap, v = .slice a xs.length cap ∧ xs.length ≤ cap ∧ cap ≤ maxLen := by
  obtain ⟨a, cap, rfl, h1, h2, -⟩ := h; exact ⟨a, cap, rfl, h1, h2⟩
theorem Seq.at_ {α : Type} {w : World} {size : Nat} {R : World → Nat → Nat → α → Prop} {d : α} {v : Value} {xs : List α} (h : Seq w size R d v xs) {j : Nat} (hj : j < xs.length) :
    ∃ b off cap, v = .slice (some ⟨b, off, none⟩) xs.length cap ∧ R w b (off + j * size) (xs.getD j d) := by
  obtain ⟨a, cap, rfl, -, -, h3⟩ := h
  have hne : xs ≠ [] := fun e => by rw [e] at hj; simp at hj
  obtain ⟨b, off, rfl, hc⟩ := h3.resolve_left hne
  exact ⟨b, off, cap, rfl, hc j hj⟩
theorem Seq.nil {α : Type} (w : World) (size : Nat) (R : World → Nat → Nat → α → Prop) (d : α) : Seq w size R d (.slice none 0 0) [] := ⟨none, 0, rfl, by simp, by simp, .inl rfl⟩
def BoR (w : World) (b o : Nat) (x : Bool) : Prop := w.cell? ⟨b, o, none⟩ = some (.bool x)
abbrev Bo (w : World) (v : Value) (l : List Bool) : Prop := Seq w 1 BoR false v l
def BosR (w : World) (b o : Nat) (l : List Bool) : Prop := ∃ u, w.cell? ⟨b, o, none⟩ = some u ∧ Bo w u l
abbrev Bos (w : World) (v : Value) (l : List (List Bool)) : Prop := Seq w 1 BosR [] v l
def CesR (w : World) (b o : Nat) (l : CS) : Prop := ∃ u, w.cell? ⟨b, o, none⟩ = some u ∧ Pairs w u l
abbrev Ces (w : World) (v : Value) (l : List CS) : Prop := Seq w 1 CesR [] v l
theorem stays_bo : Stays BoR := fun h hb => cell_below h hb
theorem stays_bos : Stays BosR := fun h hb => by obtain ⟨u, h1, h2⟩ := h; exact ⟨u, cell_below h1 hb, h2.below stays_bo hb⟩
theorem stays_ces : Stays CesR := fun h hb => by obtain ⟨u, h1, h2⟩ := h; exact ⟨u, cell_below h1 hb, h2.below hb⟩
theorem run_cat {P : Program} (W : World) (a b c : ByteArray) (h : a.size + b.size ≤ 9223372036854775807) (hc : c = a ++ b) : (Op.stringOp .add a b).run P W = .ok (.string c) W := by
  rw [hc]
  exact run_string_add_sum W a b h
theorem flat_step {α β : Type} (f : α → List β) (d : α) {xs : List α} {k : Nat} (hk : k < xs.length) : (xs.take (k + 1)).flatMap f = (xs.take k).flatMap f ++ f (xs.getD k d) := by
  rw [List.take_succ_eq_append_getElem hk, List.flatMap_append]
  simp [List.getD, hk]
/-- A row of texts in a block of its own. -/
def strsA (ls : List (List UInt8)) : Array Value := (ls.map fun l => Value.string (bs l)).toArray
theorem strs_cell {w : World} {q : Nat} {ls : List (List UInt8)} (h : Blk w q 9 (strsA ls)) {k : Nat} (hk : k < ls.length) : w.cell? ⟨q, k, none⟩ = some (.string (bs (ls.getD k []))) := by
  rw [h.cell k]
  unfold strsA
  simp [hk, List.getD]
end Go.Proofs.YtibinmabdidecaaGreatDoor
