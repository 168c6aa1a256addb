/-
  Netlists (api.Net) as plain data, and how they are read.
-/
import Derived.Test.YtgnimegdgphlmaaIntsB
import Derived.Test.YtgnimegdgphlmaaNetD
import Derived.Deep.QuietTactic
import Derived.BigQuiet
namespace Go.Proofs.Ytgnimegdgphlmaa
open Go.ChangeShapes Go.WideShapes Go.ChangeAt Go.RowKit
set_option linter.unusedVariables false
/-- A slice of elements of size cells, each read by R at its first cell. -/
def Seq {α : Type} (w : World) (size : Nat) (R : World → Nat → Nat → α → Prop) (d : α) (v : Value) (xs : List α) : Prop :=
  ∃ a cap, v = .slice a xs.length cap ∧ xs.length ≤ cap ∧ cap ≤ maxLen ∧ (xs = [] ∨ ∃ b off, a = some ⟨b, off, none⟩ ∧ ∀ j, j < xs.length → R w b (off + j * size) (xs.getD j d))
def TriR (w : World) (b o : Nat) (x : Tri) : Prop := w.cell? ⟨b, o, none⟩ = some (.int .i64 x.1) ∧ w.cell? ⟨b, o + 1, none⟩ = some (.int .i64 x.2.1) ∧ w.cell? ⟨b, o + 2, none⟩ = some (.int .i64 x.2.2)
def RdR (w : World) (b o : Nat) (x : RdD) : Prop := w.cell? ⟨b, o, none⟩ = some (.int .i64 x.1) ∧ ∃ u, w.cell? ⟨b, o + 1, none⟩ = some u ∧ Ints w u x.2
def WrR (w : World) (b o : Nat) (x : WrD) : Prop := w.cell? ⟨b, o, none⟩ = some (.int .i64 x.1) ∧ (∃ u, w.cell? ⟨b, o + 1, none⟩ = some u ∧ Ints w u x.2.1) ∧ ∃ u, w.cell? ⟨b, o + 2, none⟩ = some u ∧ Ints w u x.2.2
def MemR (w : World) (b o : Nat) (x : MemD) : Prop :=
  w.cell? ⟨b, o, none⟩ = some (.int .i64 x.addr) ∧ w.cell? ⟨b, o + 1, none⟩ = some (.int .i64 x.word) ∧ w.cell? ⟨b, o + 2, none⟩ = some (.bool x.any) ∧
  (∃ u, w.cell? ⟨b, o + 3, none⟩ = some u ∧ Seq w 2 RdR rd0 u x.rd) ∧ ∃ u, w.cell? ⟨b, o + 4, none⟩ = some u ∧ Seq w 3 WrR wr0 u x.wr
/-- What is read stays below what a call makes. -/
def Stays {α : Type} (R : World → Nat → Nat → α → Prop) : Prop := ∀ {w w' : World} {b o : Nat} {x : α}, R w b o x → Below w.heap.size w w' → R w' b o x
theorem cell_below {w w' : World} {b o : Nat} {u : Value} (h : w.cell? ⟨b, o, none⟩ = some u) (hb : Below w.heap.size w w') : w'.cell? ⟨b, o, none⟩ = some u :=
  (hb.cell (p := ⟨b, o, none⟩) (World.block_lt_of_cell? w _ h)).trans h
theorem Seq.below {α : Type} {w w' : World} {size : Nat} {R : World → Nat → Nat → α → Prop} {d : α} {v : Value} {xs : List α} (hR : Stays R) (h : Seq w size R d v xs) (hb : Below w.heap.size w w') : Seq w' size R d v xs := by
  obtain ⟨a, cap, rfl, h1, h2, h3⟩ := h
  refine ⟨a, cap, rfl, h1, h2, ?_⟩
  rcases h3 with h3 | ⟨b, off, rfl, hc⟩
  · exact .inl h3
  · exact .inr ⟨b, off, rfl, fun j hj => hR (hc j hj) hb⟩
theorem stays_tri : Stays TriR := fun h hb => ⟨cell_below h.1 hb, cell_below h.2.1 hb, cell_below h.2.2 hb⟩
theorem stays_rd : Stays RdR := fun h hb => by
  obtain ⟨h1, u, h2, h3⟩ := h
  exact ⟨cell_below h1 hb, u, cell_below h2 hb, h3.below hb⟩
theorem stays_wr : Stays WrR := fun h hb => by
  obtain ⟨h1, ⟨u, h2, h3⟩, v, h4, h5⟩ := h
  exact ⟨cell_below h1 hb, ⟨u, cell_below h2 hb, h3.below hb⟩, v, cell_below h4 hb, h5.below hb⟩
theorem stays_mem : Stays MemR := fun h hb => by
  obtain ⟨h1, h2, h3, ⟨u, h4, h5⟩, v, h6, h7⟩ := h
  exact ⟨cell_below h1 hb, cell_below h2 hb, cell_below h3 hb, ⟨u, cell_below h4 hb, h5.below stays_rd hb⟩, v, cell_below h6 hb, h7.below stays_wr hb⟩
theorem Seq.form {α : Type} {w : World} {size : Nat} {R : World → Nat → Nat → α → Prop} {d : α} {v : Value} {xs : List α} (h : Seq w size R d v xs) : ∃ a cap, v = .slice a xs.length cap ∧ xs.length ≤ cap ∧ cap ≤ maxLen := by
  obtain ⟨a, cap, rfl, h1, h2, -⟩ := h; exact ⟨a, cap, rfl, h1, h2⟩
theorem Seq.at_ {α : Type} {w : World} {size : Nat} {R : World → Nat → Nat → α → Prop} {d : α} {v : Value} {xs : List α} (h : Seq w size R d v xs) {j : Nat} (hj : j < xs.length) :
    ∃ b off cap, v = .slice (some ⟨b, off, none⟩) xs.length cap ∧ R w b (off + j * size) (xs.getD j d) := by
  obtain ⟨a, cap, rfl, -, -, h3⟩ := h
  have hne : xs ≠ [] := fun e => by rw [e] at hj; simp at hj
  obtain ⟨b, off, rfl, hc⟩ := h3.resolve_left hne
  exact ⟨b, off, cap, rfl, hc j hj⟩
/-- The netlist's fields, where they lie. -/
structure NetP (w : World) (d : NetD) (vi vl vo vb vc vm va : Value) : Prop where
  inp : Ints w vi d.inp
  lat : Seq w 3 TriR tri0 vl d.lat
  out : Ints w vo d.out
  bad : Ints w vb d.bad
  con : Ints w vc d.con
  mems : Seq w 5 MemR mem0 vm d.mems
  ands : Seq w 3 TriR tri0 va d.ands
theorem NetP.below {w w' : World} {d : NetD} {vi vl vo vb vc vm va : Value} (h : NetP w d vi vl vo vb vc vm va) (hb : Below w.heap.size w w') : NetP w' d vi vl vo vb vc vm va :=
  ⟨h.inp.below hb, h.lat.below stays_tri hb, h.out.below hb, h.bad.below hb, h.con.below hb, h.mems.below stays_mem hb, h.ands.below stays_tri hb⟩
def netV (d : NetD) (vi vl vo vb vc vm va : Value) : Value := .agg #[.int .i64 d.vars, vi, vl, vo, vb, vc, vm, va]
end Go.Proofs.Ytgnimegdgphlmaa
