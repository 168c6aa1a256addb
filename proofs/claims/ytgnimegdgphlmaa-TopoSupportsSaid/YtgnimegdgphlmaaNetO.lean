/-
  Package net: the iterator vars, walked inside a fence.
-/
import Derived.Test.YtgnimegdgphlmaaNetG
import Derived.Test.YtgnimegdgphlmaaKit
import Derived.RangeFuncNested
import Derived.RangeFuncBound
import Derived.RangeFuncCalls
import Derived.RangeFuncLeaves
import Derived.Shelf.Abstract
import Derived.Shelf.RegionOpen
import Derived.OwnWalkIn
import Derived.TacticsInMore
import Derived.LoopNIn
import Derived.LoopIn
namespace Go.Proofs.Ytgnimegdgphlmaa
open Go.ChangeShapes Go.WideShapes Go.ChangeAt Go.RowKit Go.Shelf
set_option linter.unusedVariables false
set_option linter.unusedSimpArgs false
attribute [local go_sem] Oper.semAt_some
/-- What a round keeps: all below n₀, and every block of cells but those of S. -/
structure KpC (S : Nat → Prop) (n₀ : Nat) (W W' : World) : Prop where
  low : Below n₀ W W'
  cells : ∀ k o, W.heap[k]? = some o → o.isCells = true → ¬ S k → W'.heap[k]? = some o
section
variable {S : Nat → Prop} {n₀ : Nat}
theorem KpC.refl (W : World) : KpC S n₀ W W := ⟨Below.refl _ _, fun _ _ h _ _ => h⟩
theorem KpC.trans {A B C : World} (h : KpC S n₀ A B) (k : KpC S n₀ B C) : KpC S n₀ A C := ⟨h.low.trans k.low, fun i o h1 h2 h3 => k.cells i o (h.cells i o h1 h2 h3) h2 h3⟩
theorem KpC.of_below {A B : World} (h : Below A.heap.size A B) (hn : n₀ ≤ A.heap.size) : KpC S n₀ A B := ⟨h.mono hn, fun k o h1 _ _ => by
  rw [h.block k]
  · exact h1
  · exact (Array.getElem?_eq_some_iff.1 h1).1⟩
theorem KpC.alloc {A B : World} (h : KpC S n₀ A B) (hn : n₀ ≤ A.heap.size) (o : Obj) : KpC S n₀ A (B.alloc o) :=
  h.trans (KpC.of_below ((Below.refl _ _).alloc (Nat.le_refl _) _) (Nat.le_trans hn h.low.size))
theorem KpC.blk {A B : World} {g : Nat} {t : TypeId} {cs : Array Value} (h : KpC S n₀ A B) (hb : Blk A g t cs) (hS : ¬ S g) : Blk B g t cs := h.cells g _ hb rfl hS
theorem KpC.drewN {A B : World} (h : KpC S n₀ A B) (n : Nat) : KpC S n₀ A (B.drewN n) := ⟨below_drewN h.low n, h.cells⟩
end
theorem abides_alloc {β : Type} {B : Nat} {J : β → World → Prop} (h : AbidesFrom B J) {s : β} {W : World} (hs : J s W) (o : Obj) : J s (W.alloc o) := h s W _ none hs (World.grownBy_alloc W o none) (fun r e => by cases e)
theorem pre_len {α : Type} {p l : List α} {x : α} (h : p ++ [x] <+: l) : p.length < l.length := by have := h.length_le; simp at this; omega
theorem pre_trans {α : Type} {p q l : List α} (h : p ++ q <+: l) : p <+: l := (List.prefix_append p q).trans h
theorem pre_app {α : Type} (a : List α) {p q : List α} (h : p <+: q) : a ++ p <+: a ++ q := by obtain ⟨t, rfl⟩ := h; exact ⟨t, by rw [List.append_assoc]⟩
theorem pre_map {α β : Type} (f : α → β) (l : List α) (k : Nat) : (l.take k).map f <+: l.map f := by
  refine ⟨(l.drop k).map f, ?_⟩; rw [← List.map_append, List.take_append_drop]
theorem pre_fm {α β : Type} (f : α → List β) (l : List α) (k : Nat) : (l.take k).flatMap f <+: l.flatMap f := by
  refine ⟨(l.drop k).flatMap f, ?_⟩; rw [← List.flatMap_append, List.take_append_drop]
def pB (d : NetD) (k : Nat) : List Int := d.inp ++ (d.lat.take k).map (·.1)
def pC (d : NetD) (k : Nat) : List Int := d.inp ++ d.lat.map (·.1) ++ (d.mems.take k).flatMap memDef
def pD (d : NetD) (k j : Nat) : List Int := pC d k ++ ((d.mems.getD k mem0).rd.take j).flatMap (fun r => dataM r.1 (d.mems.getD k mem0).word)
def pE (d : NetD) (k : Nat) : List Int := d.inp ++ d.lat.map (·.1) ++ d.mems.flatMap memDef ++ (d.ands.take k).map (·.1)
theorem pre_A (d : NetD) (k : Nat) : d.inp.take k <+: definedN d := (List.take_prefix _ _).trans (by unfold definedN; simp [List.append_assoc])
theorem pre_B (d : NetD) (k : Nat) : pB d k <+: definedN d := (pre_app _ (pre_map _ _ _)).trans (by unfold definedN; rw [List.append_assoc (d.inp ++ _)]; exact List.prefix_append _ _)
theorem pre_C (d : NetD) (k : Nat) : pC d k <+: definedN d := (pre_app _ (pre_fm _ _ _)).trans (by unfold definedN; exact List.prefix_append _ _)
theorem pre_E (d : NetD) (k : Nat) : pE d k <+: definedN d := pre_app _ (pre_map _ _ _)
theorem pre_D {d : NetD} {k : Nat} (hk : k < d.mems.length) (j : Nat) : pD d k j <+: definedN d := by
  refine List.IsPrefix.trans ?_ (pre_C d (k + 1))
  unfold pC
  rw [flatMap_take mem0 memDef hk, ← List.append_assoc]
  exact pre_app _ (pre_fm _ _ _)
theorem dat_pre {v : Int} {a b : Nat} (h : a ≤ b) : dat v a <+: dat v b := by
  induction b with
  | zero => rw [show a = 0 by omega]; exact List.prefix_refl _
  | succ b ih =>
    rcases Nat.lt_or_ge a (b + 1) with h1 | h1
    · exact (ih (by omega)).trans (by rw [dat_succ]; exact List.prefix_append _ _)
    · rw [show a = b + 1 by omega]; exact List.prefix_refl _
theorem pre_F {d : NetD} {k j t : Nat} (hk : k < d.mems.length) (hj : j < (d.mems.getD k mem0).rd.length) (ht : t ≤ (d.mems.getD k mem0).word.toNat) : pD d k j ++ dat ((d.mems.getD k mem0).rd.getD j rd0).1 t <+: definedN d := by
  refine List.IsPrefix.trans ?_ (pre_D hk (j + 1))
  unfold pD
  rw [flatMap_take rd0 (fun r : RdD => dataM r.1 (d.mems.getD k mem0).word) hj, ← List.append_assoc]
  exact pre_app _ (dat_pre ht)
end Go.Proofs.Ytgnimegdgphlmaa
