/-
  Blocks of cells, known whole by a function.
-/
import Derived.Test.YtlahecdpcpejpaaDoorFoot
namespace Go.Proofs.YtlahecdpcpejpaaDoor
open Go Go.RowKit
set_option linter.unusedVariables false
def vcells (n : Nat) (f : Nat → Value) : Array Value := ((List.range n).map f).toArray
theorem vcells_size (n : Nat) (f : Nat → Value) : (vcells n f).size = n := by simp [vcells]
theorem vcells_get {n : Nat} (f : Nat → Value) {i : Nat} (h : i < n) : (vcells n f)[i]? = some (f i) := by simp [vcells, h]
theorem vcells_ext {n : Nat} {f g : Nat → Value} (h : ∀ i, i < n → f i = g i) : vcells n f = vcells n g := by
  unfold vcells
  congr 1
  exact List.map_congr_left fun i hi => h i (by simpa using hi)
theorem vcells_set {n : Nat} (f : Nat → Value) (k : Nat) (u : Value) : (vcells n f).setIfInBounds k u = vcells n (fun i => if i = k then u else f i) := by
  apply Array.ext
  · simp [vcells]
  · intro i h1 h2
    simp only [vcells, List.setIfInBounds_toArray, List.getElem_toArray, List.getElem_set, List.getElem_map, List.getElem_range]
    by_cases e : k = i
    · subst e; simp
    · rw [if_neg e, if_neg (fun h => e h.symm)]
theorem made_vcells (z : Value) (n : Nat) : madeCells #[z] (n * 1) = vcells n (fun _ => z) := by
  apply Array.ext
  · simp [madeCells, vcells]
  · intro i h1 h2
    simp [madeCells, vcells, Nat.mod_one]
/-- A block of n cells, by a function. -/
def VBlk (w : World) (g : Nat) (t : TypeId) (n : Nat) (f : Nat → Value) : Prop := Blk w g t (vcells n f)
section
variable {w w' : World} {g n : Nat} {t : TypeId} {f : Nat → Value}
theorem VBlk.cell (h : VBlk w g t n f) {i : Nat} (hi : i < n) : w.cell? ⟨g, i, none⟩ = some (f i) := (Blk.cell h i).trans (vcells_get f hi)
theorem VBlk.frozen (h : VBlk w g t n f) (i : Nat) : w.frozen? ⟨g, i, none⟩ = false := Blk.frozen h i
theorem VBlk.lt (h : VBlk w g t n f) : g < w.heap.size := Blk.lt h
theorem VBlk.set_ (h : VBlk w g t n f) (k : Nat) (u : Value) : VBlk (w.setCell ⟨g, k, none⟩ u) g t n (fun i => if i = k then u else f i) := by
  have := Blk.set_ h k u
  rw [vcells_set] at this
  exact this
theorem VBlk.far (h : VBlk w g t n f) {p : Addr} (hp : g ≠ p.block) (u : Value) : VBlk (w.setCell p u) g t n f := Blk.far h hp u
theorem VBlk.below {B : Nat} (h : VBlk w g t n f) (hb : Below B w w') (hg : g < B) : VBlk w' g t n f := Blk.below h hb hg
theorem VBlk.later (h : VBlk w g t n f) (hb : Below w.heap.size w w') : VBlk w' g t n f := Blk.below h hb (Blk.lt h)
theorem VBlk.ext {f' : Nat → Value} (h : VBlk w g t n f) (he : ∀ i, i < n → f i = f' i) : VBlk w g t n f' := by
  unfold VBlk at h ⊢; rw [← vcells_ext he]; exact h
theorem VBlk.made (w : World) (t : TypeId) (z : Value) (n : Nat) : VBlk (w.alloc (.cells (madeCells #[z] (n * 1)) t)) w.heap.size t n (fun _ => z) := by
  rw [made_vcells]; exact Blk.new w t _
theorem VBlk.made1 (w : World) (t : TypeId) (z : Value) (n : Nat) (h : ∀ i, i < n → f i = z) : VBlk (w.alloc (.cells (madeCells #[z] n) t)) w.heap.size t n f := by
  have h1 := VBlk.made w t z n
  rw [Nat.mul_one] at h1
  exact h1.ext fun i hi => (h i hi).symm
end
end Go.Proofs.YtlahecdpcpejpaaDoor
