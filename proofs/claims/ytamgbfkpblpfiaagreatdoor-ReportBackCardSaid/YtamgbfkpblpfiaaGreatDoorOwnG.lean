/-
  Lists of the call's own, of elements of one cell, of any kind.
-/
import Derived.Test.YtamgbfkpblpfiaaGreatDoorApp
import Derived.Test.YtamgbfkpblpfiaaGreatDoorProg
namespace Go.Proofs.YtamgbfkpblpfiaaGreatDoor
open Go.ChangeShapes Go.WideShapes Go.ChangeAt Go.RowKit
set_option linter.unusedVariables false
/-- A kind of elements: its types, how an element lies in its cell. -/
structure Knd (α : Type) where
  e : TypeId
  t : TypeId
  enc : α → Value
  z : Value
  bytes : Nat
  one : ∀ x, (enc x).oneCell' = true
  ht : Tryz.prog.underlying t = some (.slice e)
  hi : (Tryz.prog.info? e).map (fun i => (i.zero, i.size, i.bytes)) = some (some z, 1, bytes)
  hz : z.cells.size = 1
  hb : bytes ≤ 24
def OwnG {α : Type} (K : Knd α) (w wr : World) (out : Value) (xs : List α) : Prop := Row wr K.e 1 out xs.length (xs.map K.enc) ∧ Below w.heap.size w wr ∧ ∀ g, out.ownBlock = some g → w.heap.size ≤ g
section
variable {α : Type} {K : Knd α} {w wr wx : World} {out : Value} {xs : List α}
theorem OwnG.start (K : Knd α) (w : World) : OwnG K w w (.slice none 0 0) [] := ⟨World.ownsRow_nil _ _ _ _, Below.refl _ _, fun k hk => by simp [Value.ownBlock] at hk⟩
theorem OwnG.below (h : OwnG K w wr out xs) (hb : Below wr.heap.size wr wx) : OwnG K w wx out xs :=
  ⟨h.1.chg (S := fun _ => False) (Chg.of_below hb) (fun _ _ h => h), h.2.1.trans (hb.mono h.2.1.size), h.2.2⟩
theorem OwnG.from_ (h : OwnG K wr wx out xs) (hb : Below w.heap.size w wr) : OwnG K w wx out xs :=
  ⟨h.1, hb.trans (h.2.1.mono hb.size), fun g hg => Nat.le_trans hb.size (h.2.2 g hg)⟩
theorem OwnG.form (h : OwnG K w wr out xs) : ∃ A cap, out = .slice A xs.length cap ∧ xs.length ≤ cap ∧ cap ≤ maxLen := by
  rcases h.1.form with ⟨rfl, h0, -⟩ | ⟨g, cap, rfl, h1, h2, -, -⟩
  · exact ⟨none, 0, by rw [h0], by omega, by simp⟩
  · exact ⟨_, cap, rfl, h1, h2⟩
theorem OwnG.cell (h : OwnG K w wr out xs) (d : α) {j : Nat} (hj : j < xs.length) : ∃ g cap, out = .slice (some ⟨g, 0, none⟩) xs.length cap ∧ wr.cell? ⟨g, j, none⟩ = some (K.enc (xs.getD j d)) ∧ w.heap.size ≤ g ∧ g < wr.heap.size := by
  rcases h.1.form with ⟨-, h0, -⟩ | ⟨g, cap, e, h1, h2, h3, hc⟩
  · omega
  · refine ⟨g, cap, e, ?_, h.2.2 g (by rw [e]; rfl), h3⟩
    rw [(hc j (by simpa using hj)).1]
    simp [List.getD, hj]
theorem wpList_G {ops : Array Oper} {rest : List Oper} {o : Oper} {a : Act} {Q : Exit → Act → World → Prop} {v : Value} (K : Knd α) (hgd : o.guard = none) (s x : Operand)
    (ho : o.op = .call { callee := .builtin .append, args := #[s, x], argTypes := #[K.t, K.t] })
    (xs : List α) (hs : a.eval s = v) (A : Option Addr) (m c : Nat) (ys : List α) (hx : a.eval x = .slice A m c) (hm : ys.length = m) (hl : xs.length + m ≤ 1099511627776)
    (hown : OwnG K w wr v xs) (hsrc : Src wr A 1 m (ys.map K.enc))
    (h : ∀ v' w', OwnG K w w' v' (xs ++ ys) → wpList Tryz.prog ops Q rest (a.put o.dst v') w') : wpList Tryz.prog ops Q (o :: rest) a wr := by
  subst hm
  have hb := K.hb
  refine wpList_appS hgd s x K.t ho K.e K.z 1 K.bytes K.ht K.hi K.hz (by decide) v xs.length (xs.map K.enc) hs hown.1 A _ c (ys.map K.enc) hx hsrc ?_ (by unfold maxLen; omega) ?_ fun v' w' hp => h v' w' ?_
  · intro u hu
    obtain ⟨x, -, rfl⟩ := List.mem_map.1 hu
    exact K.one x
  · have : (xs.length + ys.length) * K.bytes ≤ 1099511627776 * 24 := Nat.mul_le_mul hl hb
    omega
  · obtain ⟨p1, p2, p3⟩ := hp
    refine ⟨by rw [List.length_append, List.map_append]; exact p1, hown.2.1.trans (p2.below hown.2.1.size (fun i hi => hown.2.2 i hi)), fun g hg => ?_⟩
    rcases p3 with e | e
    · rw [e] at hg; exact hown.2.2 g hg
    · rw [e] at hg; simp at hg; have := hown.2.1.size; omega
end
end Go.Proofs.YtamgbfkpblpfiaaGreatDoor
