/-
  Slices of slices of numbers that a call has made itself.
-/
import Derived.Test.YtkofhilgehhopaaIntsS
import Derived.Test.YtkofhilgehhopaaInts
import Derived.Test.YtkofhilgehhopaaApp
namespace Go.Proofs.Ytkofhilgehhopaa
open Go.ChangeShapes Go.WideShapes Go.ChangeAt Go.RowKit
set_option linter.unusedVariables false
/-- A row of lists of the call's own (the call began at w), whose outer cells alone are its own to turn. -/
def OwnS (w wr : World) (out : Value) (xss : List (List Int)) : Prop :=
  ∃ us, Row wr 32 1 out xss.length us ∧ (∀ g, out.ownBlock = some g → w.heap.size ≤ g) ∧ Cls wr (fun g => out.ownBlock = some g) us xss ∧ Below w.heap.size w wr
theorem OwnS.start (w : World) : OwnS w w (.slice none 0 0) [] :=
  ⟨[], World.ownsRow_nil _ _ _ _, fun g hg => by simp [Value.ownBlock] at hg, Cls.nil _ _, Below.refl _ _⟩
theorem OwnS.intsS {w wr : World} {out : Value} {xss : List (List Int)} (h : OwnS w wr out xss) : IntsS wr out xss := by
  obtain ⟨us, h1, -, h3, -⟩ := h
  exact h1.intsS h3
theorem OwnS.old {w wr : World} {out : Value} {xss : List (List Int)} (h : OwnS w wr out xss) : Below w.heap.size w wr := by
  obtain ⟨us, -, -, -, h⟩ := h
  exact h
theorem OwnS.below {w wr wx : World} {out : Value} {xss : List (List Int)} (h : OwnS w wr out xss) (hb : Below wr.heap.size wr wx) : OwnS w wx out xss := by
  obtain ⟨us, h1, h2, h3, h4⟩ := h
  exact ⟨us, h1.chg (S := fun _ => False) (Chg.of_below hb) (fun _ _ h => h), h2, h3.below hb, h4.trans (hb.mono h4.size)⟩
theorem OwnS.from_ {w wr wx : World} {out : Value} {xss : List (List Int)} (h : OwnS wr wx out xss) (hb : Below w.heap.size w wr) : OwnS w wx out xss := by
  obtain ⟨us, h1, h2, h3, h4⟩ := h
  exact ⟨us, h1, fun g hg => Nat.le_trans hb.size (h2 g hg), h3, hb.trans (h4.mono hb.size)⟩
theorem OwnS.drew {w wr : World} {out : Value} {xss : List (List Int)} (h : OwnS w wr out xss) : OwnS w wr.drew out xss := by
  obtain ⟨us, h1, h2, h3, h4⟩ := h
  exact ⟨us, h1, h2, h3, h4.drew⟩
theorem OwnS.form {w wr : World} {out : Value} {xss : List (List Int)} (h : OwnS w wr out xss) : ∃ a cap, out = .slice a xss.length cap := by
  obtain ⟨us, h1, -⟩ := h
  rcases h1.form with ⟨rfl, h0, -⟩ | ⟨g, cap, rfl, -⟩
  · exact ⟨_, _, by rw [h0]⟩
  · exact ⟨_, _, rfl⟩
/-- One list more: it is read, and does not lie in the row's own block. -/
theorem OwnS.app {w wr w3 : World} {out v' u : Value} {xss : List (List Int)} {l : List Int} {us : List Value} (h1 : Row wr 32 1 out xss.length us) (h2 : ∀ g, out.ownBlock = some g → w.heap.size ≤ g) (h3 : Cls wr (fun g => out.ownBlock = some g) us xss) (h4 : Below w.heap.size w wr)
    (hi : Ints wr u l) (hu : ∀ g, u.ownBlock = some g → out.ownBlock ≠ some g ∧ g < wr.heap.size) (hp : AppPost (wr.alloc (.cells #[u] 32)) 32 1 out (xss.length + 1) (us ++ [u]) v' w3) : OwnS w w3 v' (xss ++ [l]) := by
  obtain ⟨p1, p2, p3⟩ := hp
  have zA : (wr.alloc (.cells #[u] 32)).heap.size = wr.heap.size + 1 := by simp
  have hA : Below wr.heap.size wr (wr.alloc (.cells #[u] 32)) := (Below.refl _ _).alloc (Nat.le_refl _) _
  have hs := h4.size
  refine ⟨us ++ [u], by simpa using p1, fun g hg => ?_, ?_, ((h4.trans (hA.mono hs))).trans (p2.below (by simp; omega) h2)⟩
  · rcases p3 with e | e
    · rw [e] at hg; exact h2 g hg
    · rw [e] at hg; injection hg with hg; omega
  · have q0 : Cls wr (fun g => out.ownBlock = some g ∨ wr.heap.size ≤ g) us xss := by
      refine ⟨h3.1, fun j hj => ⟨(h3.2 j hj).1, fun g hg => ?_⟩⟩
      obtain ⟨r1, r2⟩ := (h3.2 j hj).2 g hg
      refine ⟨fun hS => ?_, r2⟩
      rcases hS with hS | hS
      · exact r1 hS
      · omega
    have q1 := (q0.below hA).chg p2 (fun g _ e => .inl e)
    have q2 : Cls w3 (fun g => v'.ownBlock = some g) us xss := q1.mono (fun g _ e => by
      rcases p3 with e' | e'
      · rw [e'] at e; exact .inl e
      · rw [e'] at e; injection e with e; exact .inr (by omega))
    refine q2.snoc ((hi.below hA).chg p2 (fun g hg e => (hu g hg).1 e)) (fun g hg => ⟨fun e => ?_, ?_⟩)
    · rcases p3 with e' | e'
      · rw [e'] at e; exact (hu g hg).1 e
      · rw [e'] at e; injection e with e; have := (hu g hg).2; omega
    · have := (hu g hg).2; have := p2.size; omega
theorem clone_form {w w' : World} {u : Value} {l : List Int} (h : ClonePost w l u w') : ∃ a cap, u = .slice a l.length cap := by
  rcases h.1.form with ⟨rfl, h0, -⟩ | ⟨g, cap, rfl, -⟩
  · exact ⟨_, _, by rw [h0]⟩
  · exact ⟨_, _, rfl⟩
end Go.Proofs.Ytkofhilgehhopaa
