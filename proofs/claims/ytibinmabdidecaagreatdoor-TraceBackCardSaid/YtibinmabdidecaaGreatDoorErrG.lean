/-
  Errors by what is told of them: in any dress.
-/
import Derived.Test.YtibinmabdidecaaGreatDoorErrF
namespace Go.Proofs.YtibinmabdidecaaGreatDoor
open Go.ChangeShapes Go.WideShapes Go.ChangeAt Go.RowKit
set_option linter.unusedVariables false
/-- An error of kind f at p (told so), in any dress. -/
def Bad (w : World) (f p : Nat) (v : Value) : Prop := ∃ ch, Chain w (f : Int) ch v ∧ ch ≠ [] ∧ ∀ d, lastAt d ch = (p : Int)
theorem Bad.below {w w' : World} {f p : Nat} {v : Value} (h : Bad w f p v) (hb : Below w.heap.size w w') : Bad w' f p v := by
  obtain ⟨ch, h1, h2⟩ := h
  exact ⟨ch, h1.below hb, h2⟩
theorem Bad.iface {w : World} {f p : Nat} {v : Value} (h : Bad w f p v) : ∃ x, v = .iface 89 x := by
  obtain ⟨ch, h1, h2, -⟩ := h
  match ch, h1, h2 with
  | (b, a) :: r, h1, _ => exact ⟨_, h1.1⟩
theorem lastAt_map : ∀ (ch : List (Nat × Int)) (l : List Int), ch.map (·.2) = l → ∀ d, lastAt d ch = l.getLastD d
  | [], l, h, d => by subst h; rfl
  | (b, a) :: r, l, h, d => by
    subst h
    have := lastAt_map r _ rfl a
    show lastAt a r = _
    rw [this]
    cases hr : List.map (·.2) r with
    | nil => rw [List.map_cons, hr]; rfl
    | cons x y => rw [List.map_cons, hr]; rfl
/-- fault.New of what is wrong. -/
theorem New_B (f p : Nat) (hf : 0 < f) (w : World) : Calls Tryz.prog 37 #[.int .i64 (f : Int), .int .i64 (p : Int)] w fun e w' => ∃ v, e = .returned v ∧ Bad w' f p v ∧ Below w.heap.size w w' := by
  refine (New_C (f : Int) (p : Int) (by rw [beq_eq_false_iff_ne]; omega) w).mono ?_
  rintro e w' ⟨l, v, rfl, h1, h2, h3⟩
  exact ⟨v, rfl, ⟨l, h1, fun e => by rw [e] at h2; simp at h2, fun d => by rw [lastAt_map l _ h2 d]; rfl⟩, h3⟩
theorem Wrap_B {w : World} {v : Value} {f p : Nat} (hL : Laid w) (h : Bad w f p v) (a : Int) : Calls Tryz.prog 56 #[v, .int .i64 a] w fun e w' => ∃ u, e = .returned u ∧ Bad w' f p u ∧ Below w.heap.size w w' := by
  obtain ⟨ch, h1, h2, h3⟩ := h
  refine (Wrap_C hL h1 a).mono ?_
  rintro e w' ⟨l, u, rfl, g1, g2, g3⟩
  refine ⟨u, rfl, ⟨l, g1, fun e => by rw [e] at g2; simp at g2, fun d => ?_⟩, g3⟩
  rw [lastAt_map l _ g2 d]
  obtain ⟨⟨b, x⟩, y, rfl⟩ : ∃ x y, ch = x :: y := by
    cases ch with
    | nil => exact absurd rfl h2
    | cons x y => exact ⟨x, y, rfl⟩
  have := h3 a
  rw [lastAt_map _ _ rfl a] at this
  rw [← this]
  rfl
end Go.Proofs.YtibinmabdidecaaGreatDoor
