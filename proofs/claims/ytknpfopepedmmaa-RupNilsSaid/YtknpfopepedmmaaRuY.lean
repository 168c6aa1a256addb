/-
  Package rup: New, walked.
-/
import Derived.Test.YtknpfopepedmmaaRuX
namespace Go.Proofs.Ytknpfopepedmmaa
open Go Go.ChangeShapes Go.WideShapes Go.ChangeAt Go.RowKit Go.Maps
set_option linter.unusedVariables false
set_option linter.unusedSimpArgs false
/-- Nothing is kept. -/
def RS0 : RS := ⟨[], [], [], 0, -1⟩
set_option maxHeartbeats 4000000 in
set_option maxRecDepth 100000 in
theorem rupNew_ (w : World) :
    Calls Try.prog 12 #[] w fun e w' => ∃ r, e = .returned (kp r) ∧ Below w.heap.size w w' ∧ CkAt w' r RS0 (fun g => w.heap.size ≤ g) := by
  have hmm := @run_makeMap Try.prog
  go_enter Try.func12, Try.ntmps12
  go_wp2_with fail
  go_returns
  obtain ⟨N, hN⟩ : ∃ N, N = w.heap.size := ⟨_, rfl⟩
  have m1 : MapF eBool (w.alloc (.map #[] 0)) N 0 (fun _ => none) := by rw [hN]; exact MapF.made _ _
  have m2 : MapF eSl ((w.alloc (.map #[] 0)).alloc (.map #[] 0)) (N + 1) 0 (fun _ => none) := by
    have := MapF.made eSl (w.alloc (.map #[] 0))
    simp only [World.size_alloc, ← hN] at this
    exact this
  have m3 : MapF eMark (((w.alloc (.map #[] 0)).alloc (.map #[] 0)).alloc (.map #[] 0)) (N + 1 + 1) 0 (fun _ => none) := by
    have := MapF.made eMark ((w.alloc (.map #[] 0)).alloc (.map #[] 0))
    simp only [World.size_alloc, ← hN] at this
    exact this
  have m4 := Blk.new (((w.alloc (.map #[] 0)).alloc (.map #[] 0)).alloc (.map #[] 0)) 72 #[.slice none 0 0, .map (some N), .map (some (N + 1)), .map (some (N + 1 + 1)), .slice none 0 0, .int .i64 0, .int .i64 (-1)]
  simp only [World.size_alloc, ← hN] at m4
  rw [← hN]
  have a1 : ∀ (α : Type) (E : EKnd α) (w : World) (b n : Nat) (f : Int → Option α) (o : Obj), MapF E w b n f → MapF E (w.alloc o) b n f := fun α E w b n f o h => h.chg (S := fun _ => False) (Chg.of_below (Below.alloc (Below.refl _ _) (Nat.le_refl _) o)) (fun e => e)
  refine ⟨N + 1 + 1 + 1, by first | rfl | rw [hN]; rfl, ?_, .slice none 0 0, .slice none 0 0, N, N + 1, N + 1 + 1, 0, 0, 0, [], fun _ => none, ?_, ?_, Nat.le_refl _, Nat.le_refl _⟩
  · exact (((Below.refl _ w).alloc (by omega) _).alloc (by simp; omega) _).alloc (by simp; omega) _ |>.alloc (by simp; omega) _
  · refine ⟨?_, World.ownsRow_nil _ _ _ _, ⟨rfl, fun j hj => absurd hj (by simp [RS0])⟩, ?_, ?_, fun x => World.ownsRow_nil _ _ _ _, ?_, World.ownsRow_nil _ _ _ _, by omega, fun g hg => by simp [Value.ownBlock] at hg, fun g hg => by simp [Value.ownBlock] at hg, fun g hg => by obtain ⟨x, hx⟩ := hg; simp [hv, evSl, Value.ownBlock] at hx, fun x y g _ hg => by simp [hv, evSl, Value.ownBlock] at hg⟩
    · exact m4
    · have e : onF RS0 = fun _ => none := by funext x; simp [onF, RS0, RS.onA]
      rw [e]
      exact a1 _ _ _ _ _ _ _ (a1 _ _ _ _ _ _ _ (a1 _ _ _ _ _ _ _ m1))
    · exact a1 _ _ _ _ _ _ _ (a1 _ _ _ _ _ _ _ m2)
    · have e : markF RS0 = fun _ => none := by funext x; simp [markF, RS0]
      rw [e]
      exact a1 _ _ _ _ _ _ _ m3
  · intro g hg
    rcases hg with e | e | e | e | e | e | ⟨x, e⟩
    · rw [e]; omega
    · rw [e]; omega
    · rw [e]; omega
    · rw [e]; omega
    · simp [Value.ownBlock] at e
    · simp [Value.ownBlock] at e
    · simp [hv, evSl, Value.ownBlock] at e
end Go.Proofs.Ytknpfopepedmmaa
