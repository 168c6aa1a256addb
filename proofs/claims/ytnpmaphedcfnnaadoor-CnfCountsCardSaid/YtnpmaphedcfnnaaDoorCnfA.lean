/-
  Package cnf: New, Grow, Vars, Len, all, walked.
-/
import Derived.Test.YtnpmaphedcfnnaaDoorIntsS
import Derived.Test.YtnpmaphedcfnnaaDoorClB0
namespace Go.Proofs.YtnpmaphedcfnnaaDoor
open Go.ChangeShapes Go.WideShapes Go.ChangeAt Go.RowKit
set_option linter.unusedVariables false
/-- A formula of its own at block f (blocks from B on). -/
def FAt (B : Nat) (w : World) (f : Nat) (vars : Int) (xss : List (List Int)) : Prop :=
  B ≤ f ∧ ∃ vl us, Blk w f 64 #[.int .i64 vars, vl] ∧ Row w 23 1 vl xss.length us ∧ (∀ g, vl.ownBlock = some g → B ≤ g ∧ g ≠ f) ∧ Cls w (fun g => g = f ∨ vl.ownBlock = some g) us xss
/-- The same, with the blocks that it may turn. -/
def FAtF (fp : Nat → Prop) (B : Nat) (w : World) (f : Nat) (vars : Int) (xss : List (List Int)) : Prop :=
  B ≤ f ∧ ∃ vl us, Blk w f 64 #[.int .i64 vars, vl] ∧ Row w 23 1 vl xss.length us ∧ (∀ g, vl.ownBlock = some g → B ≤ g ∧ g ≠ f) ∧ Cls w (fun g => g = f ∨ vl.ownBlock = some g) us xss ∧ (∀ g, (g = f ∨ vl.ownBlock = some g ∨ ∃ j, j < xss.length ∧ (us.getD j undef).ownBlock = some g) → fp g) ∧ ∀ g, fp g → g < w.heap.size
theorem FAtF.toF {fp : Nat → Prop} {B : Nat} {w : World} {f : Nat} {vars : Int} {xss : List (List Int)} (h : FAtF fp B w f vars xss) : FAt B w f vars xss := by
  obtain ⟨h0, vl, us, h1, h2, h3, h4, -, -⟩ := h
  exact ⟨h0, vl, us, h1, h2, h3, h4⟩
theorem FAtF.chg {fp S : Nat → Prop} {B : Nat} {w w' : World} {f : Nat} {vars : Int} {xss : List (List Int)} (h : FAtF fp B w f vars xss) (hc : Chg S w w') (hn : ∀ g, fp g → ¬ S g) : FAtF fp B w' f vars xss := by
  obtain ⟨h0, vl, us, h1, h2, h3, h4, h5, h6⟩ := h
  refine ⟨h0, vl, us, h1.chg hc (hn f (h5 f (.inl rfl))), h2.chg hc (fun g hg => hn g (h5 g (.inr (.inl hg)))), h3, ?_, h5, fun g hg => Nat.lt_of_lt_of_le (h6 g hg) hc.size⟩
  refine ⟨h4.1, fun j hj => ⟨(h4.2 j hj).1.chg hc (fun g hg => hn g (h5 g (.inr (.inr ⟨j, hj, hg⟩)))), fun g hg => ⟨((h4.2 j hj).2 g hg).1, Nat.lt_of_lt_of_le ((h4.2 j hj).2 g hg).2 hc.size⟩⟩⟩
theorem FAtF.below {fp : Nat → Prop} {B : Nat} {w w' : World} {f : Nat} {vars : Int} {xss : List (List Int)} (h : FAtF fp B w f vars xss) (hb : Below w.heap.size w w') : FAtF fp B w' f vars xss := h.chg (S := fun _ => False) (Chg.of_below hb) (fun _ _ h => h)
theorem FAt.below {B : Nat} {w w' : World} {f : Nat} {vars : Int} {xss : List (List Int)} (h : FAt B w f vars xss) (hb : Below w.heap.size w w') : FAt B w' f vars xss := by
  obtain ⟨h0, vl, us, h1, h2, h3, h4⟩ := h
  exact ⟨h0, vl, us, h1.below hb h1.lt, h2.chg (S := fun _ => False) (Chg.of_below hb) (fun _ _ h => h), h3, h4.below hb⟩
theorem FAt.drew {B : Nat} {w : World} {f : Nat} {vars : Int} {xss : List (List Int)} (h : FAt B w f vars xss) : FAt B w.drew f vars xss := h
theorem FAt.read {B : Nat} {w : World} {f : Nat} {vars : Int} {xss : List (List Int)} (h : FAt B w f vars xss) : ∃ vl, w.cell? ⟨f, 0, none⟩ = some (.int .i64 vars) ∧ w.cell? ⟨f, 1, none⟩ = some vl ∧ IntsS w vl xss := by
  obtain ⟨h0, vl, us, h1, h2, h3, h4⟩ := h
  exact ⟨vl, h1.cell 0, h1.cell 1, h2.intsS h4⟩
theorem New_off (n : Int) (h : n < 0 ∨ 65536 < n) (w : World) : Calls Tryd.prog 29 #[.int .i64 n] w fun e w' => e = .returned (.pointer none) ∧ w = w' := by
  rcases h with h | h
  all_goals
    go_enter Tryd.func29, Tryd.ntmps29
    go_wp2
    go_ret
    exact ⟨rfl, rfl⟩
theorem New_on (n : Int) (h0 : 0 ≤ n) (h1 : n ≤ 65536) (w : World) : Calls Tryd.prog 29 #[.int .i64 n] w fun e w' => ∃ f, e = .returned (.pointer (some ⟨f, 0, none⟩)) ∧ FAt w.heap.size w' f n [] ∧ Below w.heap.size w w' := by
  go_enter Tryd.func29, Tryd.ntmps29
  go_wp2
  go_ret
  refine ⟨w.heap.size, rfl, ⟨Nat.le_refl _, .slice none 0 0, [], Blk.new w 64 _, World.ownsRow_nil _ _ _ _, fun g hg => by simp [Value.ownBlock] at hg, Cls.nil _ _⟩, (Below.refl _ _).alloc (Nat.le_refl _) _⟩
theorem Grow_nil (n : Int) (w : World) : Calls Tryd.prog 25 #[.pointer none, .int .i64 n] w fun e w' => e = .returned (.int .i64 1) ∧ w = w' := by
  go_enter Tryd.func25, Tryd.ntmps25
  go_wp2
  go_ret
  exact ⟨rfl, rfl⟩
theorem Vars_nil (w : World) : Calls Tryd.prog 17 #[.pointer none] w fun e w' => e = .returned (.int .i64 0) ∧ w = w' := by
  go_enter Tryd.func17, Tryd.ntmps17
  go_wp2
  go_ret
  exact ⟨rfl, rfl⟩
theorem Vars_ {B : Nat} {w : World} {f : Nat} {vars : Int} {xss : List (List Int)} (h : FAt B w f vars xss) : Calls Tryd.prog 17 #[.pointer (some ⟨f, 0, none⟩)] w fun e w' => e = .returned (.int .i64 vars) ∧ w = w' := by
  obtain ⟨vl, c0, c1, -⟩ := h.read
  clear h c1
  go_enter Tryd.func17, Tryd.ntmps17
  go_wp2
  go_ret
  exact ⟨rfl, rfl⟩
theorem all_nil (w : World) : Calls Tryd.prog 39 #[.pointer none] w fun e w' => e = .returned (.slice none 0 0) ∧ w = w' := by
  go_enter Tryd.func39, Tryd.ntmps39
  go_wp2
  go_ret
  exact ⟨rfl, rfl⟩
theorem all_ {w : World} {f : Nat} {vl : Value} (c1 : w.cell? ⟨f, 1, none⟩ = some vl) : Calls Tryd.prog 39 #[.pointer (some ⟨f, 0, none⟩)] w fun e w' => e = .returned vl ∧ w = w' := by
  go_enter Tryd.func39, Tryd.ntmps39
  go_wp2
  go_ret
  exact ⟨rfl, rfl⟩
theorem Len_nil (w : World) : Calls Tryd.prog 18 #[.pointer none] w fun e w' => e = .returned (.int .i64 0) ∧ w = w' := by
  go_enter Tryd.func18, Tryd.ntmps18
  go_wp2_with ((go_at_call 39; refine (all_nil _).mono ?_; rintro e w' ⟨rfl, rfl⟩))
  go_ret
  exact ⟨rfl, rfl⟩
theorem Len_ {B : Nat} {w : World} {f : Nat} {vars : Int} {xss : List (List Int)} (h : FAt B w f vars xss) : Calls Tryd.prog 18 #[.pointer (some ⟨f, 0, none⟩)] w fun e w' => e = .returned (.int .i64 xss.length) ∧ w = w' := by
  obtain ⟨vl, c0, c1, h2⟩ := h.read
  obtain ⟨a, cap, rfl, -, -⟩ := h2.form
  have HA := Lib.hid (all_ c1)
  obtain ⟨n, hn⟩ : ∃ n, n = xss.length := ⟨_, rfl⟩
  rw [← hn] at HA ⊢
  clear h c0 c1 h2 hn
  go_enter Tryd.func18, Tryd.ntmps18
  go_wp2_with ((go_at_call 39; refine (HA.out).mono ?_; rintro e w' ⟨rfl, rfl⟩))
  go_ret
  exact ⟨rfl, rfl⟩
end Go.Proofs.YtnpmaphedcfnnaaDoor
