/-
  LitsMakes: for every input the law returns true. No condition.
-/
import Derived.Test.YtpophiiejmhniaaLaw
namespace Go.Proofs.Ytpophiiejmhniaa.litsMakes
open Go.ChangeShapes Go.WideShapes Go.ChangeAt Go.RowKit
open W01
set_option linter.unusedVariables false

theorem walk' (a0 : Int) (a1 : Bool) (a2 : Int) (w : World) :
    Calls Try.prog 3 #[.int .i64 a0, .bool a1, .int .i64 a2] w fun e w' => e = .returned (.bool true) ∧ w = w' := by
  by_cases hd : a0 < 0 ∨ 1152921504606846976 < a0 ∨ a2 < 0 ∨ 2305843009213693952 < a2
  · have hq : a0 < 0 ∨ (0 ≤ a0 ∧ 1152921504606846976 < a0) ∨ (0 ≤ a0 ∧ a0 ≤ 1152921504606846976 ∧ (a2 < 0 ∨ 2305843009213693952 < a2)) := by omega
    clear hd
    rcases hq with h | ⟨h, h'⟩ | ⟨h, h', h2⟩
    all_goals
      go_enter Try.func3, Try.ntmps3
      go_wp2_with (first | (go_at_call 8; refine (alive _).mono ?_; rintro e w' ⟨rfl, rfl⟩) | (go_at_call 7; refine (fine_no _ _ (by omega)).mono ?_; rintro e w' ⟨rfl, rfl⟩))
      go_ret
      exact ⟨rfl, rfl⟩
  · have h1 : 0 ≤ a0 := by omega
    have h2 : a0 ≤ 1152921504606846976 := by omega
    have h3 : 0 ≤ a2 := by omega
    have h4 : a2 ≤ 2305843009213693952 := by omega
    clear hd
    cases a1
    all_goals
      go_enter Try.func3, Try.ntmps3
      go_wp2_with (first | (go_at_call 8; refine (alive _).mono ?_; rintro e w' ⟨rfl, rfl⟩) | (go_at_call 7; refine (fine_yes _ _ (by omega) (by omega)).mono ?_; rintro e w' ⟨rfl, rfl⟩) | (go_at_call 10; refine (lits_Make _ _ _ (by omega) (by omega)).mono ?_; rintro e w' ⟨rfl, rfl⟩) | (go_at_call 11; refine (r01_Make _ _ _ (by omega) (by omega)).mono ?_; rintro e w' ⟨rfl, rfl⟩) | (go_at_call 12; refine (lits_Var _ _).mono ?_; rintro e w' ⟨rfl, rfl⟩) | (go_at_call 13; refine (r01_Var _ _ (by omega) (by omega)).mono ?_; rintro e w' ⟨rfl, rfl⟩) | (go_at_call 14; refine (lits_Neg _ _ (by omega) (by omega)).mono ?_; rintro e w' ⟨rfl, rfl⟩) | (go_at_call 15; refine (r01_Neg _ _ (by omega) (by omega)).mono ?_; rintro e w' ⟨rfl, rfl⟩) | (go_at_call 16; refine (lits_Not _ _ (by omega) (by omega)).mono ?_; rintro e w' ⟨rfl, rfl⟩) | (go_at_call 9; refine (r01_Not _ _ (by omega) (by omega)).mono ?_; rintro e w' ⟨rfl, rfl⟩) | (go_at_call 17; refine (lits_Xor _ _ _ (by omega) (by omega)).mono ?_; rintro e w' ⟨rfl, rfl⟩))
      go_ret
      exact ⟨rfl, rfl⟩
end Go.Proofs.Ytpophiiejmhniaa.litsMakes
