/-
  LitsSigns: for every input the law returns true. No condition.
-/
import Derived.Test.YtpophiiejmhniaaLaw
namespace Go.Proofs.Ytpophiiejmhniaa.litsSigns
open Go.ChangeShapes Go.WideShapes Go.ChangeAt Go.RowKit
open W01

theorem walk' (l s : Int) (w : World) :
    Calls Try.prog 4 #[.int .i64 l, .int .i64 s] w fun e w' => e = .returned (.bool true) ∧ w = w' := by
  by_cases hf : l < 0 ∨ 2305843009213693952 < l
  · go_enter Try.func4, Try.ntmps4
    go_wp2_with (first | (go_at_call 8; refine (alive _).mono ?_; rintro e w' ⟨rfl, rfl⟩) | (go_at_call 7; refine (fine_no _ _ (by omega)).mono ?_; rintro e w' ⟨rfl, rfl⟩))
    go_ret
    exact ⟨rfl, rfl⟩
  · have h3 : 0 ≤ l := by omega
    have h4 : l ≤ 2305843009213693952 := by omega
    clear hf
    rcases (show s < -1152921504606846976 ∨ (-1152921504606846976 ≤ s ∧ 1152921504606846976 < s) ∨ (-1152921504606846976 ≤ s ∧ s ≤ 1152921504606846976) by omega) with h | ⟨h, h'⟩ | ⟨h, h'⟩
    all_goals
      go_enter Try.func4, Try.ntmps4
      go_wp2_with (first | (go_at_call 8; refine (alive _).mono ?_; rintro e w' ⟨rfl, rfl⟩) | (go_at_call 7; refine (fine_yes _ _ (by omega) (by omega)).mono ?_; rintro e w' ⟨rfl, rfl⟩) | (go_at_call 18; refine (lits_Signed _ _ (by omega) (by omega)).mono ?_; rintro e w' ⟨rfl, rfl⟩) | (go_at_call 19; refine (r01_Signed _ _ (by omega) (by omega)).mono ?_; rintro e w' ⟨rfl, rfl⟩) | (go_at_call 20; refine (lits_Plain _ _ (by omega) (by omega)).mono ?_; rintro e w' ⟨rfl, rfl⟩) | (go_at_call 21; refine (r01_Plain _ _ (by omega) (by omega)).mono ?_; rintro e w' ⟨rfl, rfl⟩))
      go_ret
      exact ⟨rfl, rfl⟩
end Go.Proofs.Ytpophiiejmhniaa.litsSigns
