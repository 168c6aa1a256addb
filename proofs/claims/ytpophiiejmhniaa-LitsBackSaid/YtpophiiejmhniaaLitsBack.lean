/-
  LitsBack: for every input the law returns true. No condition.
-/
import Derived.Test.YtpophiiejmhniaaLaw
namespace Go.Proofs.Ytpophiiejmhniaa.litsBack
open Go.ChangeShapes Go.WideShapes Go.ChangeAt Go.RowKit
open W01

theorem mk_back (l : Int) : (mkL (l / 2) (l % 2 == 1) == l) = true := by
  rw [beq_iff_eq]; unfold mkL
  rcases (show l % 2 = 0 ∨ l % 2 = 1 by omega) with h | h
  · simp [h]; omega
  · simp [h]; omega
theorem not_not (l : Int) : (notL (notL l) == l) = true := by
  rw [beq_iff_eq]; unfold notL; split <;> split <;> omega
theorem not_ne (l : Int) : (notL l != l) = true := by
  rw [bne_iff_ne]; unfold notL; split <;> omega
theorem plain_signed (l : Int) (h : 2 ≤ l) : (plainL (signedL l) == l) = true := by
  rw [beq_iff_eq]; unfold plainL signedL; split <;> split <;> omega
theorem signed_plain (s : Int) : (signedL (plainL s) == s) = true := by
  rw [beq_iff_eq]; unfold plainL signedL; split <;> split <;> omega
theorem signed_not (l : Int) (h : 2 ≤ l) : (signedL (notL l) == -signedL l) = true := by
  rw [beq_iff_eq]; unfold notL signedL; split <;> split <;> omega
theorem signed_bd (l : Int) (h : 2 ≤ l) (h4 : l ≤ 2305843009213693952) : -1152921504606846976 ≤ signedL l ∧ signedL l ≤ 1152921504606846976 := by
  unfold signedL; split <;> omega
theorem notL_bd (l : Int) (h : 2 ≤ l) (h4 : l ≤ 2305843009213693952) : 2 ≤ notL l ∧ notL l ≤ 2305843009213693953 := by
  unfold notL; split <;> omega
theorem plain_bd (l : Int) (h : -1152921504606846976 ≤ l) (h4 : l ≤ 1152921504606846976) : 0 ≤ plainL l ∧ plainL l ≤ 2305843009213693953 := by
  unfold plainL; split <;> omega

theorem walk' (l s : Int) (w : World) :
    Calls Try.prog 5 #[.int .i64 l, .int .i64 s] w fun e w' => e = .returned (.bool true) ∧ w = w' := by
  by_cases hf : l < 0 ∨ 2305843009213693952 < l
  · go_enter Try.func5, Try.ntmps5
    go_wp2_with (first | (go_at_call 8; refine (alive _).mono ?_; rintro e w' ⟨rfl, rfl⟩) | (go_at_call 7; refine (fine_no _ _ (by omega)).mono ?_; rintro e w' ⟨rfl, rfl⟩))
    go_ret
    exact ⟨rfl, rfl⟩
  · have h3 : 0 ≤ l := by omega
    have h4 : l ≤ 2305843009213693952 := by omega
    clear hf
    by_cases hd : l < 2 ∨ s < -1152921504606846976 ∨ 1152921504606846976 < s ∨ s = 0
    · rcases (show l < 2 ∨ (2 ≤ l ∧ s < -1152921504606846976) ∨ (2 ≤ l ∧ -1152921504606846976 ≤ s ∧ 1152921504606846976 < s) ∨ (2 ≤ l ∧ s = 0) by omega) with h | ⟨h, h'⟩ | ⟨h, h', h2⟩ | ⟨h, rfl⟩
      all_goals
        clear hd
        go_enter Try.func5, Try.ntmps5
        go_wp2_with (first | (go_at_call 8; refine (alive _).mono ?_; rintro e w' ⟨rfl, rfl⟩) | (go_at_call 7; refine (fine_yes _ _ (by omega) (by omega)).mono ?_; rintro e w' ⟨rfl, rfl⟩))
        go_ret
        exact ⟨rfl, rfl⟩
    · have h5 : 2 ≤ l := by omega
      have h6 : -1152921504606846976 ≤ s := by omega
      have h7 : s ≤ 1152921504606846976 := by omega
      have h8 : (s == 0) = false := by rw [beq_eq_false_iff_ne]; omega
      clear hd
      have e1 := mk_back l
      have e2 := not_not l
      have e3 := not_ne l
      have e4 := plain_signed l h5
      have e5 := signed_plain s
      have e6 := signed_not l h5
      obtain ⟨b1, b2⟩ := signed_bd l h5 h4
      obtain ⟨b3, b4⟩ := notL_bd l h5 h4
      obtain ⟨b5, b6⟩ := plain_bd s h6 h7
      go_enter Try.func5, Try.ntmps5
      go_wp2_with (first | (go_at_call 8; refine (alive _).mono ?_; rintro e w' ⟨rfl, rfl⟩) | (go_at_call 7; refine (fine_yes _ _ (by omega) (by omega)).mono ?_; rintro e w' ⟨rfl, rfl⟩) | (go_at_call 10; refine (lits_Make _ _ _ (by omega) (by omega)).mono ?_; rintro e w' ⟨rfl, rfl⟩) | (go_at_call 12; refine (lits_Var _ _).mono ?_; rintro e w' ⟨rfl, rfl⟩) | (go_at_call 14; refine (lits_Neg _ _ (by omega) (by omega)).mono ?_; rintro e w' ⟨rfl, rfl⟩) | (go_at_call 16; refine (lits_Not _ _ (by omega) (by omega)).mono ?_; rintro e w' ⟨rfl, rfl⟩) | (go_at_call 18; refine (lits_Signed _ _ (by omega) (by omega)).mono ?_; rintro e w' ⟨rfl, rfl⟩) | (go_at_call 20; refine (lits_Plain _ _ (by omega) (by omega)).mono ?_; rintro e w' ⟨rfl, rfl⟩))
      go_ret
      exact ⟨rfl, rfl⟩
end Go.Proofs.Ytpophiiejmhniaa.litsBack
