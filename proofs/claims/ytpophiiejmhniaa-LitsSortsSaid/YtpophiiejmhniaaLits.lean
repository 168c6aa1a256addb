/-
  Contracts of package lits and of its reference's functions on one literal: what each answers, as a plain function of integers.
-/
import Derived.Test.YtpophiiejmhniaaRows
import Derived.Test.YtpophiiejmhniaaBits
import Derived.WalkKit
import Derived.ProofKit
import Derived.OpenShut
import Derived.Handy
import Derived.Outline
import Derived.Lib.Hide
namespace Go.Proofs.Ytpophiiejmhniaa
open Go.ChangeShapes Go.WideShapes Go.ChangeAt Go.RowKit

def notL (l : Int) : Int := if l % 2 = 0 then l + 1 else l - 1
def mkL (v : Int) (neg : Bool) : Int := if neg then v * 2 + 1 else v * 2
def signedL (l : Int) : Int := if l % 2 = 0 then l / 2 else -(l / 2)
def xorL (l : Int) (neg : Bool) : Int := if neg then notL l else l
def plainL (s : Int) : Int := if s < 0 then -s * 2 + 1 else s * 2

theorem notL_mk (l : Int) : mkL (l / 2) (!(l % 2 == 1)) = notL l := by
  unfold notL mkL
  rcases (show l % 2 = 0 ∨ l % 2 = 1 by omega) with h | h
  · simp [h]; omega
  · simp [h]; omega

set_option maxHeartbeats 400000 in
theorem lits_Var (l : Int) (w : World) : Calls Try.prog 12 #[.int .i64 l] w fun e w' => e = .returned (.int .i64 (l / 2)) ∧ w = w' := by
  go_enter Try.func12, Try.ntmps12
  go_wp2
  go_ret
  exact ⟨rfl, rfl⟩

theorem lits_Neg (l : Int) (w : World) (h0 : 0 ≤ l) (h1 : l ≤ 2305843009213693952) : Calls Try.prog 14 #[.int .i64 l] w fun e w' => e = .returned (.bool (l % 2 == 1)) ∧ w = w' := by
  have e1 := B.and_one l h0 (by omega)
  go_enter Try.func14, Try.ntmps14
  go_wp2
  go_ret
  exact ⟨rfl, rfl⟩

theorem lits_Not (l : Int) (w : World) (h0 : 0 ≤ l) (h1 : l ≤ 2305843009213693953) : Calls Try.prog 16 #[.int .i64 l] w fun e w' => e = .returned (.int .i64 (notL l)) ∧ w = w' := by
  have e1 : _ = notL l := B.xor_one l h0 (by omega)
  go_enter Try.func16, Try.ntmps16
  go_wp2
  go_ret
  exact ⟨rfl, rfl⟩

theorem lits_Xor (l : Int) (neg : Bool) (w : World) (h0 : 0 ≤ l) (h1 : l ≤ 2305843009213693953) : Calls Try.prog 17 #[.int .i64 l, .bool neg] w fun e w' => e = .returned (.int .i64 (xorL l neg)) ∧ w = w' := by
  have e1 : _ = notL l := B.xor_one l h0 (by omega)
  cases neg
  all_goals
    go_enter Try.func17, Try.ntmps17
    go_wp2
    go_ret
    exact ⟨rfl, rfl⟩

theorem lits_Make (v : Int) (neg : Bool) (w : World) (h0 : 0 ≤ v) (h1 : v ≤ 1152921504606846976) : Calls Try.prog 10 #[.int .i64 v, .bool neg] w fun e w' => e = .returned (.int .i64 (mkL v neg)) ∧ w = w' := by
  go_enter Try.func10, Try.ntmps10
  go_wp2_with ((go_at_call 17; refine (lits_Xor _ neg _ (by omega) (by omega)).mono ?_; rintro e w' ⟨rfl, rfl⟩))
  go_ret
  refine ⟨?_, rfl⟩
  cases neg
  · rfl
  · simp [xorL, notL, mkL]

theorem lits_Signed (l : Int) (w : World) (h0 : 0 ≤ l) (h1 : l ≤ 2305843009213693953) : Calls Try.prog 18 #[.int .i64 l] w fun e w' => e = .returned (.int .i64 (signedL l)) ∧ w = w' := by
  have e1 := B.and_one l h0 (by omega)
  have e2 := B.xor_neg_one (l / 2) (by omega) (by omega)
  have e3 := B.xor_zero (l / 2) (by omega) (by omega)
  unfold signedL
  rcases (show l % 2 = 0 ∨ l % 2 = 1 by omega) with h | h
  · rw [h] at e1
    rw [if_pos h]
    go_enter Try.func18, Try.ntmps18
    go_wp2
    go_ret
    refine ⟨?_, rfl⟩
    simp
  · rw [h] at e1
    rw [if_neg (by omega)]
    go_enter Try.func18, Try.ntmps18
    go_wp2
    go_ret
    refine ⟨?_, rfl⟩
    simp

theorem lits_Plain (s : Int) (w : World) (h0 : -1152921504606846976 ≤ s) (h1 : s ≤ 1152921504606846976) : Calls Try.prog 20 #[.int .i64 s] w fun e w' => e = .returned (.int .i64 (plainL s)) ∧ w = w' := by
  unfold plainL
  by_cases h : s < 0
  · have e1 := B.or_one_even (-s * 2) (by omega) (by omega) (by omega)
    rw [if_pos h]
    go_enter Try.func20, Try.ntmps20
    go_wp2
    go_ret
    exact ⟨rfl, rfl⟩
  · rw [if_neg h]
    go_enter Try.func20, Try.ntmps20
    go_wp2
    go_ret
    exact ⟨rfl, rfl⟩

theorem r01_Var (l : Int) (w : World) (h0 : 0 ≤ l) (h1 : l ≤ 2305843009213693952) : Calls Try.prog 13 #[.int .i64 l] w fun e w' => e = .returned (.int .i64 (l / 2)) ∧ w = w' := by
  go_enter Try.func13, Try.ntmps13
  go_wp2
  go_ret
  exact ⟨rfl, rfl⟩
theorem r01_Neg (l : Int) (w : World) (h0 : 0 ≤ l) (h1 : l ≤ 2305843009213693952) : Calls Try.prog 15 #[.int .i64 l] w fun e w' => e = .returned (.bool (l % 2 == 1)) ∧ w = w' := by
  go_enter Try.func15, Try.ntmps15
  go_wp2
  go_ret
  exact ⟨rfl, rfl⟩
theorem r01_Make (v : Int) (neg : Bool) (w : World) (h0 : 0 ≤ v) (h1 : v ≤ 1152921504606846976) : Calls Try.prog 11 #[.int .i64 v, .bool neg] w fun e w' => e = .returned (.int .i64 (mkL v neg)) ∧ w = w' := by
  cases neg
  all_goals
    go_enter Try.func11, Try.ntmps11
    go_wp2
    go_ret
    refine ⟨?_, rfl⟩
    simp [mkL, Int.mul_comm]
theorem r01_Not (l : Int) (w : World) (h0 : 0 ≤ l) (h1 : l ≤ 2305843009213693952) : Calls Try.prog 9 #[.int .i64 l] w fun e w' => e = .returned (.int .i64 (notL l)) ∧ w = w' := by
  have e1 := notL_mk l
  have H := Lib.hid e1
  clear e1
  go_enter Try.func9, Try.ntmps9
  go_wp2_with (first | (go_at_call 13; refine (r01_Var _ _ h0 h1).mono ?_; rintro e w' ⟨rfl, rfl⟩) | (go_at_call 15; refine (r01_Neg _ _ h0 h1).mono ?_; rintro e w' ⟨rfl, rfl⟩) | (go_at_call 11; refine (r01_Make _ _ _ (by omega) (by omega)).mono ?_; rintro e w' ⟨rfl, rfl⟩))
  go_ret
  exact ⟨by first | rfl | (rw [H.out]; rfl), rfl⟩
theorem r01_Signed (l : Int) (w : World) (h0 : 0 ≤ l) (h1 : l ≤ 2305843009213693952) : Calls Try.prog 19 #[.int .i64 l] w fun e w' => e = .returned (.int .i64 (signedL l)) ∧ w = w' := by
  unfold signedL
  rcases (show l % 2 = 0 ∨ l % 2 = 1 by omega) with h | h
  · rw [if_pos h]
    go_enter Try.func19, Try.ntmps19
    go_wp2_with (first | (go_at_call 13; refine (r01_Var _ _ h0 h1).mono ?_; rintro e w' ⟨rfl, rfl⟩) | (go_at_call 15; refine (r01_Neg _ _ h0 h1).mono ?_; rintro e w' ⟨rfl, rfl⟩))
    go_ret
    exact ⟨rfl, rfl⟩
  · rw [if_neg (by omega)]
    go_enter Try.func19, Try.ntmps19
    go_wp2_with (first | (go_at_call 13; refine (r01_Var _ _ h0 h1).mono ?_; rintro e w' ⟨rfl, rfl⟩) | (go_at_call 15; refine (r01_Neg _ _ h0 h1).mono ?_; rintro e w' ⟨rfl, rfl⟩))
    go_ret
    exact ⟨rfl, rfl⟩
theorem r01_Plain (s : Int) (w : World) (h0 : -1152921504606846976 ≤ s) (h1 : s ≤ 1152921504606846976) : Calls Try.prog 21 #[.int .i64 s] w fun e w' => e = .returned (.int .i64 (plainL s)) ∧ w = w' := by
  unfold plainL
  by_cases h : s < 0
  · rw [if_pos h]
    go_enter Try.func21, Try.ntmps21
    go_wp2_with ((go_at_call 11; refine (r01_Make _ _ _ (by omega) (by omega)).mono ?_; rintro e w' ⟨rfl, rfl⟩))
    go_ret
    exact ⟨by simp [mkL], rfl⟩
  · rw [if_neg h]
    go_enter Try.func21, Try.ntmps21
    go_wp2_with ((go_at_call 11; refine (r01_Make _ _ _ (by omega) (by omega)).mono ?_; rintro e w' ⟨rfl, rfl⟩))
    go_ret
    exact ⟨by simp [mkL], rfl⟩
end Go.Proofs.Ytpophiiejmhniaa
