/-
  LubyHalves, walked.
-/
import Derived.Test.YtpfbppflpajfkaaLubyS
namespace Go.Proofs.Ytpfbppflpajfkaa
open Go.ChangeShapes Go.WideShapes Go.ChangeAt Go.RowKit
set_option linter.unusedVariables false
def LawPost (w : World) (e : Ending) (w' : World) : Prop := e = .returned (.bool true) ∧ Below w.heap.size w w'
theorem alive_true (w : World) : Calls Try.prog 5 #[] w (LawPost w) := by
  have h1 : Hid (Calls Try.prog 8 #[.int .i64 7] w fun e w' => e = .returned (.int .i64 4) ∧ w = w') := Lib.hid (term_on 7 w (by omega) (by omega))
  have h2 : Hid (Calls Try.prog 8 #[.int .i64 4] w fun e w' => e = .returned (.int .i64 1) ∧ w = w') := Lib.hid (term_on 4 w (by omega) (by omega))
  have h3 : Hid (Calls Try.prog 9 #[.int .i64 7] w fun e w' => e = .returned (.int .i64 12) ∧ Below w.heap.size w w') := Lib.hid (sum_on 7 w (by omega))
  go_enter Try.func5, Try.ntmps5
  go_wp2_with fail
  refine h1.out.mono ?_
  rintro e w' ⟨rfl, rfl⟩
  go_wp2_with fail
  refine h2.out.mono ?_
  rintro e w' ⟨rfl, rfl⟩
  go_wp2_with fail
  refine h3.out.mono ?_
  rintro e w1 ⟨rfl, hb⟩
  have HB := Lib.hid hb
  clear hb
  go_wp2
  go_ret
  exact ⟨rfl, HB.out⟩
theorem halves_off (k i : Int) (w : World) (h : k < 1 ∨ 39 < k) : Calls Try.prog 4 #[.int .u64 k, .int .i64 i] w (LawPost w) := by
  rcases h with h | h
  all_goals
    go_enter Try.func4, Try.ntmps4
    go_wp2_with fail
    refine (alive_true w).mono ?_
    rintro e w1 ⟨rfl, hb⟩
    have HB := Lib.hid hb
    clear hb
    go_wp2
    go_ret
    exact ⟨rfl, HB.out⟩
theorem term_at (z : Int) (i : Nat) (w : World) (h : z = i) (h0 : 1 ≤ i) (h1 : i ≤ 1099511627776) (r : Nat) (hr : LL.term i = r) : Calls Try.prog 8 #[.int .i64 z] w fun e w' => e = .returned (.int .i64 r) ∧ w = w' := by
  subst h hr
  exact term_on i w h0 h1
theorem halves_on (p : Nat) (hp : p ≤ 38) (i : Int) (hi : i < 1 ∨ ((2 ^ p - 1 : Nat) : Int) < i) (w : World) : Calls Try.prog 4 #[.int .u64 ((p : Int) + 1), .int .i64 i] w (LawPost w) := by
  have p0 : (0 : Int) ≤ (p : Int) := by omega
  have p1 : (p : Int) ≤ 38 := by omega
  have hw := pow_wrap1 p (by omega)
  have ht := LL.term_top p (by omega)
  have hm1 := LL.pow_mono (show p ≤ 38 by omega)
  have e38 : (2 : Nat) ^ 38 = 274877906944 := by decide
  have e2 : 2 ^ (p + 1) = 2 ^ p * 2 := Nat.pow_succ ..
  have hpp := Nat.two_pow_pos p
  rw [e2] at ht
  rw [e38] at hm1
  clear e2 e38
  generalize 2 ^ p = m at *
  have m0 : (1 : Int) ≤ (m : Int) := by omega
  have m1 : (m : Int) ≤ 274877906944 := by omega
  have hz := Lib.hid (term_at (2 * ((m : Int) - 1) + 1) (m * 2 - 1) w (by omega) (by omega) (by omega) m ht)
  have hi' : i < 1 ∨ (m : Int) - 1 < i := by omega
  clear hi ht hm1 hpp
  by_cases h1 : i < 1
  · clear hi'
    go_enter Try.func4, Try.ntmps4
    go_wp2_with fail
    refine hz.out.mono ?_
    rintro e w1 ⟨rfl, rfl⟩
    go_wp2_with fail
    refine (alive_true w).mono ?_
    rintro e w1 ⟨rfl, hb⟩
    have HB := Lib.hid hb
    clear hb
    go_wp2
    go_ret
    exact ⟨rfl, HB.out⟩
  · have h2 : (m : Int) - 1 < i := hi'.resolve_left h1
    clear hi'
    go_enter Try.func4, Try.ntmps4
    go_wp2_with fail
    refine hz.out.mono ?_
    rintro e w1 ⟨rfl, rfl⟩
    go_wp2_with fail
    refine (alive_true w).mono ?_
    rintro e w1 ⟨rfl, hb⟩
    have HB := Lib.hid hb
    clear hb
    go_wp2
    go_ret
    exact ⟨rfl, HB.out⟩
theorem halves_in (p : Nat) (hp : p ≤ 38) (j : Nat) (h0 : 1 ≤ j) (hi : j ≤ 2 ^ p - 1) (w : World) : Calls Try.prog 4 #[.int .u64 ((p : Int) + 1), .int .i64 (j : Int)] w (LawPost w) := by
  have p0 : (0 : Int) ≤ (p : Int) := by omega
  have p1 : (p : Int) ≤ 38 := by omega
  have hw := pow_wrap1 p (by omega)
  have ht := LL.term_top p (by omega)
  have hh := LL.term_half (show p < 62 by omega) (show 0 < j by omega) hi
  have hm1 := LL.pow_mono (show p ≤ 38 by omega)
  have e38 : (2 : Nat) ^ 38 = 274877906944 := by decide
  have e2 : 2 ^ (p + 1) = 2 ^ p * 2 := Nat.pow_succ ..
  have hpp := Nat.two_pow_pos p
  rw [e2] at ht
  rw [e38] at hm1
  clear e2 e38
  generalize 2 ^ p = m at *
  have m0 : (1 : Int) ≤ (m : Int) := by omega
  have m1 : (m : Int) ≤ 274877906944 := by omega
  have hz := Lib.hid (term_at (2 * ((m : Int) - 1) + 1) (m * 2 - 1) w (by omega) (by omega) (by omega) m ht)
  obtain ⟨r, hr⟩ : ∃ r, r = LL.term j := ⟨_, rfl⟩
  have ha := Lib.hid (term_at ((m : Int) - 1 + (j : Int)) (m - 1 + j) w (by omega) (by omega) (by omega) r (hh.trans hr.symm))
  have hb := Lib.hid (term_at (j : Int) j w rfl (by omega) (by omega) r hr.symm)
  have h1 : (1 : Int) ≤ (j : Int) := by omega
  have h2 : (j : Int) ≤ (m : Int) - 1 := by omega
  have h3 : ¬ ((m : Int) - 1 < (j : Int)) := by omega
  clear hi ht hm1 hpp hr hh
  go_enter Try.func4, Try.ntmps4
  go_wp2_with fail
  refine ha.out.mono ?_
  rintro e w1 ⟨rfl, rfl⟩
  go_wp2_with fail
  refine hb.out.mono ?_
  rintro e w1 ⟨rfl, rfl⟩
  go_wp2_with fail
  refine hz.out.mono ?_
  rintro e w1 ⟨rfl, rfl⟩
  go_wp2_with fail
  refine (alive_true w).mono ?_
  rintro e w1 ⟨rfl, hb⟩
  have HB := Lib.hid hb
  clear hb
  go_wp2
  go_ret
  exact ⟨rfl, HB.out⟩
theorem halves (k i : Int) (hk : 0 ≤ k) (w : World) : Calls Try.prog 4 #[.int .u64 k, .int .i64 i] w (LawPost w) := by
  by_cases h : k < 1 ∨ 39 < k
  · exact halves_off k i w h
  · obtain ⟨p, rfl⟩ : ∃ p : Nat, k = (p : Int) + 1 := ⟨(k - 1).toNat, by omega⟩
    by_cases hi : i < 1 ∨ ((2 ^ p - 1 : Nat) : Int) < i
    · exact halves_on p (by omega) i hi w
    · obtain ⟨j, rfl⟩ : ∃ j : Nat, i = (j : Int) := ⟨i.toNat, by omega⟩
      exact halves_in p (by omega) j (by omega) (by omega) w
end Go.Proofs.Ytpfbppflpajfkaa
