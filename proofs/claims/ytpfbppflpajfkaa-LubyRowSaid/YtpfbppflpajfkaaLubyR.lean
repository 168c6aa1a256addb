/-
  The reference's terms, walked.
-/
import Derived.Test.YtpfbppflpajfkaaLubyT
namespace Go.Proofs.Ytpfbppflpajfkaa
open Go.ChangeShapes Go.WideShapes Go.ChangeAt Go.RowKit
set_option linter.unusedVariables false
theorem pow_wrap (k : Nat) (hk : k ≤ 62) : wrap64 (wrap64 ((2 : Int) ^ k) - 1) = ((2 ^ k - 1 : Nat) : Int) := by
  have e : ((2 : Int) ^ k) = ((2 ^ k : Nat) : Int) := by simp
  have h1 : 2 ^ k ≤ 2 ^ 62 := LL.pow_mono hk
  have e62 : (2 : Nat) ^ 62 = 4611686018427387904 := by decide
  have h2 := Nat.two_pow_pos k
  rw [e]
  generalize 2 ^ k = m at *
  unfold wrap64
  omega
theorem pow_wrap1 (k : Nat) (hk : k ≤ 62) : wrap64 ((2 : Int) ^ k) = ((2 ^ k : Nat) : Int) := by
  have e : ((2 : Int) ^ k) = ((2 ^ k : Nat) : Int) := by simp
  have h1 : 2 ^ k ≤ 2 ^ 62 := LL.pow_mono hk
  have e62 : (2 : Nat) ^ 62 = 4611686018427387904 := by decide
  rw [e]
  generalize 2 ^ k = m at *
  unfold wrap64
  omega
theorem rterm_off (i : Int) (w : World) (h : i < 1 ∨ 1099511627776 < i) : Calls Try.prog 7 #[.int .i64 i] w fun e w' => e = .returned (.int .i64 0) ∧ w = w' := by
  rcases h with h | h
  all_goals
    go_enter Try.func7, Try.ntmps7
    go_wp2
    go_ret
    exact ⟨rfl, rfl⟩
set_option maxHeartbeats 1000000 in
theorem rterm_on (i : Nat) (w : World) (h0 : 1 ≤ i) (h1 : i ≤ 1099511627776) : Calls Try.prog 7 #[.int .i64 (i : Int)] w fun e w' => e = .returned (.int .i64 (LL.term i)) ∧ w = w' := by
  obtain ⟨t, ht⟩ : ∃ t, t = LL.term i := ⟨_, rfl⟩
  rw [← ht]
  have HT := Lib.hid ht
  have i0 : (1 : Int) ≤ (i : Int) := by omega
  have i1 : (i : Int) ≤ 1099511627776 := by omega
  clear ht
  go_enter Try.func7, Try.ntmps7
  go_wp2
  go_loopw [0, 3] (fun a _ wr => ∃ j : Nat, 1 ≤ j ∧ j ≤ 1099511627776 ∧ a = .int .i64 j ∧ LL.term j = t ∧ wr = w) (fun a _ _ => (intOf a).toNat)
  case atStart => exact ⟨i, h0, h1, rfl, HT.out.symm, rfl⟩
  case round =>
    obtain ⟨j, j0, j1, rfl, hj, rfl⟩ := hrel
    have HJ := Lib.hid hj
    clear hj
    have k0 : (1 : Int) ≤ (j : Int) := by omega
    have k1 : (j : Int) ≤ 1099511627776 := by omega
    obtain ⟨b1, b2, b3⟩ := LL.top_bd (x := j) (by omega) (by omega)
    obtain ⟨p, hp⟩ : ∃ p, p = LL.top j := ⟨_, rfl⟩
    rw [← hp] at b2 b3
    have HP := Lib.hid hp
    have hp40 : p ≤ 40 := by
      rcases Nat.lt_or_ge 40 p with g | g
      · have := LL.pow_mono (show 41 ≤ p by omega)
        have e41 : (2 : Nat) ^ 41 = 2199023255552 := by decide
        omega
      · exact g
    have B2 := Lib.hid b2
    have B3 := Lib.hid b3
    clear hp b1 b2 b3
    go_wp2
    go_loop [3] (fun c => ∃ k : Nat, 1 ≤ k ∧ k ≤ p + 1 ∧ c = .int .i64 k) (fun c => p + 1 - (intOf c).toNat)
    case atStart => exact ⟨1, by omega, by omega, rfl⟩
    case round =>
      obtain ⟨k, m0, m1, rfl⟩ := hrel
      have n0 : (1 : Int) ≤ (k : Int) := by omega
      have n1 : (k : Int) ≤ 41 := by omega
      obtain ⟨m, hm⟩ : ∃ m, m = 2 ^ k - 1 := ⟨_, rfl⟩
      have hw := pow_wrap k (by omega)
      rw [← hm] at hw
      have HM := Lib.hid hm
      clear hm
      by_cases hkp : k ≤ p
      · have hlt : (m : Int) < (j : Int) := by
          have := LL.pow_mono hkp
          have := B2.out
          have := HM.out
          have := Nat.two_pow_pos k
          omega
        go_wp2
        go_round
        case rel => exact ⟨k + 1, by omega, by omega, by go_num⟩
        case measure => simp [intOf]; omega
      · obtain rfl : k = p + 1 := by omega
        have hge : ¬ (m : Int) < (j : Int) := by
          have := B3.out
          have := HM.out
          have := Nat.two_pow_pos (p + 1)
          omega
        have hwp := pow_wrap1 p (by omega)
        by_cases hmj : m = j
        · have c1 : ((m : Int) == (j : Int)) = true := by rw [beq_iff_eq]; omega
          have HF : Hid (((2 ^ p : Nat) : Int) = (t : Int)) := Lib.hid (by
            have e2 : 2 ^ (p + 1) = 2 ^ p * 2 := Nat.pow_succ ..
            have h2 := Nat.two_pow_pos p
            have h3 := HM.out
            have hf : LL.full j := (LL.full_iff j).2 ⟨p + 1, by omega⟩
            rw [← HJ.out, LL.term_full (by omega) hf]
            omega)
          clear hmj
          go_wp2
          go_ret
          refine ⟨?_, rfl⟩
          rw [← HF.out]
          exact congrArg (fun z => Ending.returned (Value.int IntKind.i64 z)) (show ((2 : Int) ^ p) = ((2 ^ p : Nat) : Int) by simp)
        · have c1 : ((m : Int) == (j : Int)) = false := by rw [beq_eq_false_iff_ne]; omega
          have hnf : ¬ LL.full j := by
            rw [LL.full_top (by omega) (by omega), ← HP.out]
            have := HM.out
            have := Nat.two_pow_pos (p + 1)
            omega
          obtain ⟨a1, a2, a3⟩ := LL.back_bd (i := j) (by omega) (by omega) hnf
          have HB : Hid (LL.term (LL.back j) = t) := Lib.hid (by rw [← LL.term_step (by omega) (by omega) hnf]; exact HJ.out)
          have HW : Hid (wrap64 ((j : Int) - wrap64 (wrap64 ((2 : Int) ^ p) - 1)) = ((LL.back j : Nat) : Int)) := Lib.hid (back_pow j p B2.out j1 HP.out)
          have HA : Hid (0 < LL.back j ∧ LL.back j < j) := Lib.hid ⟨a1, a2⟩
          clear hmj hnf a1 a2 a3 hwp
          go_wp2
          rw [HW.out]
          go_roundw
          case rel => exact ⟨LL.back j, by have := HA.out; omega, by have := HA.out; omega, rfl, HB.out, trivial⟩
          case measure => have := HA.out; simp only [intOf]; omega
end Go.Proofs.Ytpfbppflpajfkaa
