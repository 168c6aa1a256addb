/-
  The row's terms, walked: luby.Term, and the reference's.
-/
import Derived.Test.YtpfbppflpajfkaaRows
import Derived.Test.YtpfbppflpajfkaaLubyL
import Derived.Test.YtpfbppflpajfkaaBits
import Derived.Test.YtpfbppflpajfkaaKit
import Derived.Test.YtpfbppflpajfkaaShelf
import Derived.IntWalk
namespace Go.Proofs.Ytpfbppflpajfkaa
open Go.ChangeShapes Go.WideShapes Go.ChangeAt Go.RowKit
set_option linter.unusedVariables false
theorem bits_Len (x : Nat) (w : World) (h1 : x ≤ 1099511627776) : Calls Try.prog 11 #[.int .u64 (x : Int)] w fun e w' => e = .returned (.int .i64 (Lib.bitLen x)) ∧ w = w' := by
  have := Any.bits_Len Try.lenB (x : Int) w (by omega) (by omega)
  rw [Int.toNat_natCast] at this
  exact this.mono fun e w' h => ⟨h.1, h.2.symm⟩
theorem back_wrap (j m : Nat) (h : m ≤ j) (hm : 1 ≤ m) (hj : j ≤ 1099511627776) : wrap64 ((j : Int) - wrap64 (wrap64 (m : Int) - 1)) = ((j - (m - 1) : Nat) : Int) := by
  unfold wrap64
  omega
theorem back_pow (j p : Nat) (h : 2 ^ p ≤ j) (hj : j ≤ 1099511627776) (hp : p = LL.top j) : wrap64 ((j : Int) - wrap64 (wrap64 ((2 : Int) ^ p) - 1)) = ((LL.back j : Nat) : Int) := by
  have e : ((2 : Int) ^ p) = ((2 ^ p : Nat) : Int) := by simp
  rw [e, back_wrap j (2 ^ p) h (Nat.two_pow_pos p) hj]
  unfold LL.back
  rw [← hp]
def termI (i : Int) : Int := if i < 1 ∨ 1099511627776 < i then 0 else (LL.term i.toNat : Int)
theorem term_off (i : Int) (w : World) (h : i < 1 ∨ 1099511627776 < i) : Calls Try.prog 8 #[.int .i64 i] w fun e w' => e = .returned (.int .i64 0) ∧ w = w' := by
  rcases h with h | h
  all_goals
    go_enter Try.func8, Try.ntmps8
    go_wp2
    go_ret
    exact ⟨rfl, rfl⟩
set_option maxHeartbeats 1000000 in
theorem term_on (i : Nat) (w : World) (h0 : 1 ≤ i) (h1 : i ≤ 1099511627776) : Calls Try.prog 8 #[.int .i64 (i : Int)] w fun e w' => e = .returned (.int .i64 (LL.term i)) ∧ w = w' := by
  obtain ⟨t, ht⟩ : ∃ t, t = LL.term i := ⟨_, rfl⟩
  rw [← ht]
  have HT := Lib.hid ht
  have i0 : (1 : Int) ≤ (i : Int) := by omega
  have i1 : (i : Int) ≤ 1099511627776 := by omega
  clear ht
  go_enter Try.func8, Try.ntmps8
  go_wp2
  go_loopw [0] (fun a wr => ∃ j : Nat, 1 ≤ j ∧ j ≤ 1099511627776 ∧ a = .int .i64 j ∧ LL.term j = t ∧ wr = w) (fun a _ => (intOf a).toNat)
  case atStart => exact ⟨i, h0, h1, rfl, HT.out.symm, rfl⟩
  case round =>
    obtain ⟨j, j0, j1, rfl, hj, rfl⟩ := hrel
    have HJ := Lib.hid hj
    clear hj
    have e1 := B.and_nat j (j + 1) (by omega) (by omega)
    rw [Int.natCast_add] at e1
    have k0 : (1 : Int) ≤ (j : Int) := by omega
    have k1 : (j : Int) ≤ 1099511627776 := by omega
    by_cases hf : LL.full j
    · have e2 : bits BinOp.and IntKind.i64 (j : Int) ((j : Int) + 1) = 0 := by
        have := e1
        unfold LL.full at hf
        rw [hf] at this
        simpa using this
      have HF : Hid ((((j : Int) + 1) / 2) = (t : Int)) := Lib.hid (by rw [← HJ.out, LL.term_full (by omega) hf]; omega)
      clear hf e1
      go_wp2
      go_ret
      exact ⟨congrArg (fun z => Ending.returned (Value.int IntKind.i64 z)) HF.out, rfl⟩
    · have hne : j &&& (j + 1) ≠ 0 := hf
      obtain ⟨q, hq⟩ : ∃ q, q = j &&& (j + 1) := ⟨_, rfl⟩
      rw [← hq] at hne
      have e2 : bits BinOp.and IntKind.i64 (j : Int) ((j : Int) + 1) = (q : Int) := by rw [hq]; simpa using e1
      have e3 : ((q : Int) != 0) = true := by rw [bne_iff_ne]; omega
      obtain ⟨b1, b2, b3⟩ := LL.top_bd (x := j) (by omega) (by omega)
      obtain ⟨a1, a2, a3⟩ := LL.back_bd (i := j) (by omega) (by omega) hf
      have HB : Hid (LL.term (LL.back j) = t) := Lib.hid (by rw [← LL.term_step (by omega) (by omega) hf]; exact HJ.out)
      have HL := Lib.hid (bits_Len j wr j1)
      rw [b1] at HL
      obtain ⟨p, hp⟩ : ∃ p, p = LL.top j := ⟨_, rfl⟩
      rw [← hp] at HL b2 b3 a3
      have HP := Lib.hid hp
      have hp62 : p ≤ 40 := by
        rcases Nat.lt_or_ge 40 p with g | g
        · have := LL.pow_mono (show 41 ≤ p by omega)
          have e41 : (2 : Nat) ^ 41 = 2199023255552 := by decide
          omega
        · exact g
      have p0 : (0 : Int) ≤ (p : Int) := by omega
      have p1 : (p : Int) ≤ 62 := by omega
      have HA : Hid (0 < LL.back j ∧ LL.back j < j) := Lib.hid ⟨a1, a2⟩
      clear hf e1 hq hne b1 hp a1 a2
      have HW : Hid (wrap64 ((j : Int) - wrap64 (wrap64 ((2 : Int) ^ p) - 1)) = ((LL.back j : Nat) : Int)) := Lib.hid (back_pow j p b2 j1 HP.out)
      go_wp2_with ((go_at_call 11; refine (HL.out).mono ?_; rintro e w' ⟨rfl, rfl⟩))
      rw [HW.out]
      go_roundw
      case rel => exact ⟨LL.back j, by have := HA.out; omega, by have := HA.out; omega, rfl, HB.out, trivial⟩
      case measure => have := HA.out; simp only [intOf]; omega
end Go.Proofs.Ytpfbppflpajfkaa
