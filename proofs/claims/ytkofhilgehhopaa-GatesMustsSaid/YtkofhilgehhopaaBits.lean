/-
  PLAIN FACTS ON THE BITS OF int, without any program in sight: and, or, xor, and-not with 1 and with -1; numbers at or above 0 as natural numbers.
-/
import Derived.WalkKit
namespace Go.Proofs.Ytkofhilgehhopaa.B
open Go

theorem i64_wrap (n : Int) : IntKind.i64.wrap n = (n + 9223372036854775808) % 18446744073709551616 - 9223372036854775808 := by
  rw [IntKind.wrap_i64]

theorem ofInt_nat (a : Nat) (ha : a < 18446744073709551616) : (BitVec.ofInt 64 (a : Int)).toNat = a := by
  rw [BitVec.ofInt_natCast, BitVec.toNat_ofNat]; exact Nat.mod_eq_of_lt (by omega)

theorem and_nat (a b : Nat) (ha : a < 9223372036854775808) (hb : b < 9223372036854775808) : bits .and .i64 (a : Int) (b : Int) = ((a &&& b : Nat) : Int) := by
  have hx : a &&& b < 2 ^ 63 := Nat.and_lt_two_pow _ (by omega)
  show IntKind.i64.wrap ((BitVec.ofInt 64 (a : Int) &&& BitVec.ofInt 64 (b : Int)).toNat : Int) = _
  rw [BitVec.toNat_and, ofInt_nat a (by omega), ofInt_nat b (by omega), i64_wrap]
  omega
theorem or_nat (a b : Nat) (ha : a < 9223372036854775808) (hb : b < 9223372036854775808) : bits .or .i64 (a : Int) (b : Int) = ((a ||| b : Nat) : Int) := by
  have hx : a ||| b < 2 ^ 63 := Nat.or_lt_two_pow (by omega) (by omega)
  show IntKind.i64.wrap ((BitVec.ofInt 64 (a : Int) ||| BitVec.ofInt 64 (b : Int)).toNat : Int) = _
  rw [BitVec.toNat_or, ofInt_nat a (by omega), ofInt_nat b (by omega), i64_wrap]
  omega
theorem xor_nat (a b : Nat) (ha : a < 9223372036854775808) (hb : b < 9223372036854775808) : bits .xor .i64 (a : Int) (b : Int) = ((a ^^^ b : Nat) : Int) := by
  have hx : a ^^^ b < 2 ^ 63 := Nat.xor_lt_two_pow (by omega) (by omega)
  show IntKind.i64.wrap ((BitVec.ofInt 64 (a : Int) ^^^ BitVec.ofInt 64 (b : Int)).toNat : Int) = _
  rw [BitVec.toNat_xor, ofInt_nat a (by omega), ofInt_nat b (by omega), i64_wrap]
  omega

theorem and_one (l : Int) (h0 : 0 ≤ l) (h1 : l < 9223372036854775808) : bits .and .i64 l 1 = l % 2 := by
  obtain ⟨a, rfl⟩ := Int.eq_ofNat_of_zero_le h0
  have := and_nat a 1 (by omega) (by omega)
  rw [Nat.and_one_is_mod] at this
  simpa using this

theorem xor_one_nat (a : Nat) : a ^^^ 1 = if a % 2 = 0 then a + 1 else a - 1 := by
  apply Nat.eq_of_testBit_eq
  intro i
  rw [Nat.testBit_xor]
  cases i with
  | zero =>
    simp only [Nat.testBit_zero]
    by_cases h : a % 2 = 0
    · rw [if_pos h]
      have : (a + 1) % 2 = 1 := by omega
      simp [h, this]
    · rw [if_neg h]
      have h1 : a % 2 = 1 := by omega
      have : (a - 1) % 2 = 0 := by omega
      simp [h1, this]
  | succ i =>
    have e1 : (1 : Nat).testBit (i + 1) = false := by simp [Nat.testBit_succ]
    rw [e1, Nat.testBit_succ, Nat.testBit_succ]
    have : (if a % 2 = 0 then a + 1 else a - 1) / 2 = a / 2 := by split <;> omega
    rw [this]; simp

theorem xor_one (l : Int) (h0 : 0 ≤ l) (h1 : l < 9223372036854775807) : bits .xor .i64 l 1 = if l % 2 = 0 then l + 1 else l - 1 := by
  obtain ⟨a, rfl⟩ := Int.eq_ofNat_of_zero_le h0
  have := xor_nat a 1 (by omega) (by omega)
  rw [xor_one_nat] at this
  rw [show (((1:Nat)) : Int) = 1 from rfl] at this
  rw [this]
  split <;> split <;> omega

theorem or_one_even (l : Int) (h0 : 0 ≤ l) (h1 : l < 9223372036854775807) (h2 : l % 2 = 0) : bits .or .i64 l 1 = l + 1 := by
  obtain ⟨a, rfl⟩ := Int.eq_ofNat_of_zero_le h0
  have := or_nat a 1 (by omega) (by omega)
  rw [show (((1:Nat)) : Int) = 1 from rfl] at this
  rw [this]
  have e : a ||| 1 = a + 1 := by
    apply Nat.eq_of_testBit_eq
    intro i
    rw [Nat.testBit_or]
    cases i with
    | zero =>
      have h3 : (a + 1) % 2 = 1 := by omega
      simp [Nat.testBit_zero, h3]
    | succ i =>
      have e1 : (1 : Nat).testBit (i + 1) = false := by simp [Nat.testBit_succ]
      rw [e1, Nat.testBit_succ, Nat.testBit_succ]
      have : (a + 1) / 2 = a / 2 := by omega
      rw [this]; simp
  rw [e]; omega

theorem xor_zero (l : Int) (h0 : 0 ≤ l) (h1 : l < 9223372036854775808) : bits .xor .i64 l 0 = l := by
  obtain ⟨a, rfl⟩ := Int.eq_ofNat_of_zero_le h0
  have := xor_nat a 0 (by omega) (by omega)
  simpa using this

theorem xor_neg_one (l : Int) (h0 : 0 ≤ l) (h1 : l < 9223372036854775808) : bits .xor .i64 l (-1) = -l - 1 := by
  obtain ⟨a, rfl⟩ := Int.eq_ofNat_of_zero_le h0
  show IntKind.i64.wrap ((BitVec.ofInt 64 (a : Int) ^^^ BitVec.ofInt 64 (-1)).toNat : Int) = _
  have e : BitVec.ofInt 64 (-1) = BitVec.allOnes 64 := by decide +kernel
  rw [e, BitVec.xor_allOnes, BitVec.toNat_not, ofInt_nat a (by omega), i64_wrap]
  omega
end Go.Proofs.Ytkofhilgehhopaa.B
