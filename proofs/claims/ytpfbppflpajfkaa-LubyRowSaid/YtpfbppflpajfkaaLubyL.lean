/-
  PLAIN: the row in which it is begun anew: terms by their halves.
-/
import Derived.Lib.BitFns
namespace Go.Proofs.Ytpfbppflpajfkaa.LL
open Go
set_option linter.unusedVariables false
theorem aux_bd : ∀ (f x : Nat), 0 < x → x < 2 ^ f → 0 < Lib.bitLenAux f x ∧ 2 ^ (Lib.bitLenAux f x - 1) ≤ x ∧ x < 2 ^ Lib.bitLenAux f x
  | 0, x, h0, h => by simp at h; omega
  | f + 1, x, h0, h => by
    unfold Lib.bitLenAux
    rw [if_neg (by omega)]
    by_cases hx : x / 2 = 0
    · have e : Lib.bitLenAux f (x / 2) = 0 := by rw [hx]; cases f <;> simp [Lib.bitLenAux]
      rw [e]
      have : x = 1 := by omega
      subst this
      simp
    · obtain ⟨a, b, c⟩ := aux_bd f (x / 2) (by omega) (by rw [Nat.pow_succ] at h; omega)
      obtain ⟨p, hp⟩ : ∃ p, Lib.bitLenAux f (x / 2) = p + 1 := ⟨Lib.bitLenAux f (x / 2) - 1, by omega⟩
      rw [hp] at b c ⊢
      have e1 : 1 + (p + 1) = p + 1 + 1 := by omega
      rw [e1]
      simp only [Nat.add_sub_cancel] at b ⊢
      have e2 : 2 ^ (p + 1 + 1) = 2 ^ (p + 1) * 2 := Nat.pow_succ ..
      have e3 : 2 ^ (p + 1) = 2 ^ p * 2 := Nat.pow_succ ..
      exact ⟨by omega, by omega, by omega⟩
/-- The greatest p such that 2^p is at most x. -/
def top (x : Nat) : Nat := Lib.bitLen x - 1
theorem top_bd {x : Nat} (h0 : 0 < x) (h : x < 18446744073709551616) : Lib.bitLen x = top x + 1 ∧ 2 ^ top x ≤ x ∧ x < 2 ^ (top x + 1) := by
  obtain ⟨a, b, c⟩ := aux_bd 64 x h0 (by simpa using h)
  have e : Lib.bitLen x = top x + 1 := by unfold top Lib.bitLen; omega
  refine ⟨e, b, ?_⟩
  rw [← e]
  exact c
theorem pow_mono {a b : Nat} (h : a ≤ b) : 2 ^ a ≤ 2 ^ b := Nat.pow_le_pow_right (by omega) h
theorem top_uniq {x p : Nat} (h1 : 2 ^ p ≤ x) (h2 : x < 2 ^ (p + 1)) (h : x < 18446744073709551616) : top x = p := by
  have hx : 0 < x := by have := Nat.two_pow_pos p; omega
  obtain ⟨-, b, c⟩ := top_bd hx h
  rcases Nat.lt_trichotomy (top x) p with g | g | g
  · have := pow_mono (show top x + 1 ≤ p by omega); omega
  · exact g
  · have := pow_mono (show p + 1 ≤ top x by omega); omega
def full (i : Nat) : Prop := i &&& (i + 1) = 0
instance (i : Nat) : Decidable (full i) := inferInstanceAs (Decidable (_ = _))
theorem full_iff (i : Nat) : full i ↔ ∃ k, i + 1 = 2 ^ k := by
  unfold full
  have := Nat.and_sub_one_eq_zero_iff_isPowerOfTwo (n := i + 1) (by omega)
  rw [Nat.add_sub_cancel, Nat.and_comm] at this
  rw [this]
  exact Iff.rfl
theorem full_top {i : Nat} (h0 : 0 < i) (h : i < 18446744073709551615) : full i ↔ i + 1 = 2 ^ (top i + 1) := by
  rw [full_iff]
  obtain ⟨-, b, c⟩ := top_bd h0 (by omega)
  constructor
  · rintro ⟨k, hk⟩
    have : k = top i + 1 := by
      rcases Nat.lt_trichotomy k (top i + 1) with g | g | g
      · have := pow_mono (show k ≤ top i by omega); omega
      · exact g
      · have := pow_mono (show top i + 1 + 1 ≤ k by omega)
        have e : 2 ^ (top i + 1 + 1) = 2 ^ (top i + 1) * 2 := Nat.pow_succ ..
        omega
    rw [hk, this]
  · intro e; exact ⟨_, e⟩
/-- What is left behind the greatest full one below. -/
def back (i : Nat) : Nat := i - (2 ^ top i - 1)
theorem back_bd {i : Nat} (h0 : 0 < i) (h : i < 18446744073709551615) (hf : ¬ full i) : 0 < back i ∧ back i < i ∧ 2 ≤ 2 ^ top i := by
  obtain ⟨-, b, c⟩ := top_bd h0 (by omega)
  have ht : top i ≠ 0 := by
    intro e
    rw [e] at b c
    have : i = 1 := by simp at b c; omega
    subst this
    exact hf (by decide)
  have h2 : 2 ≤ 2 ^ top i := pow_mono (a := 1) (by omega)
  unfold back
  omega
def termF : Nat → Nat → Nat
  | 0, _ => 0
  | f + 1, i => if full i then (i + 1) / 2 else termF f (back i)
theorem termF_fuel : ∀ (f g i : Nat), 0 < i → i < 18446744073709551615 → i ≤ f → i ≤ g → termF f i = termF g i
  | 0, _, i, h0, _, h, _ => by omega
  | _, 0, i, h0, _, _, h => by omega
  | f + 1, g + 1, i, h0, h9, h1, h2 => by
    unfold termF
    by_cases hf : full i
    · rw [if_pos hf, if_pos hf]
    · rw [if_neg hf, if_neg hf]
      obtain ⟨a, b, -⟩ := back_bd h0 h9 hf
      exact termF_fuel f g (back i) a (by omega) (by omega) (by omega)
def term (i : Nat) : Nat := termF i i
theorem term_full {i : Nat} (h0 : 0 < i) (hf : full i) : term i = (i + 1) / 2 := by
  unfold term
  obtain ⟨j, rfl⟩ : ∃ j, i = j + 1 := ⟨i - 1, by omega⟩
  unfold termF
  rw [if_pos hf]
theorem term_step {i : Nat} (h0 : 0 < i) (h9 : i < 18446744073709551615) (hf : ¬ full i) : term i = term (back i) := by
  obtain ⟨a, b, -⟩ := back_bd h0 h9 hf
  unfold term
  obtain ⟨j, rfl⟩ : ∃ j, i = j + 1 := ⟨i - 1, by omega⟩
  conv => lhs; unfold termF
  rw [if_neg hf]
  exact termF_fuel j _ _ a (by omega) (by omega) (Nat.le_refl _)
theorem term_le : ∀ (f i : Nat), 0 < i → i < 18446744073709551615 → i ≤ f → termF f i ≤ i
  | 0, i, h0, _, h => by omega
  | f + 1, i, h0, h9, h => by
    unfold termF
    by_cases hf : full i
    · rw [if_pos hf]; omega
    · rw [if_neg hf]
      obtain ⟨a, b, -⟩ := back_bd h0 h9 hf
      have := term_le f (back i) a (by omega) (by omega)
      omega
theorem term_top (k : Nat) (h : k < 63) : term (2 ^ (k + 1) - 1) = 2 ^ k := by
  have e : 2 ^ (k + 1) = 2 ^ k * 2 := Nat.pow_succ ..
  have hp : 0 < 2 ^ k := Nat.two_pow_pos k
  rw [term_full (by omega) ((full_iff _).2 ⟨k + 1, by omega⟩)]
  omega
/-- Behind the middle the row comes again. -/
theorem term_half {k i : Nat} (hk : k < 62) (h1 : 0 < i) (h2 : i ≤ 2 ^ k - 1) : term (2 ^ k - 1 + i) = term i := by
  have hp : 0 < 2 ^ k := Nat.two_pow_pos k
  have e : 2 ^ (k + 1) = 2 ^ k * 2 := Nat.pow_succ ..
  have hb : 2 ^ k ≤ 2 ^ 62 := pow_mono (by omega)
  have e62 : (2 : Nat) ^ 62 = 4611686018427387904 := by decide
  have ht : top (2 ^ k - 1 + i) = k := top_uniq (by omega) (by omega) (by omega)
  have hnf : ¬ full (2 ^ k - 1 + i) := by
    rw [full_top (by omega) (by omega), ht]
    omega
  rw [term_step (by omega) (by omega) hnf]
  unfold back
  rw [ht]
  congr 1
  omega
end Go.Proofs.Ytpfbppflpajfkaa.LL
