/-
  PLAIN LAWS on the bytes of numbers: what Put writes Take reads; of fewer bytes it does not; and gates.
-/
import Derived.Test.YtnkfohcekingfaaGate
namespace Go.Proofs.Ytnkfohcekingfaa
open Go.ChangeShapes Go.WideShapes Go.ChangeAt Go.RowKit

theorem takeG_put (most pos : Int) : ∀ (f m i n : Nat) (r : List Nat), (putL m).length ≤ f → (i = 0 ∨ 1 ≤ m) →
    takeG most pos f i n (putL m ++ r) = if most < ((n + m * 128 ^ i : Nat) : Int) then (0, 0, 4) else (((n + m * 128 ^ i : Nat) : Int), pos + i + (putL m).length, 0) := by
  intro f
  induction f with
  | zero => intro m i n r h; have := putL_pos m; omega
  | succ f ih =>
    intro m i n r h hi
    by_cases hm : m < 128
    · rw [putL_lo m hm]
      have e : m % 128 = m := by omega
      show takeG most pos (f + 1) i n (m :: r) = _
      unfold takeG
      rw [if_neg (by omega), if_neg (by omega), e]
      by_cases hh : most < ((n + m * 128 ^ i : Nat) : Int)
      · rw [if_pos hh, if_pos hh]
      · rw [if_neg hh, if_neg hh]; simp
    · rw [putL_hi m (by omega)] at h ⊢
      show takeG most pos (f + 1) i n ((m % 128 + 128) :: (putL (m / 128) ++ r)) = _
      unfold takeG
      rw [if_pos (by omega)]
      have e : (m % 128 + 128) % 128 = m % 128 := by omega
      rw [e, ih (m / 128) (i + 1) _ r (by simpa using h) (.inr (by omega))]
      have e2 : n + m % 128 * 128 ^ i + m / 128 * 128 ^ (i + 1) = n + m * 128 ^ i := by
        rw [Nat.pow_succ, Nat.mul_comm (128 ^ i) 128, ← Nat.mul_assoc, Nat.add_assoc, ← Nat.add_mul]
        congr 2; omega
      rw [e2]
      simp only [List.length_cons]
      have e3 : pos + ((i + 1 : Nat) : Int) + ((putL (m / 128)).length : Int) = pos + (i : Int) + (((putL (m / 128)).length + 1 : Nat) : Int) := by omega
      rw [e3]

theorem takeG_cut (most pos : Int) : ∀ (f m i n : Nat), (putL m).length ≤ f → takeG most pos f i n ((putL m).take ((putL m).length - 1)) = (0, 0, 12) := by
  intro f
  induction f with
  | zero => intro m i n h; have := putL_pos m; omega
  | succ f ih =>
    intro m i n h
    by_cases hm : m < 128
    · rw [putL_lo m hm]; rfl
    · rw [putL_hi m (by omega)] at h ⊢
      have hp := putL_pos (m / 128)
      obtain ⟨l, hl⟩ : ∃ l, (putL (m / 128)).length = l + 1 := ⟨(putL (m / 128)).length - 1, by omega⟩
      simp only [List.length_cons, Nat.add_sub_cancel]
      rw [hl, List.take_succ_cons]
      unfold takeG
      rw [if_pos (by omega)]
      have := ih (m / 128) (i + 1) (n + (m % 128 + 128) % 128 * 128 ^ i) (by simpa using h)
      rw [hl] at this
      simpa using this

theorem putL_len9 (n : Nat) (h : n ≤ 1152921504606846976) : (putL n).length ≤ 9 := putL_len 8 n (by omega)

theorem takeL_put (n : Nat) (h : n ≤ 1152921504606846976) (r : List Nat) (most : Int) : takeL (putL n ++ r) 0 most = if most < (n : Int) then (0, 0, 4) else ((n : Int), ((putL n).length : Int), 0) := by
  have := takeG_put most 0 9 n 0 0 r (putL_len9 n h) (.inl rfl)
  unfold takeL
  rw [if_neg (by omega)]
  simpa using this
theorem takeL_cut (n : Nat) (h : n ≤ 1152921504606846976) (most : Int) : takeL ((putL n).take ((putL n).length - 1)) 0 most = (0, 0, 12) := by
  have := takeG_cut most 0 9 n 0 0 (putL_len9 n h)
  unfold takeL
  rw [if_neg (by omega)]
  simpa using this
theorem takeL_put2 (p n : Nat) (h : n ≤ 1152921504606846976) (most : Int) (hm : (n : Int) ≤ most) : takeL (putL p ++ putL n) ((putL p).length : Nat) most = ((n : Int), (((putL p).length + (putL n).length : Nat) : Int), 0) := by
  have := takeG_put most ((putL p).length : Nat) 9 n 0 0 [] (putL_len9 n h) (.inl rfl)
  rw [takeL_in _ _ _ (by simp)]
  rw [List.append_nil] at this
  simp only [List.drop_left]
  rw [this, if_neg (by simpa using hm)]
  simp

/-- What Gate reads of what Pair wrote. -/
theorem gate_pair (lhs a b : Int) (h1 : 0 ≤ b) (h2 : b ≤ a) (h3 : a < lhs) (h4 : lhs ≤ 1152921504606846976) : gateL (pairL lhs a b) 0 lhs = (a, b, ((pairL lhs a b).length : Int), 0) := by
  obtain ⟨p, hp⟩ := Int.eq_ofNat_of_zero_le (show 0 ≤ lhs - a by omega)
  obtain ⟨q, hq⟩ := Int.eq_ofNat_of_zero_le (show 0 ≤ a - b by omega)
  have hpl : pairL lhs a b = putL p ++ putL q := by unfold pairL; rw [hp, hq]; rfl
  rw [hpl]
  have e1 : takeL (putL p ++ putL q) 0 1152921504606846976 = ((p : Int), ((putL p).length : Int), 0) := by
    rw [takeL_put p (by omega), if_neg (by omega)]
  have e2 := takeL_put2 p q (by omega) 1152921504606846976 (by omega)
  unfold gateL
  rw [e1]
  simp only [ne_eq, not_true, if_false]
  rw [e2]
  simp only [not_true, if_false]
  rw [gateFin_yes (by omega)]
  refine Prod.ext ?_ (Prod.ext ?_ (Prod.ext ?_ rfl))
  · show lhs - p = a; omega
  · show lhs - p - q = b; omega
  · show (((putL p).length + (putL q).length : Nat) : Int) = ((putL p ++ putL q).length : Int); rw [List.length_append]
end Go.Proofs.Ytnkfohcekingfaa
