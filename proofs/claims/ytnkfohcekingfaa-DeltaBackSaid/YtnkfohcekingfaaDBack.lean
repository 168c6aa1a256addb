/-
  DeltaBack for every input.
-/
import Derived.Test.YtnkfohcekingfaaDBackP
import Derived.Test.YtnkfohcekingfaaDelta4
namespace Go.Proofs.Ytnkfohcekingfaa
open Go.ChangeShapes Go.WideShapes Go.ChangeAt Go.RowKit

set_option maxRecDepth 100000 in
theorem back_out (n lhs a b : Int) (w : World) (h : n < 0 ∨ 1152921504606846976 < n ∨ lhs < 2 ∨ 1152921504606846976 < lhs) :
    Calls Try.prog 5 #[.int .i64 n, .int .i64 lhs, .int .i64 a, .int .i64 b] w fun e w' => e = .returned (.bool true) ∧ Below w.heap.size w w' := by
  rcases (show n < 0 ∨ (0 ≤ n ∧ 1152921504606846976 < n) ∨ (0 ≤ n ∧ n ≤ 1152921504606846976 ∧ lhs < 2) ∨ (0 ≤ n ∧ n ≤ 1152921504606846976 ∧ 2 ≤ lhs ∧ 1152921504606846976 < lhs) by omega) with h | ⟨h, h2⟩ | ⟨h, h2, h3⟩ | ⟨h, h2, h3, h4⟩
  all_goals
    go_enter Try.func5, Try.ntmps5
    go_wp2_with ((go_at_call 8; refine (alive _).mono ?_; rintro e w1 ⟨rfl, hb⟩))
    go_ret
    exact ⟨rfl, hb⟩

theorem cut_at {w : World} {g cap : Nat} {xs : List Nat} (hb : ∀ j, xs.getD j 0 < 256) (hl : xs.length ≤ 100) (hc : xs.length ≤ cap) (hm : cap ≤ maxLen) (k : Nat) (hk : k ≤ xs.length)
    (h : ∀ j, j < xs.length → w.cell? ⟨g, 0 + j, none⟩ = some (byteV (xs.getD j 0))) : BytesAt w (.slice (some ⟨g, 0, none⟩) k cap) (xs.take k) := by
  have hlen : (xs.take k).length = k := by rw [List.length_take]; omega
  have hg : ∀ j, j < k → (xs.take k).getD j 0 = xs.getD j 0 := fun j hj => by simp only [List.getD]; rw [List.getElem?_take_of_lt hj]
  refine ⟨fun j => ?_, by omega, _, cap, by rw [hlen], by omega, hm, .inr ⟨g, 0, rfl, fun j hj => ?_⟩⟩
  · by_cases hj : j < k
    · rw [hg j hj]; exact hb j
    · simp [List.getD, List.getElem?_eq_none (show (xs.take k).length ≤ j by omega)]
  · rw [hg j (by omega)]; exact h j (by omega)

set_option maxHeartbeats 1000000 in
set_option maxRecDepth 100000 in
theorem back_in (n : Nat) (lhs a b : Int) (w : World) (h1 : n ≤ 1152921504606846976) (h2 : 2 ≤ lhs) (h3 : lhs ≤ 1152921504606846976) :
    Calls Try.prog 5 #[.int .i64 n, .int .i64 lhs, .int .i64 a, .int .i64 b] w fun e w' => e = .returned (.bool true) ∧ Below w.heap.size w w' := by
  have hn1 : (n : Int) ≤ 1152921504606846976 := by omega
  have hl9 := putL_len9 n h1
  have hlp := putL_pos n
  have hnf : Fit n := by unfold Fit; omega
  have t1 : takeL (putL n) 0 (n : Int) = ((n : Int), ((putL n).length : Int), 0) := by
    have := takeL_put n h1 [] n
    rw [List.append_nil, if_neg (by omega)] at this; exact this
  have t2 := takeL_cut n h1 n
  have t3 : takeL (putL n) 0 ((n : Int) - 1) = (0, 0, 4) := by
    have := takeL_put n h1 [] ((n : Int) - 1)
    rw [List.append_nil, if_pos (by omega)] at this; exact this
  have T1 := Lib.hid t1
  have T2 := Lib.hid t2
  have T3 := Lib.hid t3
  clear t1 t2 t3
  have z1 : (((putL n).length : Int) == 0) = false := by rw [beq_eq_false_iff_ne]; omega
  have z2 : ((putL n).length : Int) ≤ 9 := by omega
  have z3 : (0 : Int) < ((putL n).length : Int) := by omega
  have hdec : decide ((n : Int) < 0) = false := by simp
  go_enter Try.func5, Try.ntmps5
  go_wp2_with fail
  refine (delta_Put n hnf _).mono ?_
  rintro e w1 ⟨v1, rfl, ho1, hb1⟩
  have hB := bytes_own ho1 (putL_byte n) (by omega)
  obtain ⟨-, h⟩ | ⟨g, cap, rfl, -, hc, hm, hcell⟩ := own_cell ho1
  · rw [h] at hlp; simp at hlp
  have hB2 := cut_at (putL_byte n) (by omega) hc hm ((putL n).length - 1) (by omega) hcell
  clear hcell ho1
  obtain ⟨l, hl⟩ : ∃ l, l = (putL n).length := ⟨_, rfl⟩
  rw [← hl] at hB hB2 T1 T2 z1 z2 z3 hc hlp hl9 ⊢
  have HL := Lib.hid hl
  clear hl
  go_wp2_with fail
  refine (delta_Take' _ _ _ _ _ _ _ _ hB T1.out).mono ?_
  rintro e w2 ⟨rfl, rfl⟩
  go_wp2_with fail
  refine (delta_Take' _ _ _ _ _ _ _ _ hB2 T2.out).mono ?_
  rintro e w2 ⟨rfl, rfl⟩
  go_wp2_with fail
  refine (delta_Take' _ _ _ _ _ _ _ _ hB T3.out).mono ?_
  rintro e w2 ⟨rfl, rfl⟩
  by_cases hp : b < 0 ∨ a < b ∨ lhs ≤ a
  · go_wp2_with fail
    refine (delta_Pair_no lhs a b _ hp).mono ?_
    rintro e w2 ⟨rfl, rfl⟩
    rcases (show b < 0 ∨ (0 ≤ b ∧ a < b) ∨ (0 ≤ b ∧ b ≤ a ∧ lhs ≤ a) by omega) with h | ⟨h, h'⟩ | ⟨h, h', h''⟩
    all_goals
      clear hp
      go_wp2_with ((go_at_call 8; refine (alive _).mono ?_; rintro e w3 ⟨rfl, hb3⟩))
      go_ret
      exact ⟨rfl, hb1.trans (hb3.mono hb1.size)⟩
  · have q1 : 0 ≤ b := by omega
    have q2 : b ≤ a := by omega
    have q3 : a < lhs := by omega
    have hgt := gate_pair lhs a b q1 q2 q3 h3
    have HG := Lib.hid hgt
    have hpl : (pairL lhs a b).length ≤ 20 := by
      unfold pairL
      rw [List.length_append]
      have := putL_len9 (lhs - a).toNat (by omega)
      have := putL_len9 (a - b).toNat (by omega)
      omega
    have hpb : ∀ j, (pairL lhs a b).getD j 0 < 256 := fun j => by
      unfold pairL
      by_cases hj : j < (putL (lhs - a).toNat).length
      · have := putL_byte (lhs - a).toNat j
        simp only [List.getD] at this ⊢
        rw [List.getElem?_append_left hj]; exact this
      · have := putL_byte (a - b).toNat (j - (putL (lhs - a).toNat).length)
        simp only [List.getD] at this ⊢
        rw [List.getElem?_append_right (by omega)]; exact this
    have HB := Lib.hid hpb
    clear hp hgt hpb
    go_wp2_with fail
    refine (delta_Pair lhs a b _ q1 q2 q3 (by omega)).mono ?_
    rintro e w2 ⟨v2, rfl, ho2, hb2⟩
    have hB3 := bytes_own ho2 HB.out (by omega)
    have hv2 : ∃ A c, v2 = .slice A (pairL lhs a b).length c := by
      obtain ⟨-, -, A, c, h, -⟩ := hB3; exact ⟨A, c, h⟩
    obtain ⟨A, c2, rfl⟩ := hv2
    clear ho2
    obtain ⟨l2, hl2⟩ : ∃ l2, l2 = (pairL lhs a b).length := ⟨_, rfl⟩
    rw [← hl2] at hB3 hpl ⊢
    have HL2 := Lib.hid hl2
    clear hl2
    go_wp2_with fail
    refine (delta_Gate _ _ _ lhs _ hB3 h2 h3).mono ?_
    rintro e w3 ⟨rfl, hb3⟩
    rw [HG.out, ← HL2.out]
    simp only [quad]
    go_wp2_with ((go_at_call 8; refine (alive _).mono ?_; rintro e w4 ⟨rfl, hb4⟩))
    go_ret
    have hb13 := (hb1.trans (hb2.mono hb1.size)).trans (hb3.mono (Nat.le_trans hb1.size hb2.size))
    exact ⟨rfl, hb13.trans (hb4.mono hb13.size)⟩
end Go.Proofs.Ytnkfohcekingfaa
