/-
  The document's clauses (astrariumref17), walked: Fine and Right; general for any chapter that has them.
-/
import Derived.Test.YtghlgegfokjgbaaR17B
namespace Go.Proofs.Ytghlgegfokjgbaa
open Go.ChangeShapes Go.WideShapes Go.ChangeAt Go.RowKit
set_option linter.unusedVariables false
attribute [local go_sem ↓] Go.wp_at_zero Go.wp_at_succ
set_option maxHeartbeats 1000000 in
theorem r17_Fine {w : World} {v : Value} {l : List Int} (h : Ints w v l) : Calls Try.prog 5 #[v] w fun e w' => e = .returned (.bool (clauseB l)) ∧ w = w' := by
  obtain ⟨a, cap, rfl, -, hc1, hc2, hv⟩ := h
  obtain ⟨ans, hans⟩ : ∃ b, b = clauseB l := ⟨_, rfl⟩
  rw [← hans]
  obtain ⟨n, hn⟩ : ∃ n, n = l.length := ⟨_, rfl⟩
  rw [← hn] at hc1 ⊢
  have hm : n ≤ 9223372036854775807 := Nat.le_trans hc1 hc2
  have HA := Lib.hid hans
  have HN := Lib.hid hn
  have HV := Lib.hid hv
  clear hv hn hc1 hc2 hans
  go_enter Try.func5, Try.ntmps5
  go_wp2
  go_loopw [3] (fun i wr => ∃ k : Nat, k ≤ n ∧ i = .int .i64 k ∧ (∀ j, j < k → l.getD j 0 ≠ 0 ∧ small (l.getD j 0)) ∧ wr = w) (fun i _ => n - (intOf i).toNat)
  case atStart => exact ⟨0, Nat.zero_le _, rfl, fun _ h => absurd h (by omega), rfl⟩
  case round =>
    obtain ⟨k, hk, rfl, hrel, rfl⟩ := hrel
    have HR := Lib.hid hrel
    clear hrel
    by_cases hlt : (k : Int) < (n : Int)
    · have hkn : k < l.length := by have := HN.out; omega
      obtain ⟨b, off, rfl, hcell⟩ := ints_cells HV.out hkn
      have q1 := hcell wr (Below.refl _ _)
      obtain ⟨y, hy⟩ : ∃ y, y = l.getD k 0 := ⟨_, rfl⟩
      rw [← hy] at q1
      have HY := Lib.hid hy
      have HK := Lib.hid hkn
      clear hcell hkn hy
      by_cases hbad : y = 0 ∨ y < -1152921504606846976 ∨ 1152921504606846976 < y
      · have HZ : Hid (ans = false) := Lib.hid (by rw [HA.out]; exact clause_no HK.out (by rw [← HY.out]; exact hbad))
        have HB := Lib.hid hbad
        clear hbad
        go_wp2
        all_goals first
          | (go_ret; exact ⟨by rw [HZ.out]; rfl, rfl⟩)
          | (exfalso; have := HB.out; simp_all; omega)
          | (exfalso; have := HB.out; simp_all)
      · have h0 : (y == 0) = false := by rw [beq_eq_false_iff_ne]; omega
        have h1 : -1152921504606846976 ≤ y := by omega
        have h2 : y ≤ 1152921504606846976 := by omega
        have HX : Hid (y ≠ 0 ∧ small y) := Lib.hid ⟨by omega, h1, h2⟩
        clear hbad
        go_wp2
        go_roundw
        case rel =>
          refine ⟨k + 1, by omega, by go_num, fun j hj => ?_, trivial⟩
          rcases Nat.lt_or_ge j k with h | h
          · exact HR.out j h
          · rw [show j = k by omega, ← HY.out]; exact HX.out
        case measure => simp [intOf]; omega
    · have HZ : Hid (ans = true) := Lib.hid (by rw [HA.out]; exact clause_yes (n := k) (by have := HN.out; omega) HR.out)
      go_wp2
      go_ret
      exact ⟨by rw [HZ.out]; rfl, rfl⟩
def rightB (c : List Int) (vars : Int) : Bool := c.all fun l => decide (l ≠ 0 ∧ 0 ≤ vars ∧ -vars ≤ l ∧ l ≤ vars)
def badB (vars l : Int) : Bool := !decide (l ≠ 0 ∧ 0 ≤ vars ∧ -vars ≤ l ∧ l ≤ vars)
theorem all_no0 {l : List Int} {p : Int → Bool} {k : Nat} (hk : k < l.length) (h : p (l.getD k 0) = false) : l.all p = false := by
  rw [List.all_eq_false]
  exact ⟨_, List.getElem_mem hk, by simpa [List.getD, hk] using h⟩
theorem all_yes0 {l : List Int} {p : Int → Bool} {n : Nat} (hn : n = l.length) (h : ∀ j, j < n → p (l.getD j 0) = true) : l.all p = true := by
  rw [List.all_eq_true]
  intro x hx
  obtain ⟨j, hj, rfl⟩ := List.getElem_of_mem hx
  have := h j (by omega)
  simpa [List.getD, hj] using this
set_option maxHeartbeats 1000000 in
theorem r17_Right {w : World} {v : Value} {l : List Int} (h : Ints w v l) (vars : Int) (h0 : 0 ≤ vars) (h1 : vars ≤ 65536) :
    Calls Try.prog 26 #[v, .int .i64 vars] w fun e w' => e = .returned (.bool (rightB l vars)) ∧ w = w' := by
  obtain ⟨a, cap, rfl, -, hc1, hc2, hv⟩ := h
  obtain ⟨ans, hans⟩ : ∃ b, b = rightB l vars := ⟨_, rfl⟩
  rw [← hans]
  obtain ⟨n, hn⟩ : ∃ n, n = l.length := ⟨_, rfl⟩
  rw [← hn] at hc1 ⊢
  have hm : n ≤ 9223372036854775807 := Nat.le_trans hc1 hc2
  have HA := Lib.hid hans
  have HN := Lib.hid hn
  have HV := Lib.hid hv
  clear hv hn hc1 hc2 hans
  go_enter Try.func26, Try.ntmps26
  go_wp2
  go_loopw [5] (fun i wr => ∃ k : Nat, k ≤ n ∧ i = .int .i64 k ∧ (∀ j, j < k → badB vars (l.getD j 0) = false) ∧ wr = w) (fun i _ => n - (intOf i).toNat)
  case atStart => exact ⟨0, Nat.zero_le _, rfl, fun _ h => absurd h (by omega), rfl⟩
  case round =>
    obtain ⟨k, hk, rfl, hrel, rfl⟩ := hrel
    have HR := Lib.hid hrel
    clear hrel
    by_cases hlt : (k : Int) < (n : Int)
    · have hkn : k < l.length := by have := HN.out; omega
      obtain ⟨b, off, rfl, hcell⟩ := ints_cells HV.out hkn
      have q1 := hcell wr (Below.refl _ _)
      obtain ⟨y, hy⟩ : ∃ y, y = l.getD k 0 := ⟨_, rfl⟩
      rw [← hy] at q1
      have HY := Lib.hid hy
      have HK := Lib.hid hkn
      clear hcell hkn hy
      by_cases hb : y ≠ 0 ∧ 0 ≤ vars ∧ -vars ≤ y ∧ y ≤ vars
      · have HX : Hid (badB vars y = false) := Lib.hid (by unfold badB; rw [decide_eq_true hb]; rfl)
        obtain ⟨g0, -, g2, g3⟩ := hb
        have b0 : (y == 0) = false := by rw [beq_eq_false_iff_ne]; exact g0
        clear g0
        go_wp2
        go_roundw
        case rel =>
          refine ⟨k + 1, by omega, by go_num, fun j hj => ?_, trivial⟩
          rcases Nat.lt_or_ge j k with h | h
          · exact HR.out j h
          · rw [show j = k by omega, ← HY.out]; exact HX.out
        case measure => simp [intOf]; omega
      · have HZ : Hid (ans = false) := Lib.hid (by
          rw [HA.out]
          exact all_no0 HK.out (by rw [← HY.out]; exact decide_eq_false hb))
        have hb2 : y = 0 ∨ (y ≠ 0 ∧ vars < y) ∨ (y ≠ 0 ∧ y ≤ vars ∧ y < -vars) := by omega
        clear hb
        rcases hb2 with h2 | ⟨g0, g1⟩ | ⟨g0, g2, g1⟩
        · have b0 : (y == 0) = true := by rw [beq_iff_eq]; exact h2
          clear h2
          go_wp2
          go_ret
          exact ⟨by rw [HZ.out]; rfl, rfl⟩
        · have b0 : (y == 0) = false := by rw [beq_eq_false_iff_ne]; exact g0
          clear g0
          go_wp2
          go_ret
          exact ⟨by rw [HZ.out]; rfl, rfl⟩
        · have b0 : (y == 0) = false := by rw [beq_eq_false_iff_ne]; exact g0
          clear g0
          go_wp2
          go_ret
          exact ⟨by rw [HZ.out]; rfl, rfl⟩
    · have HZ : Hid (ans = true) := Lib.hid (by
        rw [HA.out]
        exact all_yes0 (n := k) (by have := HN.out; omega) (fun j hj => by have := HR.out j hj; unfold badB at this; simpa using this))
      go_wp2
      go_ret
      exact ⟨by rw [HZ.out]; rfl, rfl⟩
end Go.Proofs.Ytghlgegfokjgbaa
