/-
  The greatest variable; LitsSorts.
-/
import Derived.Test.YtpophiiejmhniaaSortX
import Derived.Test.YtpophiiejmhniaaLaw
import Derived.Test.YtpophiiejmhniaaFrame
namespace Go.Proofs.Ytpophiiejmhniaa
open Go.ChangeShapes Go.WideShapes Go.ChangeAt Go.RowKit
set_option linter.unusedVariables false
def maxTo (l : List Int) (k : Nat) : Int := (l.take k).foldl (fun n x => max n (x / 2)) 0
theorem maxTo_succ {l : List Int} {k : Nat} (h : k < l.length) : maxTo l (k + 1) = max (maxTo l k) (l.getD k 0 / 2) := by
  unfold maxTo
  rw [take_snocI h, List.foldl_append]
  rfl
def fineL (l : List Int) : Prop := ∀ j, j < l.length → 0 ≤ l.getD j 0 ∧ l.getD j 0 ≤ 2305843009213693952
theorem maxTo_bd {l : List Int} (h : fineL l) : ∀ k, k ≤ l.length → 0 ≤ maxTo l k ∧ maxTo l k ≤ 1152921504606846976
  | 0, _ => by simp [maxTo]
  | k + 1, hk => by
    have h1 := maxTo_bd h k (by omega)
    have h2 := h k (by omega)
    rw [maxTo_succ (by omega)]
    omega
set_option maxHeartbeats 1000000 in
theorem r01_Max {w : World} {v : Value} {l : List Int} (h : Ints w v l) (hf : fineL l) : Calls Try.prog 26 #[v] w fun e w' => e = .returned (.int .i64 (maxTo l l.length)) ∧ w = w' := by
  obtain ⟨a, cap, rfl, -, hc1, hc2, hv⟩ := h
  obtain ⟨n, hn⟩ : ∃ n, n = l.length := ⟨_, rfl⟩
  rw [← hn] at hc1 ⊢
  have hm : n ≤ 9223372036854775807 := Nat.le_trans hc1 hc2
  have HN := Lib.hid hn
  have HV := Lib.hid hv
  have HF := Lib.hid hf
  clear hv hn hc1 hc2 hf
  go_enter Try.func26, Try.ntmps26
  go_wp2
  go_loopw [3, 4] (fun t i wr => ∃ k : Nat, k ≤ n ∧ i = .int .i64 k ∧ t = .int .i64 (maxTo l k) ∧ wr = w) (fun _ i _ => n - (intOf i).toNat)
  case atStart => exact ⟨0, Nat.zero_le _, rfl, rfl, rfl⟩
  case round =>
    obtain ⟨k, hk, rfl, rfl, rfl⟩ := hrel
    by_cases hlt : (k : Int) < (n : Int)
    · have hkn : k < l.length := by have := HN.out; omega
      obtain ⟨b, off, rfl, hcell⟩ := ints_cells HV.out hkn
      have q1 := hcell wr (Below.refl _ _)
      obtain ⟨x0, x1⟩ := HF.out k hkn
      have HS := Lib.hid (maxTo_succ hkn)
      obtain ⟨x, hx⟩ : ∃ x, x = l.getD k 0 := ⟨_, rfl⟩
      rw [← hx] at q1 x0 x1 HS
      obtain ⟨m0, m1⟩ := maxTo_bd HF.out k (by omega)
      obtain ⟨y, hy⟩ : ∃ y, y = maxTo l k := ⟨_, rfl⟩
      rw [← hy] at m0 m1 HS ⊢
      clear hcell hkn hx hy
      go_wp2_with ((go_at_call 13; refine (r01_Var _ _ x0 x1).mono ?_; rintro e w' ⟨rfl, rfl⟩))
      all_goals
        go_roundw
        case rel => exact ⟨k + 1, by omega, by go_num, congrArg (Value.int IntKind.i64) (by have := HS.out; omega), trivial⟩
        case measure => simp [intOf]; omega
    · have hkn : k = n := by omega
      subst hkn
      go_wp2
      go_ret
      exact ⟨rfl, rfl⟩
set_option maxHeartbeats 1000000 in
theorem lits_Max {w : World} {v : Value} {l : List Int} (h : Ints w v l) (hf : fineL l) : Calls Try.prog 25 #[v] w fun e w' => e = .returned (.int .i64 (maxTo l l.length)) ∧ w = w' := by
  obtain ⟨a, cap, rfl, -, hc1, hc2, hv⟩ := h
  obtain ⟨n, hn⟩ : ∃ n, n = l.length := ⟨_, rfl⟩
  rw [← hn] at hc1 ⊢
  have hm : n ≤ 9223372036854775807 := Nat.le_trans hc1 hc2
  have HN := Lib.hid hn
  have HV := Lib.hid hv
  have HF := Lib.hid hf
  clear hv hn hc1 hc2 hf
  go_enter Try.func25, Try.ntmps25
  go_wp2
  go_step3
  go_wp2
  go_step3
  go_wp2
  go_loopw [2, 4, 7] (fun t _ i wr => ∃ k : Nat, k ≤ n ∧ i = .int .i64 k ∧ t = .int .i64 (maxTo l k) ∧ wr = w) (fun _ _ i _ => n - (intOf i).toNat)
  case atStart => exact ⟨0, Nat.zero_le _, rfl, rfl, rfl⟩
  case round =>
    obtain ⟨k, hk, rfl, rfl, rfl⟩ := hrel
    by_cases hlt : (k : Int) < (n : Int)
    · have hkn : k < l.length := by have := HN.out; omega
      obtain ⟨b, off, rfl, hcell⟩ := ints_cells HV.out hkn
      have q1 := hcell wr (Below.refl _ _)
      obtain ⟨x0, x1⟩ := HF.out k hkn
      have HS := Lib.hid (maxTo_succ hkn)
      obtain ⟨x, hx⟩ : ∃ x, x = l.getD k 0 := ⟨_, rfl⟩
      rw [← hx] at q1 x0 x1 HS
      obtain ⟨m0, m1⟩ := maxTo_bd HF.out k (by omega)
      obtain ⟨y, hy⟩ : ∃ y, y = maxTo l k := ⟨_, rfl⟩
      rw [← hy] at m0 m1 HS ⊢
      clear hcell hkn hx hy
      go_wp2_with ((go_at_call 12; refine (lits_Var _ _).mono ?_; rintro e w' ⟨rfl, rfl⟩))
      all_goals
        go_roundw
        case rel => exact ⟨k + 1, by omega, by go_num, congrArg (Value.int IntKind.i64) (by have := HS.out; omega), trivial⟩
        case measure => simp [intOf]; omega
    · have hkn : k = n := by omega
      subst hkn
      go_wp2
      try rw [Exit.noGoto_ret]
      go_ret
      exact ⟨rfl, rfl⟩
theorem sorts_long {w : World} {v : Value} {l : List Int} (h : Ints w v l) (hl : 100 < l.length) : Calls Try.prog 6 #[v] w fun e w' => e = .returned (.bool true) ∧ w = w' := by
  obtain ⟨a, cap, rfl, -, -, -, -⟩ := h
  have hl' : (100 : Int) < (l.length : Int) := by omega
  clear hl
  go_enter Try.func6, Try.ntmps6
  go_wp2_with ((go_at_call 8; refine (W01.alive _).mono ?_; rintro e w' ⟨rfl, rfl⟩))
  go_ret
  exact ⟨rfl, rfl⟩
set_option maxHeartbeats 2000000 in
theorem sorts_short {w : World} {v : Value} {l : List Int} (h : Ints w v l) (hl : l.length ≤ 100) : Calls Try.prog 6 #[v] w fun e w' => e = .returned (.bool true) ∧ Below w.heap.size w w' := by
  have HI := Lib.hid h
  obtain ⟨a, cap, rfl, -, -, -, hv⟩ := h
  obtain ⟨n, hn⟩ : ∃ n, n = l.length := ⟨_, rfl⟩
  rw [← hn] at hl HI ⊢
  have HN := Lib.hid hn
  have HV := Lib.hid hv
  clear hv hn
  go_enter Try.func6, Try.ntmps6
  go_wp2
  go_loopw [3] (fun i wr => ∃ k : Nat, k ≤ n ∧ i = .int .i64 k ∧ (∀ j, j < k → 0 ≤ l.getD j 0 ∧ l.getD j 0 ≤ 2305843009213693952) ∧ wr = w) (fun i _ => n - (intOf i).toNat)
  case atStart => exact ⟨0, Nat.zero_le _, rfl, fun _ h => absurd h (by omega), rfl⟩
  case round =>
    obtain ⟨k, hk, rfl, hrel, rfl⟩ := hrel
    have HR := Lib.hid hrel
    clear hrel
    by_cases hlt : (k : Int) < (n : Int)
    · have hkn : k < l.length := by have := HN.out; omega
      obtain ⟨b, off, rfl, hcell⟩ := ints_cells HV.out hkn
      have q1 := hcell wr (Below.refl _ _)
      obtain ⟨x, hx⟩ : ∃ x, x = l.getD k 0 := ⟨_, rfl⟩
      rw [← hx] at q1
      have HX := Lib.hid hx
      clear hcell hkn hx
      by_cases hf : 0 ≤ x ∧ x ≤ 2305843009213693952
      · obtain ⟨x0, x1⟩ := hf
        go_wp2_with ((go_at_call 7; refine (W01.fine_yes _ _ x0 x1).mono ?_; rintro e w' ⟨rfl, rfl⟩))
        go_roundw
        case rel =>
          refine ⟨k + 1, by omega, by go_num, fun j hj => ?_, trivial⟩
          rcases Nat.lt_or_ge j k with h | h
          · exact HR.out j h
          · rw [show j = k by omega, ← HX.out]; exact ⟨x0, x1⟩
        case measure => simp [intOf]; omega
      · have hf' : x < 0 ∨ 2305843009213693952 < x := by omega
        have HF := Lib.hid hf'
        clear hf hf'
        go_wp2_with (first | (go_at_call 7; refine (W01.fine_no _ _ HF.out).mono ?_; rintro e w' ⟨rfl, rfl⟩) | (go_at_call 8; refine (W01.alive _).mono ?_; rintro e w' ⟨rfl, rfl⟩))
        go_ret
        exact ⟨rfl, Below.refl _ _⟩
    · have hf : fineL l := fun j hj => HR.out j (by have := HN.out; omega)
      have HF := Lib.hid hf
      have HL : Hid (l.length ≤ 1000000) := Lib.hid (by have := HN.out; omega)
      clear hf
      go_wp2_with fail
      refine (lits_Sort HI.out HL.out).mono ?_
      rintro e w1 ⟨u1, rfl, hi1, hb1⟩
      have HI1 := Lib.hid (HI.out.below hb1)
      have HU1 := Lib.hid hi1
      have HB1 := Lib.hid hb1
      clear hi1 hb1
      go_wp2_with fail
      refine (r01_Sort HI1.out HL.out).mono ?_
      rintro e w2 ⟨u2, rfl, ho⟩
      have HI2 := Lib.hid (HI1.out.below ho.2.1)
      have HU12 := Lib.hid (HU1.out.below ho.2.1)
      have HU2 := Lib.hid ho.ints
      have HB2 := Lib.hid (HB1.out.trans (ho.2.1.mono HB1.out.size))
      clear ho
      go_wp2_with fail
      refine (r01_Same HU12.out HU2.out).mono ?_
      rintro e w3 ⟨rfl, hq⟩
      rw [sameB_self]
      have HI3 := Lib.hid (HI2.out.below hq.below)
      have HB3 := Lib.hid (HB2.out.trans (hq.below.mono HB2.out.size))
      clear hq
      go_wp2_with fail
      refine (lits_Max HI3.out HF.out).mono ?_
      rintro e w4 ⟨rfl, rfl⟩
      go_wp2_with fail
      refine (r01_Max HI3.out HF.out).mono ?_
      rintro e w4 ⟨rfl, rfl⟩
      go_wp2_with ((go_at_call 8; refine (W01.alive _).mono ?_; rintro e w' ⟨rfl, rfl⟩))
      go_ret
      exact ⟨rfl, HB3.out⟩
theorem sorts {w : World} {v : Value} {l : List Int} (h : Ints w v l) : Calls Try.prog 6 #[v] w fun e w' => e = .returned (.bool true) ∧ Below w.heap.size w w' := by
  by_cases hl : 100 < l.length
  · exact (sorts_long h hl).mono fun e w' ⟨he, hw⟩ => ⟨he, by subst hw; exact Below.refl _ _⟩
  · exact sorts_short h (by omega)
end Go.Proofs.Ytpophiiejmhniaa
