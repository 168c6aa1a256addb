/-
  Clauses: the small functions, walked (those of them that need no search in a list).
-/
import Derived.Test.YtnpmaphedcfnnaaDoorClL
import Derived.Test.YtnpmaphedcfnnaaDoorIntsB
import Derived.Deep.RegionHeld3
namespace Go.Proofs.YtnpmaphedcfnnaaDoor
open Go.ChangeShapes Go.WideShapes Go.ChangeAt Go.RowKit
set_option linter.unusedVariables false
def small (x : Int) : Prop := -1152921504606846976 ≤ x ∧ x ≤ 1152921504606846976
theorem cl_abs (x : Int) (h : small x) (w : World) : Calls Tryd.prog 60 #[.int .i64 x] w fun e w' => e = .returned (.int .i64 (absI x)) ∧ w = w' := by
  obtain ⟨h0, h1⟩ := h
  go_enter Tryd.func60, Tryd.ntmps60
  go_wp2
  all_goals
    go_ret
    refine ⟨congrArg (fun z => Ending.returned (Value.int IntKind.i64 z)) ?_, rfl⟩
    unfold absI
    (try simp only [Int.max_def])
    (repeat (first | omega | split))
theorem r17_Abs (x : Int) (h : small x) (w : World) : Calls Tryd.prog 62 #[.int .i64 x] w fun e w' => e = .returned (.int .i64 (absI x)) ∧ w = w' := by
  obtain ⟨h0, h1⟩ := h
  by_cases hx : x < 0
  · have e : absI x = -x := by unfold absI; rw [if_pos hx]
    rw [e]
    clear e
    go_enter Tryd.func62, Tryd.ntmps62
    go_wp2
    go_ret
    exact ⟨rfl, rfl⟩
  · have e : absI x = x := by unfold absI; rw [if_neg hx]
    rw [e]
    clear e
    go_enter Tryd.func62, Tryd.ntmps62
    go_wp2
    go_ret
    exact ⟨rfl, rfl⟩
theorem absI_bd {x : Int} (h : small x) : 0 ≤ absI x ∧ absI x ≤ 1152921504606846976 := by obtain ⟨h0, h1⟩ := h; unfold absI; omega
instance (l : List Int) : Decidable (ClauseL l) := inferInstanceAs (Decidable (∀ x ∈ l, x ≠ 0 ∧ -1152921504606846976 ≤ x ∧ x ≤ 1152921504606846976))
def clauseB (l : List Int) : Bool := decide (ClauseL l)
theorem clause_no {l : List Int} {k : Nat} (hk : k < l.length) (h : l.getD k 0 = 0 ∨ l.getD k 0 < -1152921504606846976 ∨ 1152921504606846976 < l.getD k 0) : clauseB l = false := by
  refine decide_eq_false fun g => ?_
  have := g (l.getD k 0) (by simp [List.getD, hk])
  omega
theorem clause_yes {l : List Int} {n : Nat} (hn : n = l.length) (h : ∀ j, j < n → l.getD j 0 ≠ 0 ∧ small (l.getD j 0)) : clauseB l = true := by
  refine decide_eq_true fun x hx => ?_
  obtain ⟨j, hj, rfl⟩ := List.getElem_of_mem hx
  have := h j (by omega)
  simpa [List.getD, hj, small] using this
set_option maxHeartbeats 1000000 in
theorem r17_Fine {w : World} {v : Value} {l : List Int} (h : Ints w v l) : Calls Tryd.prog 9 #[v] w fun e w' => e = .returned (.bool (clauseB l)) ∧ w = w' := by
  obtain ⟨a, cap, rfl, -, hc1, hc2, hv⟩ := h
  obtain ⟨ans, hans⟩ : ∃ b, b = clauseB l := ⟨_, rfl⟩
  rw [← hans]
  obtain ⟨n, hn⟩ : ∃ n, n = l.length := ⟨_, rfl⟩
  rw [← hn] at hc1 ⊢
  have hm : n ≤ 9223372036854775807 := Nat.le_trans hc1 hc2
  have HA := Lib.hid hans
  have HN := Lib.hid hn
  have HV := Lib.hid hv
  clear hv hn hc1 hc2 hans
  go_enter Tryd.func9, Tryd.ntmps9
  go_wp2
  go_loopw [3] (fun i wr => ∃ k : Nat, k ≤ n ∧ i = .int .i64 k ∧ (∀ j, j < k → l.getD j 0 ≠ 0 ∧ small (l.getD j 0)) ∧ wr = w) (fun i _ => n - (intOf i).toNat)
  case atStart => exact ⟨0, Nat.zero_le _, rfl, fun _ h => absurd h (by omega), rfl⟩
  case round =>
    obtain ⟨k, hk, rfl, hrel, rfl⟩ := hrel
    have HR := Lib.hid hrel
    clear hrel
    by_cases hlt : (k : Int) < (n : Int)
    · have hkn : k < l.length := by have := HN.out; omega
      obtain ⟨b, off, rfl, hcell⟩ := ints_cells HV.out hkn
      have q1 := hcell wr (Below.refl _ _)
      obtain ⟨y, hy⟩ : ∃ y, y = l.getD k 0 := ⟨_, rfl⟩
      rw [← hy] at q1
      have HY := Lib.hid hy
      have HK := Lib.hid hkn
      clear hcell hkn hy
      by_cases hbad : y = 0 ∨ y < -1152921504606846976 ∨ 1152921504606846976 < y
      · have HZ : Hid (ans = false) := Lib.hid (by rw [HA.out]; exact clause_no HK.out (by rw [← HY.out]; exact hbad))
        have HB := Lib.hid hbad
        clear hbad
        go_wp2
        all_goals first
          | (go_ret; exact ⟨by rw [HZ.out]; rfl, rfl⟩)
          | (exfalso; have := HB.out; simp_all; omega)
          | (exfalso; have := HB.out; simp_all)
      · have h0 : (y == 0) = false := by rw [beq_eq_false_iff_ne]; omega
        have h1 : -1152921504606846976 ≤ y := by omega
        have h2 : y ≤ 1152921504606846976 := by omega
        have HX : Hid (y ≠ 0 ∧ small y) := Lib.hid ⟨by omega, h1, h2⟩
        clear hbad
        go_wp2
        go_roundw
        case rel =>
          refine ⟨k + 1, by omega, by go_num, fun j hj => ?_, trivial⟩
          rcases Nat.lt_or_ge j k with h | h
          · exact HR.out j h
          · rw [show j = k by omega, ← HY.out]; exact HX.out
        case measure => simp [intOf]; omega
    · have HZ : Hid (ans = true) := Lib.hid (by rw [HA.out]; exact clause_yes (n := k) (by have := HN.out; omega) HR.out)
      go_wp2
      go_ret
      exact ⟨by rw [HZ.out]; rfl, rfl⟩
end Go.Proofs.YtnpmaphedcfnnaaDoor
