/-
  The document's Max, Model and Count, walked as far as RupWhole asks.
-/
import Derived.Test.YtknpfopepedmmaaRwA
namespace Go.Proofs.Ytknpfopepedmmaa
open Go.ChangeShapes Go.WideShapes Go.ChangeAt Go.RowKit
set_option linter.unusedVariables false
set_option linter.unusedSimpArgs false
theorem absI_30 {x : Int} (h : lit30 x) : ∃ q : Nat, absI x = (q : Int) ∧ q ≤ 1073741824 := by
  obtain ⟨h0, h1, h2⟩ := h
  refine ⟨(absI x).toNat, ?_, ?_⟩ <;> unfold absI <;> split <;> omega
set_option maxHeartbeats 1000000 in
theorem r17_Max {w : World} {u : Value} {l : List Int} (hi : Ints w u l) (hcl : Lit30s l) :
    Calls Try.prog 27 #[u] w fun e w' => ∃ m : Nat, e = .returned (.int .i64 (m : Int)) ∧ m ≤ 1073741824 ∧ w = w' := by
  obtain ⟨a, cap, rfl, -, hc1, hc2, hv⟩ := hi
  obtain ⟨n, hn⟩ : ∃ n, n = l.length := ⟨_, rfl⟩
  rw [← hn] at hc1 ⊢
  have hm : n ≤ 9223372036854775807 := Nat.le_trans hc1 hc2
  have HN := Lib.hid hn
  have HV := Lib.hid hv
  have HCL := Lib.hid hcl
  clear hv hn hc1 hc2 hcl
  go_enter Try.func27, Try.ntmps27
  go_wp2
  go_loopw [3, 4] (fun mx i wr => ∃ k m : Nat, k ≤ n ∧ i = .int .i64 (k : Nat) ∧ mx = .int .i64 (m : Nat) ∧ m ≤ 1073741824 ∧ wr = w) (fun _ i _ => n - (intOf i).toNat)
  case atStart => exact ⟨0, 0, Nat.zero_le _, rfl, rfl, by omega, rfl⟩
  case round =>
    obtain ⟨k, m, hk, rfl, rfl, hm30, rfl⟩ := hrel
    by_cases hlt : (k : Int) < (n : Int)
    · have hkn : k < l.length := by have := HN.out; omega
      obtain ⟨b, off, rfl, hcell⟩ := ints_cells HV.out hkn
      have q1 := hcell wr (Below.refl _ _)
      have hmem : l.getD k 0 ∈ l := by rw [List.getD_eq_getElem?_getD, List.getElem?_eq_getElem hkn]; exact List.getElem_mem hkn
      obtain ⟨q, hq, hq30⟩ := absI_30 (HCL.out _ hmem)
      have hA := r17_Abs (l.getD k 0) (by obtain ⟨-, h1, h2⟩ := HCL.out _ hmem; exact ⟨by omega, by omega⟩) wr
      rw [hq] at hA
      generalize l.getD k 0 = y at q1 hA hq hmem
      obtain ⟨z, hz⟩ : ∃ z : Nat, z = max m q := ⟨_, rfl⟩
      have e1 : max (m : Int) (q : Int) = (z : Int) := by omega
      have e2 : (if (m : Int) < (q : Int) then (q : Int) else (m : Int)) = (z : Int) := by split <;> omega
      have hz30 : z ≤ 1073741824 := by omega
      have HA := Lib.hid hA
      have HZ := Lib.hid hz30
      clear hcell hkn hmem hq hA hz hz30 hm30 hq30
      go_wp2_with ((go_at_call 57; refine (HA.out).mono ?_; rintro e w' ⟨rfl, rfl⟩))
      go_roundw
      case rel => exact ⟨k + 1, z, by omega, by go_num, by first | rfl | go_num, HZ.out, by first | rfl | trivial⟩
      case measure => simp [intOf]; omega
    · have HM := Lib.hid hm30
      clear hm30
      go_wp2
      go_ret
      exact ⟨_, rfl, HM.out, rfl⟩
end Go.Proofs.Ytknpfopepedmmaa
