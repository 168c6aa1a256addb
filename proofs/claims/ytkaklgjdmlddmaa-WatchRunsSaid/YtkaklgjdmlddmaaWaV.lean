/-
  The document's answer of chapter 22, walked: Value, False, Tells, Fine; and what they tell.
-/
import Derived.Test.YtkaklgjdmlddmaaR17N
import Derived.Deep.RegionWith
import Derived.Deep.RegionHeld3
namespace Go.Proofs.Ytkaklgjdmlddmaa
open Go.ChangeShapes Go.WideShapes Go.ChangeAt Go.RowKit
set_option linter.unusedVariables false
set_option linter.unusedSimpArgs false
attribute [local go_sem ↓] Go.wp_at_zero Go.wp_at_succ
def lit9 (x : Int) : Prop := x ≠ 0 ∧ -9 ≤ x ∧ x ≤ 9
def valR (l : Int) (lits : List Int) : Int := if lits.contains l then 1 else if lits.contains (-l) then -1 else 0
def falR (c lits : List Int) : Bool := c.all fun x => decide (valR x lits < 0)
def telG (lits : List Int) : List Int → Int → Int
  | [], l => l
  | x :: r, l => if valR x lits = 1 then 0 else if valR x lits = 0 then (if l ≠ 0 ∧ l ≠ x then 0 else telG lits r x) else telG lits r l
def telR (c lits : List Int) : Int := telG lits c 0
def Lit9s (c : List Int) : Prop := ∀ x ∈ c, lit9 x
theorem Lit9s.at_ {c : List Int} (h : Lit9s c) {j : Nat} (hj : j < c.length) : lit9 (c.getD j 0) := h _ (by simp [List.getD, hj])
theorem valR_cases (l : Int) (lits : List Int) : valR l lits = 1 ∨ valR l lits = 0 ∨ valR l lits = -1 := by
  unfold valR
  split
  · exact .inl rfl
  · split
    · exact .inr (.inr rfl)
    · exact .inr (.inl rfl)
theorem r22_Value {w : World} {v : Value} {l : List Int} (h : Ints w v l) (x : Int) (hx : lit9 x) : Calls Try.prog 54 #[.int .i64 x, v] w fun e w' => e = .returned (.int .i64 (valR x l)) ∧ w = w' := by
  have h1 := r17_Has h x
  have h2 := r17_Has h (-x)
  obtain ⟨p, hp⟩ : ∃ p, p = l.contains x := ⟨_, rfl⟩
  obtain ⟨q, hq⟩ : ∃ q, q = l.contains (-x) := ⟨_, rfl⟩
  have e : valR x l = if p then 1 else if q then -1 else 0 := by unfold valR; rw [hp, hq]
  rw [← hp] at h1
  rw [← hq] at h2
  have E := Lib.hid e
  have H1 := Lib.hid h1
  have H2 := Lib.hid h2
  obtain ⟨x0, x1, x2⟩ := hx
  clear h1 h2 e hp hq h x0
  cases p
  · cases q
    · go_enter Try.func54, Try.ntmps54
      go_wp2_with fail
      refine H1.out.mono ?_
      rintro e w1 ⟨rfl, rfl⟩
      go_wp2_with ((go_at_call 56; refine (H2.out).mono ?_; rintro e w' ⟨rfl, rfl⟩))
      go_ret
      exact ⟨by rw [E.out]; rfl, rfl⟩
    · go_enter Try.func54, Try.ntmps54
      go_wp2_with fail
      refine H1.out.mono ?_
      rintro e w1 ⟨rfl, rfl⟩
      go_wp2_with ((go_at_call 56; refine (H2.out).mono ?_; rintro e w' ⟨rfl, rfl⟩))
      go_ret
      exact ⟨by rw [E.out]; rfl, rfl⟩
  · go_enter Try.func54, Try.ntmps54
    go_wp2_with fail
    refine H1.out.mono ?_
    rintro e w1 ⟨rfl, rfl⟩
    go_wp2_with fail
    go_ret
    exact ⟨by rw [E.out]; rfl, rfl⟩
set_option maxHeartbeats 1000000 in
theorem r22_False {w : World} {u v : Value} {c l : List Int} (hu : Ints w u c) (hi : Ints w v l) (h9 : Lit9s c) :
    Calls Try.prog 35 #[u, v] w fun e w' => e = .returned (.bool (falR c l)) ∧ w = w' := by
  obtain ⟨a, cap, rfl, -, hc1, hc2, hv⟩ := hu
  obtain ⟨ans, hans⟩ : ∃ b, b = falR c l := ⟨_, rfl⟩
  rw [← hans]
  obtain ⟨n, hn⟩ : ∃ n, n = c.length := ⟨_, rfl⟩
  rw [← hn] at hc1 ⊢
  have hm : n ≤ 9223372036854775807 := Nat.le_trans hc1 hc2
  have HA := Lib.hid hans
  have HN := Lib.hid hn
  have HV := Lib.hid hv
  have H9 := Lib.hid h9
  have HVA := Lib.hid (fun x hx => r22_Value hi x hx)
  clear hv hn hc1 hc2 hans h9 hi
  go_enter Try.func35, Try.ntmps35
  go_wp2
  go_loopw [5] (fun i wr => ∃ k : Nat, k ≤ n ∧ i = .int .i64 k ∧ (∀ j, j < k → decide (valR (c.getD j 0) l < 0) = true) ∧ wr = w) (fun i _ => n - (intOf i).toNat)
  case atStart => exact ⟨0, Nat.zero_le _, rfl, fun _ h => absurd h (by omega), rfl⟩
  case round =>
    obtain ⟨k, hk, rfl, hrel, rfl⟩ := hrel
    have HR := Lib.hid hrel
    clear hrel
    by_cases hlt : (k : Int) < (n : Int)
    · have hkn : k < c.length := by have := HN.out; omega
      obtain ⟨b, off, rfl, hcell⟩ := ints_cells HV.out hkn
      have q1 := hcell wr (Below.refl _ _)
      obtain ⟨y, hy⟩ : ∃ y, y = c.getD k 0 := ⟨_, rfl⟩
      obtain ⟨z, hz⟩ : ∃ z, z = valR y l := ⟨_, rfl⟩
      have hva := HVA.out y (by rw [hy]; exact H9.out.at_ hkn)
      rw [← hz] at hva
      rw [← hy] at q1
      have HY := Lib.hid hy
      have HZ := Lib.hid hz
      have HK := Lib.hid hkn
      have HC := Lib.hid hva
      clear hcell hkn hy hz hva
      by_cases hb : 0 ≤ z
      · have HF : Hid (ans = false) := Lib.hid (by
          rw [HA.out]; exact all_no' HK.out (by rw [← HY.out, ← HZ.out]; exact decide_eq_false (by omega)))
        go_wp2_with ((go_at_call 54; refine (HC.out).mono ?_; rintro e w' ⟨rfl, rfl⟩))
        go_ret
        exact ⟨by rw [HF.out]; rfl, rfl⟩
      · have hb' : z < 0 := by omega
        go_wp2_with ((go_at_call 54; refine (HC.out).mono ?_; rintro e w' ⟨rfl, rfl⟩))
        go_roundw
        case rel =>
          refine ⟨k + 1, by omega, by go_num, fun j hj => ?_, trivial⟩
          rcases Nat.lt_or_ge j k with h | h
          · exact HR.out j h
          · rw [show j = k by omega, ← HY.out, ← HZ.out]; exact decide_eq_true hb'
        case measure => simp [intOf]; omega
    · have HF : Hid (ans = true) := Lib.hid (by rw [HA.out]; exact all_yes' (n := k) (by have := HN.out; omega) HR.out)
      go_wp2
      go_ret
      exact ⟨by rw [HF.out]; rfl, rfl⟩
set_option maxHeartbeats 2000000 in
theorem r22_Tells {w : World} {u v : Value} {c l : List Int} (hu : Ints w u c) (hi : Ints w v l) (h9 : Lit9s c) :
    Calls Try.prog 36 #[u, v] w fun e w' => e = .returned (.int .i64 (telR c l)) ∧ w = w' := by
  obtain ⟨a, cap, rfl, -, hc1, hc2, hv⟩ := hu
  obtain ⟨ans, hans⟩ : ∃ b, b = telR c l := ⟨_, rfl⟩
  rw [← hans]
  obtain ⟨n, hn⟩ : ∃ n, n = c.length := ⟨_, rfl⟩
  rw [← hn] at hc1 ⊢
  have hm : n ≤ 9223372036854775807 := Nat.le_trans hc1 hc2
  have HA := Lib.hid hans
  have HN := Lib.hid hn
  have HV := Lib.hid hv
  have H9 := Lib.hid h9
  have HVA := Lib.hid (fun x hx => r22_Value hi x hx)
  clear hv hn hc1 hc2 hans h9 hi
  go_enter Try.func36, Try.ntmps36
  go_wp2
  go_loopw [5, 6] (fun lv i wr => ∃ k : Nat, ∃ m : Int, k ≤ n ∧ i = .int .i64 k ∧ lv = .int .i64 m ∧ telG l (c.drop k) m = ans ∧ wr = w) (fun _ i _ => n - (intOf i).toNat)
  case atStart => exact ⟨0, 0, Nat.zero_le _, rfl, rfl, by rw [List.drop_zero, HA.out]; rfl, rfl⟩
  case round =>
    obtain ⟨k, m, hk, rfl, rfl, hrel, rfl⟩ := hrel
    by_cases hlt : (k : Int) < (n : Int)
    · have hkn : k < c.length := by have := HN.out; omega
      obtain ⟨b, off, rfl, hcell⟩ := ints_cells HV.out hkn
      have q1 := hcell wr (Below.refl _ _)
      obtain ⟨y, hy⟩ : ∃ y, y = c.getD k 0 := ⟨_, rfl⟩
      obtain ⟨z, hz⟩ : ∃ z, z = valR y l := ⟨_, rfl⟩
      have hva := HVA.out y (by rw [hy]; exact H9.out.at_ hkn)
      rw [← hz] at hva
      rw [← hy] at q1
      have hd : c.drop k = y :: c.drop (k + 1) := by rw [hy, List.drop_eq_getElem_cons hkn]; simp [List.getD, hkn]
      rw [hd] at hrel
      replace hrel : (if z = 1 then 0 else if z = 0 then (if m ≠ 0 ∧ m ≠ y then 0 else telG l (c.drop (k + 1)) y) else telG l (c.drop (k + 1)) m) = ans := by rw [hz]; exact hrel
      have hzc := valR_cases y l
      rw [← hz] at hzc
      have HC := Lib.hid hva
      clear hcell hkn hy hz hva hd
      rcases hzc with rfl | rfl | rfl
      · rw [if_pos rfl] at hrel
        have HF := Lib.hid hrel
        clear hrel
        go_wp2_with ((go_at_call 54; refine (HC.out).mono ?_; rintro e w' ⟨rfl, rfl⟩))
        go_ret
        exact ⟨by rw [← HF.out]; rfl, rfl⟩
      · rw [if_neg (by omega), if_pos rfl] at hrel
        by_cases hm0 : m = 0
        · rw [if_neg (by omega)] at hrel
          subst hm0
          have HF := Lib.hid hrel
          clear hrel
          go_wp2_with ((go_at_call 54; refine (HC.out).mono ?_; rintro e w' ⟨rfl, rfl⟩))
          go_roundw
          case rel => exact ⟨k + 1, y, by omega, by go_num, rfl, HF.out, trivial⟩
          case measure => simp [intOf]; omega
        · have b0 : (m != 0) = true := by rw [bne_iff_ne]; exact hm0
          by_cases hmy : m = y
          · rw [if_neg (fun h => h.2 hmy)] at hrel
            have b1 : (m != y) = false := by rw [bne_eq_false_iff_eq]; exact hmy
            have HF := Lib.hid hrel
            clear hrel hmy hm0
            go_wp2_with ((go_at_call 54; refine (HC.out).mono ?_; rintro e w' ⟨rfl, rfl⟩))
            go_roundw
            case rel => exact ⟨k + 1, y, by omega, by go_num, rfl, HF.out, trivial⟩
            case measure => simp [intOf]; omega
          · rw [if_pos ⟨hm0, hmy⟩] at hrel
            have b1 : (m != y) = true := by rw [bne_iff_ne]; exact hmy
            have HF := Lib.hid hrel
            clear hrel hmy hm0
            go_wp2_with ((go_at_call 54; refine (HC.out).mono ?_; rintro e w' ⟨rfl, rfl⟩))
            go_ret
            exact ⟨by rw [← HF.out]; rfl, rfl⟩
      · rw [if_neg (by omega), if_neg (by omega)] at hrel
        have HF := Lib.hid hrel
        clear hrel
        go_wp2_with ((go_at_call 54; refine (HC.out).mono ?_; rintro e w' ⟨rfl, rfl⟩))
        go_roundw
        case rel => exact ⟨k + 1, m, by omega, by go_num, rfl, HF.out, trivial⟩
        case measure => simp [intOf]; omega
    · have HF : Hid (m = ans) := Lib.hid (by
        rw [List.drop_eq_nil_of_le (by have := HN.out; omega)] at hrel
        exact hrel)
      clear hrel
      go_wp2
      go_ret
      exact ⟨by rw [HF.out]; rfl, rfl⟩
def fin22 (c : List Int) (vars : Int) : Bool := decide (0 < c.length) && rightB c vars && fineC c && decide ((normC c).length = c.length)
set_option maxHeartbeats 1000000 in
theorem r22_Fine {w : World} {u : Value} {c : List Int} (hu : Ints w u c) (hcl : ClauseL c) (hn30 : c.length ≤ 30) (vars : Int) (h0 : 0 ≤ vars) (h1 : vars ≤ 65536) :
    Calls Try.prog 28 #[u, .int .i64 vars] w fun e w' => e = .returned (.bool (fin22 c vars)) ∧ Below w.heap.size w w' := by
  have HN := Lib.hid (r17_Norm hu hcl (by omega))
  have HR := Lib.hid (fun W (hW : Below w.heap.size w W) => r17_Right (hu.below hW) vars h0 h1)
  obtain ⟨a, cap, rfl, -, hc1, hc2, -⟩ := hu
  obtain ⟨n, hn⟩ : ∃ n, n = c.length := ⟨_, rfl⟩
  obtain ⟨p, hp⟩ : ∃ p, p = rightB c vars := ⟨_, rfl⟩
  obtain ⟨q, hq⟩ : ∃ p, p = fineC c := ⟨_, rfl⟩
  obtain ⟨m, hm⟩ : ∃ m, m = (normC c).length := ⟨_, rfl⟩
  have he : fin22 c vars = (decide (0 < n) && p && q && decide (m = n)) := by unfold fin22; rw [hn, hp, hq, hm]
  rw [he]
  rw [← hn] at HN HR hn30 ⊢
  rw [← hp] at HR
  rw [← hq] at HN
  have HM := Lib.hid hm
  have hm9 : m ≤ 30 := by rw [hm]; have := length_normC c; omega
  clear he hn hp hq hm hcl
  go_enter Try.func28, Try.ntmps28
  go_wp2_with fail
  refine HN.out.mono ?_
  rintro e w1 ⟨z, rfl, hz⟩
  have hb : Below w.heap.size w w1 := hz.2.1
  obtain ⟨za, zc, rfl, -, -⟩ := hz.form
  rw [← HM.out]
  have HB := Lib.hid hb
  have HRR := Lib.hid (HR.out w1 hb)
  clear hz hb
  by_cases hn0 : 0 < n
  · have d0 : decide ((0 : Int) < (n : Int)) = true := decide_eq_true (by omega)
    have d0' : decide (0 < n) = true := decide_eq_true hn0
    cases p
    · go_wp2_with ((go_at_call 53; refine (HRR.out).mono ?_; rintro e w' ⟨rfl, rfl⟩))
      go_ret
      exact ⟨by simp [d0'], HB.out⟩
    · cases q
      · go_wp2_with ((go_at_call 53; refine (HRR.out).mono ?_; rintro e w' ⟨rfl, rfl⟩))
        go_ret
        exact ⟨by simp [d0'], HB.out⟩
      · by_cases hmn : m = n
        · subst hmn
          go_wp2_with ((go_at_call 53; refine (HRR.out).mono ?_; rintro e w' ⟨rfl, rfl⟩))
          go_ret
          exact ⟨by simp [d0'], HB.out⟩
        · have d1 : ((m : Int) == (n : Int)) = false := by rw [beq_eq_false_iff_ne]; omega
          have d2 : decide (m = n) = false := decide_eq_false hmn
          have D2 := Lib.hid d2
          clear d2 hmn
          go_wp2_with ((go_at_call 53; refine (HRR.out).mono ?_; rintro e w' ⟨rfl, rfl⟩))
          go_ret
          exact ⟨by rw [D2.out]; simp, HB.out⟩
  · obtain rfl : n = 0 := by omega
    go_wp2_with ((go_at_call 53; refine (HRR.out).mono ?_; rintro e w' ⟨rfl, rfl⟩))
    go_ret
    exact ⟨by simp, HB.out⟩
end Go.Proofs.Ytkaklgjdmlddmaa
