/-
  The document's answer of chapter 22, walked: Value, False, Tells, Fine; and what they tell.
-/
import Derived.Test.YtghlgegfokjgbaaR17N
import Derived.Test.YtghlgegfokjgbaaR17A
import Derived.Deep.RegionWith
import Derived.Deep.RegionHeld3
namespace Go.Proofs.Ytghlgegfokjgbaa
open Go.ChangeShapes Go.WideShapes Go.ChangeAt Go.RowKit
set_option linter.unusedVariables false
set_option linter.unusedSimpArgs false
attribute [local go_sem ↓] Go.wp_at_zero Go.wp_at_succ
def lit9 (x : Int) : Prop := x ≠ 0 ∧ -9 ≤ x ∧ x ≤ 9
def valR (l : Int) (lits : List Int) : Int := if lits.contains l then 1 else if lits.contains (-l) then -1 else 0
def falR (c lits : List Int) : Bool := c.all fun x => decide (valR x lits < 0)
def telG (lits : List Int) : List Int → Int → Int
  | [], l => l
  | x :: r, l => if valR x lits = 1 then 0 else if valR x lits = 0 then (if l ≠ 0 ∧ l ≠ x then 0 else telG lits r x) else telG lits r l
def telR (c lits : List Int) : Int := telG lits c 0
def Lit9s (c : List Int) : Prop := ∀ x ∈ c, lit9 x
theorem Lit9s.at_ {c : List Int} (h : Lit9s c) {j : Nat} (hj : j < c.length) : lit9 (c.getD j 0) := h _ (by simp [List.getD, hj])
theorem valR_cases (l : Int) (lits : List Int) : valR l lits = 1 ∨ valR l lits = 0 ∨ valR l lits = -1 := by
  unfold valR
  split
  · exact .inl rfl
  · split
    · exact .inr (.inr rfl)
    · exact .inr (.inl rfl)
def fin22 (c : List Int) (vars : Int) : Bool := decide (0 < c.length) && rightB c vars && fineC c && decide ((normC c).length = c.length)
set_option maxHeartbeats 1000000 in
theorem r22_Fine {w : World} {u : Value} {c : List Int} (hu : Ints w u c) (hcl : ClauseL c) (hn30 : c.length ≤ 30) (vars : Int) (h0 : 0 ≤ vars) (h1 : vars ≤ 65536) :
    Calls Try.prog 12 #[u, .int .i64 vars] w fun e w' => e = .returned (.bool (fin22 c vars)) ∧ Below w.heap.size w w' := by
  have HN := Lib.hid (r17_Norm hu hcl (by omega))
  have HR := Lib.hid (fun W (hW : Below w.heap.size w W) => r17_Right (hu.below hW) vars h0 h1)
  obtain ⟨a, cap, rfl, -, hc1, hc2, -⟩ := hu
  obtain ⟨n, hn⟩ : ∃ n, n = c.length := ⟨_, rfl⟩
  obtain ⟨p, hp⟩ : ∃ p, p = rightB c vars := ⟨_, rfl⟩
  obtain ⟨q, hq⟩ : ∃ p, p = fineC c := ⟨_, rfl⟩
  obtain ⟨m, hm⟩ : ∃ m, m = (normC c).length := ⟨_, rfl⟩
  have he : fin22 c vars = (decide (0 < n) && p && q && decide (m = n)) := by unfold fin22; rw [hn, hp, hq, hm]
  rw [he]
  rw [← hn] at HN HR hn30 ⊢
  rw [← hp] at HR
  rw [← hq] at HN
  have HM := Lib.hid hm
  have hm9 : m ≤ 30 := by rw [hm]; have := length_normC c; omega
  clear he hn hp hq hm hcl
  go_enter Try.func12, Try.ntmps12
  go_wp2_with fail
  refine HN.out.mono ?_
  rintro e w1 ⟨z, rfl, hz⟩
  have hb : Below w.heap.size w w1 := hz.2.1
  obtain ⟨za, zc, rfl, -, -⟩ := hz.form
  rw [← HM.out]
  have HB := Lib.hid hb
  have HRR := Lib.hid (HR.out w1 hb)
  clear hz hb
  by_cases hn0 : 0 < n
  · have d0 : decide ((0 : Int) < (n : Int)) = true := decide_eq_true (by omega)
    have d0' : decide (0 < n) = true := decide_eq_true hn0
    cases p
    · go_wp2_with ((go_at_call 26; refine (HRR.out).mono ?_; rintro e w' ⟨rfl, rfl⟩))
      go_ret
      exact ⟨by simp [d0'], HB.out⟩
    · cases q
      · go_wp2_with ((go_at_call 26; refine (HRR.out).mono ?_; rintro e w' ⟨rfl, rfl⟩))
        go_ret
        exact ⟨by simp [d0'], HB.out⟩
      · by_cases hmn : m = n
        · subst hmn
          go_wp2_with ((go_at_call 26; refine (HRR.out).mono ?_; rintro e w' ⟨rfl, rfl⟩))
          go_ret
          exact ⟨by simp [d0'], HB.out⟩
        · have d1 : ((m : Int) == (n : Int)) = false := by rw [beq_eq_false_iff_ne]; omega
          have d2 : decide (m = n) = false := decide_eq_false hmn
          have D2 := Lib.hid d2
          clear d2 hmn
          go_wp2_with ((go_at_call 26; refine (HRR.out).mono ?_; rintro e w' ⟨rfl, rfl⟩))
          go_ret
          exact ⟨by rw [D2.out]; simp, HB.out⟩
  · obtain rfl : n = 0 := by omega
    go_wp2_with ((go_at_call 26; refine (HRR.out).mono ?_; rintro e w' ⟨rfl, rfl⟩))
    go_ret
    exact ⟨by simp, HB.out⟩
end Go.Proofs.Ytghlgegfokjgbaa
