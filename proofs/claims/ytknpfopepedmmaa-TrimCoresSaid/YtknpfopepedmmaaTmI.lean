/-
  Trim's laws: what may be tried, and the chapter's example.
-/
import Derived.Test.YtknpfopepedmmaaTmH
import Derived.Test.YtknpfopepedmmaaRvI
namespace Go.Proofs.Ytknpfopepedmmaa
open Go Go.ChangeShapes Go.WideShapes Go.ChangeAt Go.RowKit Go.Maps
set_option linter.unusedVariables false
set_option linter.unusedSimpArgs false
/-! ### light -/
def lightB (og : List (List Int)) (xs : List Stp) (goal : List Int) : Bool := decide (xs.length ≤ 100) && fineR og && okC goal && xs.all fun x => okC x.2
theorem light_yes {og : List (List Int)} {xs : List Stp} {goal : List Int} (h : lightB og xs goal = true) : (∀ d ∈ og, Lit30s d ∧ d.length ≤ 1000000) ∧ (∀ x ∈ xs, okX x) ∧ og.length ≤ 100 ∧ xs.length ≤ 100 ∧ Lit30s goal ∧ goal.length ≤ 1000000 := by
  unfold lightB at h
  rw [Bool.and_eq_true, Bool.and_eq_true, Bool.and_eq_true, decide_eq_true_eq, List.all_eq_true] at h
  obtain ⟨⟨⟨h1, h2⟩, h3⟩, h4⟩ := h
  obtain ⟨o1, -⟩ := fine_og h2
  obtain ⟨g1, g2⟩ := okC_lits h3
  refine ⟨o1, fun x hx => ?_, ?_, h1, g1, by omega⟩
  · obtain ⟨a, b⟩ := okC_lits (h4 x hx)
    exact ⟨a, by omega⟩
  · unfold fineR at h2
    rw [Bool.and_eq_true, decide_eq_true_eq] at h2
    exact h2.1
theorem xsok_step {xs : List Stp} {k : Nat} (h : ∀ j, j < k → okC (xs.getD j (false, [])).2 = true) (hk : okC (xs.getD k (false, [])).2 = true) : ∀ j, j < k + 1 → okC (xs.getD j (false, [])).2 = true := fun j hj => by
  rcases Nat.lt_or_ge j k with h1 | h1
  · exact h j h1
  · rw [show j = k by omega]; exact hk
set_option maxHeartbeats 4000000 in
set_option maxRecDepth 100000 in
theorem light_ {w : World} {v s u : Value} {og : List (List Int)} {xs : List Stp} {goal : List Int} (h : IntsS w v og) (hs : StpS w s xs) (hu : Ints w u goal) :
    Calls Try.prog 29 #[v, s, u] w fun e w' => e = .returned (.bool (lightB og xs goal)) ∧ Below w.heap.size w w' := by
  have HF1 := Lib.hid (r25_Fine h)
  obtain ⟨A, cap, hve, -, -⟩ := h.form
  obtain ⟨sa, sc, hse, k1, k2⟩ := hs.form
  obtain ⟨ua, uc, hue, -, -⟩ := hu.form2
  have HS := Lib.hid hs
  have HU := Lib.hid hu
  obtain ⟨f1, hf1⟩ : ∃ f, f = fineR og := ⟨_, rfl⟩
  obtain ⟨f3, hf3⟩ : ∃ f, f = okC goal := ⟨_, rfl⟩
  obtain ⟨n, hn⟩ : ∃ n, n = xs.length := ⟨_, rfl⟩
  have HN := Lib.hid hn
  rw [← hf1] at HF1
  have HH1 := Lib.hid hf1
  have HH3 := Lib.hid hf3
  rw [← hn] at hse k1
  have hn9 : n ≤ 9223372036854775807 := Nat.le_trans k1 k2
  generalize og.length = ml at hve
  generalize goal.length = gl at hue
  subst hve hse hue
  have HL : Hid (∀ b, b = lightB og xs goal → lightB og xs goal = b) := Lib.hid fun b h => h.symm
  clear h hs hu hf1 hf3 k1 k2 hn
  by_cases hc : n ≤ 100
  · have d1 : decide ((100 : Int) < (n : Int)) = false := decide_eq_false (by omega)
    have d2 : decide (100 < n) = false := decide_eq_false (by omega)
    have d3 : ¬ ((100 : Int) < (n : Int)) := by omega
    cases f1 with
    | false =>
      have HA : Hid (false = lightB og xs goal) := Lib.hid (by unfold lightB; rw [← HH1.out]; simp)
      go_enter Try.func29, Try.ntmps29
      go_wp2_with fail
      refine HF1.out.mono ?_
      rintro e w1 ⟨rfl, rfl⟩
      go_wp2
      go_ret
      exact ⟨by rw [← HA.out]; rfl, Below.refl _ _⟩
    | true =>
      obtain ⟨wa, hwa⟩ : ∃ wa, wa = w.alloc (.cells #[.slice ua gl uc] 28) := ⟨_, rfl⟩
      have hba : Below w.heap.size w wa := by rw [hwa]; exact below_new1 w _
      have hF := r25_Fine (w := wa) (v := .slice (some ⟨w.heap.size, 0, none⟩) 1 1) (xss := [goal]) (by rw [hwa]; exact intsS_lit1 HU.out)
      rw [fine1, ← HH3.out] at hF
      have HF3 := Lib.hid hF
      have HBA := Lib.hid hba
      clear hF hba
      go_enter Try.func29, Try.ntmps29
      go_wp2_with fail
      refine HF1.out.mono ?_
      rintro e w1 ⟨rfl, rfl⟩
      go_wp2_with fail
      rw [← hwa]
      refine HF3.out.mono ?_
      rintro e w2 ⟨rfl, rfl⟩
      clear hwa
      cases f3 with
      | false =>
        have HA : Hid (false = lightB og xs goal) := Lib.hid (by unfold lightB; rw [← HH3.out]; simp)
        go_wp2
        go_ret
        exact ⟨by rw [← HA.out]; rfl, HBA.out⟩
      | true =>
        go_wp2
        go_loopw [7] (fun i wr => ∃ k : Nat, k ≤ n ∧ i = .int .i64 (k : Nat) ∧ Below w1.heap.size w1 wr ∧ ∀ j, j < k → okC (xs.getD j (false, [])).2 = true) (fun i _ => n - (intOf i).toNat)
        case atStart => exact ⟨0, Nat.zero_le _, rfl, HBA.out, fun j hj => by omega⟩
        case round =>
          obtain ⟨k, hk, rfl, hB, hall⟩ := hrel
          have HB := Lib.hid hB
          have HALL := Lib.hid hall
          by_cases hlt : (k : Int) < (n : Int)
          · have hkn : k < xs.length := by have := HN.out; omega
            obtain ⟨b, off, cap2, u2, hv2, -, q1, hu2⟩ := HS.out.at_ hkn
            injection hv2 with e1 e2 e3
            subst e1
            have q1 := cellB q1 hB
            obtain ⟨c, hcc⟩ : ∃ c, c = (xs.getD k (false, [])).2 := ⟨_, rfl⟩
            rw [← hcc] at hu2
            have hu2 := hu2.below hB
            obtain ⟨xa, xc, hxe, -, -⟩ := hu2.form2
            obtain ⟨wx, hwx⟩ : ∃ wx, wx = wr.alloc (.cells #[u2] 28) := ⟨_, rfl⟩
            have hbx : Below wr.heap.size wr wx := by rw [hwx]; exact below_new1 wr _
            have hF := r25_Fine (w := wx) (v := .slice (some ⟨wr.heap.size, 0, none⟩) 1 1) (xss := [c]) (by rw [hwx]; exact intsS_lit1 hu2)
            obtain ⟨fk, hfk⟩ : ∃ f, f = okC c := ⟨_, rfl⟩
            rw [fine1, ← hfk] at hF
            have HFK := Lib.hid hF
            have HX := Lib.hid hfk
            have HC := Lib.hid hcc
            have HBX := Lib.hid (HB.out.trans (hbx.mono HB.out.size))
            generalize c.length = cl at hxe
            subst hxe
            clear hF hbx hfk hcc hu2 e2 e3 hkn hB hall
            go_wp2_with fail
            rw [← hwx]
            refine HFK.out.mono ?_
            rintro e w3 ⟨rfl, rfl⟩
            clear hwx
            cases fk with
            | false =>
              have HA : Hid (false = lightB og xs goal) := Lib.hid (by
                unfold lightB
                rw [show (xs.all fun x => okC x.2) = false from all_no (d := (false, [])) (k := k) (f := fun x : Stp => okC x.2) (by have := HN.out; omega) (by rw [← HC.out, ← HX.out]), Bool.and_false])
              go_wp2
              go_ret
              exact ⟨by rw [← HA.out]; rfl, HBX.out⟩
            | true =>
              go_wp2
              go_roundw
              case rel => exact ⟨k + 1, by omega, by go_num, HBX.out, xsok_step HALL.out (by rw [← HC.out, ← HX.out])⟩
              case measure => simp [intOf]; omega
          · have HA : Hid (true = lightB og xs goal) := Lib.hid (by
              unfold lightB
              rw [← HH1.out, ← HH3.out, ← HN.out, decide_eq_true hc, Bool.and_true, Bool.and_true, Bool.true_and]
              refine (List.all_eq_true.2 fun x hx => ?_).symm
              obtain ⟨j, hj, rfl⟩ := List.getElem_of_mem hx
              have := HALL.out j (by have := HN.out; omega)
              rw [List.getD_eq_getElem?_getD, List.getElem?_eq_getElem hj] at this
              exact this)
            clear hB hall
            go_wp2
            go_ret
            exact ⟨by rw [← HA.out]; rfl, HB.out⟩
  · have d1 : decide ((100 : Int) < (n : Int)) = true := decide_eq_true (by omega)
    have d2 : decide (100 < n) = true := decide_eq_true (by omega)
    have d3 : (100 : Int) < (n : Int) := by omega
    have HA : Hid (false = lightB og xs goal) := Lib.hid (by unfold lightB; rw [← HN.out, decide_eq_false hc]; simp)
    go_enter Try.func29, Try.ntmps29
    go_wp2
    go_ret
    exact ⟨by rw [← HA.out]; rfl, Below.refl _ _⟩
/-! ### the example, plainly -/
def exO : List (List Int) := [[1], [2], [-1]]
def exE : RS := ((RS0.add (normC [1])).add (normC [2])).add (normC [-1])
theorem exE_eq : exE = ⟨[[1], [2], [-1]], [true, true, true], [(1, 0), (2, 1)], 2, 2⟩ := by kernel_rfl
theorem exT : trEnd exO [] = ⟨exE, [[], [], []], []⟩ := rfl
theorem reachE {x : Nat} : Reach exE 2 x ↔ x = 0 ∨ x = 2 := by
  constructor
  · intro h
    induction h with
    | start => exact .inr rfl
    | step hj hl hi hv hb ih =>
      rename_i j b i l
      rw [exE_eq] at hl hi hv hb
      have hi : i < 2 := hi
      have hl1 : l = 1 ∨ l = -1 := by
        rcases ih with e | e
        · subst e
          have hl : l ∈ [(1 : Int)] := hl
          simp at hl
          exact .inl hl
        · subst e
          have hl : l ∈ [(-1 : Int)] := hl
          simp at hl
          exact .inr hl
      have : i = 0 ∨ i = 1 := by omega
      rcases this with e | e
      · subst e
        have hb : (0 : Int) = (b : Int) := hb
        omega
      · subst e
        have hv : (2 : Int) = l ∨ (2 : Int) = -l := hv
        omega
  · rintro (rfl | rfl)
    · refine Reach.step (j := 2) (i := 0) (l := -1) .start ?_ ?_ ?_ ?_
      · rw [exE_eq]; show (-1 : Int) ∈ [(-1 : Int)]; simp
      · rw [exE_eq]; show 0 < 2; omega
      · rw [exE_eq]; exact .inr rfl
      · rw [exE_eq]; rfl
    · exact .start
theorem exR {R : List Nat} (h : WhyR exE [] true R) : R = [0, 2] := by
  obtain ⟨k, hk, hr⟩ := (h.ex rfl).bk rfl (by rw [exE_eq]; decide)
  have hk2 : k = 2 := by
    rw [exE_eq] at hk
    have : (2 : Int) = (k : Int) := hk
    omega
  subst hk2
  refine up_same h.up (by simp) fun x => ?_
  rw [hr x, reachE]; simp
theorem exP (h : TrFin exO [] []) : usedP exO [] [] = [0, 2] ∧ keptP exO [] [] = [] := by
  have hy := h.2
  rw [exT] at hy
  have e := exR hy
  have en : needP exO [] [] = [true, false, true] := by
    unfold needP
    rw [exT]
    show need [[], [], []] (whyF exE []) = _
    rw [show whyF exE [] = [0, 2] from e]; rfl
  unfold usedP keptP
  rw [en, exT]
  exact ⟨rfl, rfl⟩
theorem exC : chkD exO [] [] = -1 := by
  have hn : ¬ OpenN exO [] := fun ⟨T, t1, _, t3⟩ => by
    have c0 := t3 [1] (by simp [exO])
    have c2 := t3 [-1] (by simp [exO])
    have h1 : (1 : Int) ∈ T := told_core (by decide) t1 c0 (by simp) (fun y hy hne => by simp at hy; exact absurd hy hne)
    exact not_false t1 c2 (fun y hy => by simp at hy; rw [hy]; exact h1)
  unfold chkD
  rw [show stepsD exO [] 0 = (exO, -1) from by rw [stepsD]]
  rw [if_neg (by decide), if_neg hn]
end Go.Proofs.Ytknpfopepedmmaa
