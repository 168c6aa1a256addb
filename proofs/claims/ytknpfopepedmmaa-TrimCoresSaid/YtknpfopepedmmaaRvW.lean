/-
  The law RupChecks.
-/
import Derived.Test.YtknpfopepedmmaaRvV
import Derived.Test.YtknpfopepedmmaaRvI
import Derived.Test.YtknpfopepedmmaaFrameU
namespace Go.Proofs.Ytknpfopepedmmaa
open Go Go.ChangeShapes Go.WideShapes Go.ChangeAt Go.RowKit Go.Maps
set_option linter.unusedVariables false
set_option linter.unusedSimpArgs false
def clsX (xs : List Stp) : List (List Int) := (xs.take 200).map (·.2)
set_option maxHeartbeats 2000000 in
set_option maxRecDepth 100000 in
theorem law_clauses {w : World} {s : Value} {xs : List Stp} (hs : StpS w s xs) : Calls Try.prog 22 #[s] w fun e w' => ∃ v, e = .returned v ∧ OwnT w w' v (clsX xs) := by
  obtain ⟨sa, sc, hse, h1, h2⟩ := hs.form
  obtain ⟨n, hn⟩ : ∃ n, n = xs.length := ⟨_, rfl⟩
  rw [← hn] at hse h1
  have hn9 : n ≤ 9223372036854775807 := Nat.le_trans h1 h2
  subst hse
  have HS := Lib.hid hs
  have HN := Lib.hid hn
  clear hs hn h1 h2
  go_enter Try.func22, Try.ntmps22
  go_wp2
  go_loopw [3, 4] (fun out i wr => ∃ k : Nat, k ≤ n ∧ k ≤ 200 ∧ i = .int .i64 (k : Nat) ∧ OwnT w wr out ((xs.take k).map (·.2))) (fun _ i _ => 200 - (intOf i).toNat)
  case atStart => exact ⟨0, Nat.zero_le _, by omega, rfl, OwnT.nil w (Below.refl _ _)⟩
  case round =>
    obtain ⟨k, hk, hk2, rfl, hO⟩ := hrel
    have HO := Lib.hid hO
    have hbw : Below w.heap.size w wr := by obtain ⟨-, -, -, -, hb⟩ := hO; exact hb
    obtain ⟨na, nc, nus, hne, -, -, -⟩ := hO.t
    by_cases hlt : (k : Int) < (n : Int)
    · by_cases hlt2 : (k : Int) < 200
      · have hkn : k < xs.length := by have := HN.out; omega
        obtain ⟨b, off, cap2, u, hv, -, q1, hu⟩ := HS.out.at_ hkn
        injection hv with e1 e2 e3
        subst e1
        have q1 := cellB q1 hbw
        have HU := Lib.hid hu
        obtain ⟨ua, uc, hue, -, -⟩ := hu.form2
        have hs2 : (xs.take (k + 1)).map (·.2) = (xs.take k).map (·.2) ++ [(xs.getD k (false, [])).2] := by
          rw [List.take_succ_eq_append_getElem hkn, List.map_append, List.getD_eq_getElem?_getD, List.getElem?_eq_getElem hkn]; rfl
        have HS2 := Lib.hid hs2
        obtain ⟨out, hout⟩ : ∃ out, out = (xs.take k).map (·.2) := ⟨_, rfl⟩
        rw [← hout] at HO HS2 hne
        have hol : out.length = k := by rw [hout, List.length_map, List.length_take]; omega
        have HOL := Lib.hid hol
        rw [hol] at hne
        subst hne
        have HO4 := Lib.hid (HO.out.below (below_new1 wr (.cells #[u] 28)))
        obtain ⟨c, hc⟩ : ∃ c, c = (xs.getD k (false, [])).2 := ⟨_, rfl⟩
        rw [← hc] at HU hue HS2
        obtain ⟨cn, hcn⟩ : ∃ cn, cn = c.length := ⟨_, rfl⟩
        rw [← hcn] at hue
        subst hue
        clear hO hbw e2 e3 hu hs2 hout hol hkn hc hcn
        go_wp2_with (at_builtin; refine wpList_T (w0 := w) rfl _ _ rfl _ out rfl (some ⟨wr.heap.size, 0, none⟩) 1 1 [.slice ua cn uc] [c] rfl rfl (by have := HOL.out; omega) HO4.out (Src.one (heap_new1 _ _)) (EltT.one HU.out) ?_; intro v5 w5 h5; have H5 := Lib.hid h5; clear h5)
        go_roundw
        case rel => exact ⟨k + 1, by omega, by omega, by go_num, by rw [HS2.out]; exact H5.out⟩
        case measure => simp [intOf]; omega
      · have HF : Hid ((xs.take k).map (·.2) = clsX xs) := Lib.hid (by unfold clsX; rw [show k = 200 by omega])
        generalize ((xs.take k).map (·.2)).length = zl at hne
        subst hne
        clear hO hbw
        go_wp2
        go_ret
        exact ⟨_, rfl, by rw [← HF.out]; exact HO.out⟩
    · have HF : Hid ((xs.take k).map (·.2) = clsX xs) := Lib.hid (by
        unfold clsX
        rw [List.take_of_length_le (by have := HN.out; omega), List.take_of_length_le (by have := HN.out; omega)])
      generalize ((xs.take k).map (·.2)).length = zl at hne
      subst hne
      clear hO hbw
      go_wp2
      go_ret
      exact ⟨_, rfl, by rw [← HF.out]; exact HO.out⟩
theorem fine_og {og : List (List Int)} (h : fineR og = true) : (∀ d ∈ og, Lit30s d ∧ d.length ≤ 1000000) ∧ og.length ≤ 1000 := by
  unfold fineR at h
  rw [Bool.and_eq_true, decide_eq_true_eq, List.all_eq_true] at h
  exact ⟨fun d hd => by obtain ⟨a, b⟩ := okC_lits (h.2 d hd); exact ⟨a, by omega⟩, by omega⟩
theorem fine_xs {xs : List Stp} (h : fineR (clsX xs) = true) : (∀ x ∈ xs, okX x) ∧ xs.length ≤ 1000 := by
  obtain ⟨h1, h2⟩ := fine_og h
  have hl : xs.length ≤ 100 := by
    unfold fineR clsX at h
    rw [Bool.and_eq_true, decide_eq_true_eq, List.length_map, List.length_take] at h
    omega
  refine ⟨fun x hx => ?_, by omega⟩
  have : x.2 ∈ clsX xs := by
    unfold clsX
    rw [List.take_of_length_le (by omega)]
    exact List.mem_map.2 ⟨x, hx, rfl⟩
  exact h1 _ this
set_option maxHeartbeats 8000000 in
set_option maxRecDepth 100000 in
theorem claw_rchecks {w : World} {v s u : Value} {og : List (List Int)} {xs : List Stp} {goal : List Int} (h : IntsS w v og) (hs : StpS w s xs) (hu : Ints w u goal) :
    Calls Try.prog 5 #[v, s, u] w fun e w' => e = .returned (.bool true) ∧ Below w.heap.size w w' := by
  have HF1 := Lib.hid (r25_Fine h)
  have HCL := Lib.hid (law_clauses hs)
  obtain ⟨A, cap, hve, -, -⟩ := h.form
  obtain ⟨sa, sc, hse, -, -⟩ := hs.form
  obtain ⟨ua, uc, hue, -, -⟩ := hu.form2
  have HV := Lib.hid h
  have HS := Lib.hid hs
  have HU := Lib.hid hu
  obtain ⟨f1, hf1⟩ : ∃ f, f = fineR og := ⟨_, rfl⟩
  obtain ⟨f2, hf2⟩ : ∃ f, f = fineR (clsX xs) := ⟨_, rfl⟩
  obtain ⟨f3, hf3⟩ : ∃ f, f = okC goal := ⟨_, rfl⟩
  rw [← hf1] at HF1
  have HH1 := Lib.hid hf1
  have HH2 := Lib.hid hf2
  have HH3 := Lib.hid hf3
  generalize og.length = ml at hve
  generalize xs.length = nl at hse
  generalize goal.length = gl at hue
  subst hve hse hue
  clear h hs hu hf1 hf2 hf3
  go_enter Try.func5, Try.ntmps5
  go_wp2_with fail
  refine HF1.out.mono ?_
  rintro e w1 ⟨rfl, rfl⟩
  cases f1 with
  | false =>
    have HA := Lib.hid (alive25 w1)
    go_wp2_with fail
    refine HA.out.mono ?_
    rintro e w2 ⟨rfl, hb2⟩
    have H2 := Lib.hid hb2
    clear hb2
    go_wp2
    go_ret
    exact ⟨rfl, H2.out⟩
  | true =>
    go_wp2_with fail
    refine HCL.out.mono ?_
    rintro e w2 ⟨v2, rfl, h2⟩
    have hb2 : Below w1.heap.size w1 w2 := by obtain ⟨-, -, -, -, hb⟩ := h2; exact hb
    have HB2 := Lib.hid hb2
    have hf := r25_Fine h2.t.s
    rw [← HH2.out] at hf
    have HF2 := Lib.hid hf
    obtain ⟨na, nc, nus, hne, -, -, -⟩ := h2.t
    generalize (clsX xs).length = zl at hne
    subst hne
    clear h2 hb2 hf
    go_wp2_with fail
    refine HF2.out.mono ?_
    rintro e w3 ⟨rfl, rfl⟩
    cases f2 with
    | false =>
      have HA := Lib.hid (alive25 w3)
      go_wp2_with fail
      refine HA.out.mono ?_
      rintro e w4 ⟨rfl, hb4⟩
      have H4 := Lib.hid (HB2.out.trans (hb4.mono HB2.out.size))
      clear hb4
      go_wp2
      go_ret
      exact ⟨rfl, H4.out⟩
    | true =>
      obtain ⟨wa, hwa⟩ : ∃ wa, wa = w3.alloc (.cells #[.slice ua gl uc] 28) := ⟨_, rfl⟩
      have hba : Below w3.heap.size w3 wa := by rw [hwa]; exact (Below.refl _ w3).alloc (Nat.le_refl _) _
      have hF := r25_Fine (w := wa) (v := .slice (some ⟨w3.heap.size, 0, none⟩) 1 1) (xss := [goal]) (by rw [hwa]; exact intsS_lit1 (HU.out.below HB2.out))
      rw [fine1, ← HH3.out] at hF
      have HF3 := Lib.hid hF
      have HBA := Lib.hid (HB2.out.trans (hba.mono HB2.out.size))
      clear hF hba
      go_wp2_with fail
      rw [← hwa]
      refine HF3.out.mono ?_
      rintro e w4 ⟨rfl, rfl⟩
      clear hwa
      cases f3 with
      | false =>
        have HA := Lib.hid (alive25 w4)
        go_wp2_with fail
        refine HA.out.mono ?_
        rintro e w5 ⟨rfl, hb5⟩
        have H5 := Lib.hid (HBA.out.trans (hb5.mono HBA.out.size))
        clear hb5
        go_wp2
        go_ret
        exact ⟨rfl, H5.out⟩
      | true =>
        obtain ⟨o1, o2⟩ := fine_og HH1.out.symm
        obtain ⟨x1, x2⟩ := fine_xs HH2.out.symm
        obtain ⟨g1, g2⟩ := okC_lits HH3.out.symm
        have HC1 := Lib.hid (rup_Check (HV.out.below HBA.out) (HS.out.below HBA.out) (HU.out.below HBA.out) o1 x1 o2 x2 g1 (by omega))
        have HO := Lib.hid o1
        have HX := Lib.hid x1
        have HN : Hid (og.length ≤ 1000 ∧ xs.length ≤ 1000) := Lib.hid ⟨o2, x2⟩
        have HG : Hid (Lit30s goal ∧ goal.length ≤ 1000000) := Lib.hid ⟨g1, by omega⟩
        clear o1 o2 x1 x2 g1 g2
        go_wp2_with fail
        refine HC1.out.mono ?_
        rintro e w5 ⟨rfl, hb5⟩
        have hb05 := HBA.out.trans (hb5.mono HBA.out.size)
        have HB5 := Lib.hid hb05
        have HC2 := Lib.hid (r25_Check (HV.out.below hb05) (HS.out.below hb05) (HU.out.below hb05) (fun d hd => (HO.out d hd).1) HX.out HN.out.1 HN.out.2 HG.out.1 HG.out.2)
        generalize chkD og xs goal = z at *
        clear hb5 hb05
        go_wp2_with fail
        refine HC2.out.mono ?_
        rintro e w6 ⟨rfl, hb6⟩
        have HB6 := Lib.hid (HB5.out.trans (hb6.mono HB5.out.size))
        have HA := Lib.hid (alive25 w6)
        have hzz : (z == z) = true := by simp
        clear hb6
        go_wp2_with fail
        refine HA.out.mono ?_
        rintro e w7 ⟨rfl, hb7⟩
        have HB7 := Lib.hid (HB6.out.trans (hb7.mono HB6.out.size))
        clear hb7
        go_wp2
        go_ret
        exact ⟨rfl, HB7.out⟩
end Go.Proofs.Ytknpfopepedmmaa
