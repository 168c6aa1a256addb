/-
  The law RupHolds.
-/
import Derived.Test.YtknpfopepedmmaaRvX
import Derived.Test.YtknpfopepedmmaaFrameB
namespace Go.Proofs.Ytknpfopepedmmaa
open Go Go.ChangeShapes Go.WideShapes Go.ChangeAt Go.RowKit Go.Maps
set_option linter.unusedVariables false
set_option linter.unusedSimpArgs false
set_option maxHeartbeats 8000000 in
set_option maxRecDepth 100000 in
theorem claw_rholds {w : World} {v s u mv : Value} {og : List (List Int)} {xs : List Stp} {goal : List Int} {ms : List Bool} (h : IntsS w v og) (hs : StpS w s xs) (hu : Ints w u goal) (hm : Bools w mv ms) :
    Calls Try.prog 6 #[v, s, u, mv] w fun e w' => e = .returned (.bool true) ∧ Below w.heap.size w w' := by
  have HF1 := Lib.hid (r25_Fine h)
  have HCL := Lib.hid (law_clauses hs)
  obtain ⟨A, cap, hve, -, -⟩ := h.form
  obtain ⟨sa, sc, hse, hs1, hs2⟩ := hs.form
  obtain ⟨ua, uc, hue, -, -⟩ := hu.form2
  obtain ⟨ma, mc, hme, -⟩ := id hm
  have HV := Lib.hid h
  have HS := Lib.hid hs
  have HU := Lib.hid hu
  have HMO := Lib.hid hm
  obtain ⟨f1, hf1⟩ : ∃ f, f = fineR og := ⟨_, rfl⟩
  obtain ⟨f2, hf2⟩ : ∃ f, f = fineR (clsX xs) := ⟨_, rfl⟩
  obtain ⟨f3, hf3⟩ : ∃ f, f = okC goal := ⟨_, rfl⟩
  rw [← hf1] at HF1
  have HH1 := Lib.hid hf1
  have HH2 := Lib.hid hf2
  have HH3 := Lib.hid hf3
  generalize og.length = ml at hve
  obtain ⟨nl, hnl⟩ : ∃ nl, nl = xs.length := ⟨_, rfl⟩
  have HNL := Lib.hid hnl
  rw [← hnl] at hse hs1
  have hnl9 : nl ≤ 9223372036854775807 := Nat.le_trans hs1 hs2
  generalize goal.length = gl at hue
  generalize ms.length = tl at hme
  subst hve hse hue hme
  clear h hs hu hm hf1 hf2 hf3 hnl hs1 hs2
  go_enter Try.func6, Try.ntmps6
  go_wp2_with fail
  refine HF1.out.mono ?_
  rintro e w1 ⟨rfl, rfl⟩
  cases f1 with
  | false =>
    have HA := Lib.hid (alive25 w1)
    go_wp2_with fail
    refine HA.out.mono ?_
    rintro e w2 ⟨rfl, hb2⟩
    have H2 := Lib.hid hb2
    clear hb2
    go_wp2
    go_ret
    exact ⟨rfl, H2.out⟩
  | true =>
    go_wp2_with fail
    refine HCL.out.mono ?_
    rintro e w2 ⟨v2, rfl, h2⟩
    have hb2 : Below w1.heap.size w1 w2 := by obtain ⟨-, -, -, -, hb⟩ := h2; exact hb
    have HB2 := Lib.hid hb2
    have hf := r25_Fine h2.t.s
    rw [← HH2.out] at hf
    have HF2 := Lib.hid hf
    obtain ⟨na, nc, nus, hne, -, -, -⟩ := h2.t
    generalize (clsX xs).length = zl at hne
    subst hne
    clear h2 hb2 hf
    go_wp2_with fail
    refine HF2.out.mono ?_
    rintro e w3 ⟨rfl, rfl⟩
    cases f2 with
    | false =>
      have HA := Lib.hid (alive25 w3)
      go_wp2_with fail
      refine HA.out.mono ?_
      rintro e w4 ⟨rfl, hb4⟩
      have H4 := Lib.hid (HB2.out.trans (hb4.mono HB2.out.size))
      clear hb4
      go_wp2
      go_ret
      exact ⟨rfl, H4.out⟩
    | true =>
      obtain ⟨wa, hwa⟩ : ∃ wa, wa = w3.alloc (.cells #[.slice ua gl uc] 28) := ⟨_, rfl⟩
      have hba : Below w3.heap.size w3 wa := by rw [hwa]; exact (Below.refl _ w3).alloc (Nat.le_refl _) _
      have hF := r25_Fine (w := wa) (v := .slice (some ⟨w3.heap.size, 0, none⟩) 1 1) (xss := [goal]) (by rw [hwa]; exact intsS_lit1 (HU.out.below HB2.out))
      rw [fine1, ← HH3.out] at hF
      have HF3 := Lib.hid hF
      have HBA := Lib.hid (HB2.out.trans (hba.mono HB2.out.size))
      clear hF hba
      go_wp2_with fail
      rw [← hwa]
      refine HF3.out.mono ?_
      rintro e w4 ⟨rfl, rfl⟩
      clear hwa
      cases f3 with
      | false =>
        have HA := Lib.hid (alive25 w4)
        go_wp2_with fail
        refine HA.out.mono ?_
        rintro e w5 ⟨rfl, hb5⟩
        have H5 := Lib.hid (HBA.out.trans (hb5.mono HBA.out.size))
        clear hb5
        go_wp2
        go_ret
        exact ⟨rfl, H5.out⟩
      | true =>
        have HA4 := Lib.hid (alive25 w4)
        by_cases hm60 : (60 : Int) < (tl : Int)
        · go_wp2_with fail
          refine HA4.out.mono ?_
          rintro e w5 ⟨rfl, hb5⟩
          have H5 := Lib.hid (HBA.out.trans (hb5.mono HBA.out.size))
          clear hb5
          go_wp2
          go_ret
          exact ⟨rfl, H5.out⟩
        · obtain ⟨o1, o2⟩ := fine_og HH1.out.symm
          obtain ⟨x1, x2⟩ := fine_xs HH2.out.symm
          obtain ⟨g1, g2⟩ := okC_lits HH3.out.symm
          have HC1 := Lib.hid (rup_Check (HV.out.below HBA.out) (HS.out.below HBA.out) (HU.out.below HBA.out) o1 x1 o2 x2 g1 (by omega))
          have HO := Lib.hid o1
          have HX := Lib.hid x1
          have HG := Lib.hid g1
          obtain ⟨z, hz⟩ : ∃ z, z = chkD og xs goal := ⟨_, rfl⟩
          rw [← hz] at HC1
          have HZ := Lib.hid hz
          clear o1 o2 x1 x2 g1 g2 hz
          go_wp2_with fail
          refine HC1.out.mono ?_
          rintro e w5 ⟨rfl, hb5⟩
          have hb05 := HBA.out.trans (hb5.mono HBA.out.size)
          have HB5 := Lib.hid hb05
          have HA5 := Lib.hid (alive25 w5)
          by_cases hz1 : z = -1
          · subst hz1
            have hall := r17_All (HV.out.below hb05) (fun c hc => (HO.out c hc).1.clauseL) (HMO.out.below hb05)
            obtain ⟨ab, hab⟩ : ∃ ab, ab = allB og ms := ⟨_, rfl⟩
            rw [← hab] at hall
            have HALL := Lib.hid hall
            have HAB := Lib.hid hab
            clear hb5 hb05 hall hab
            go_wp2_with fail
            refine HALL.out.mono ?_
            rintro e w6 ⟨rfl, rfl⟩
            cases ab with
            | false =>
              go_wp2_with fail
              refine HA5.out.mono ?_
              rintro e w7 ⟨rfl, hb7⟩
              have H7 := Lib.hid (HB5.out.trans (hb7.mono HB5.out.size))
              clear hb7
              go_wp2
              go_ret
              exact ⟨rfl, H7.out⟩
            | true =>
              have HCK := Lib.hid (chk_holds (ms := ms) HG.out xs og 0 (fun d hd => (HO.out d hd).1) HX.out (fun d hd => by
                have := HAB.out
                unfold allB at this
                exact List.all_eq_true.1 this.symm d hd) (by rw [← chkF_zero]; exact HZ.out.symm))
              go_wp2
              go_loopw [9] (fun i wr => ∃ k : Nat, k ≤ nl ∧ i = .int .i64 (k : Nat) ∧ wr = w5) (fun i _ => nl - (intOf i).toNat)
              case atStart => exact ⟨0, Nat.zero_le _, rfl, rfl⟩
              case round =>
                obtain ⟨k, hk, rfl, rfl⟩ := hrel
                by_cases hlt : (k : Int) < (nl : Int)
                · have hkn : k < xs.length := by have := HNL.out; omega
                  obtain ⟨b, off, cap2, u2, hv, -, q1, hu⟩ := (HS.out.below HB5.out).at_ hkn
                  injection hv with e1 e2 e3
                  subst e1
                  have hmem : xs.getD k (false, []) ∈ xs := by rw [List.getD_eq_getElem?_getD, List.getElem?_eq_getElem hkn]; exact List.getElem_mem hkn
                  have hhold := r17_Holds hu (HX.out _ hmem).1.clauseL (HMO.out.below HB5.out)
                  rw [HCK.out.1 _ hmem] at hhold
                  have HHD := Lib.hid hhold
                  obtain ⟨ca, cc, hce, -, -⟩ := hu.form2
                  generalize (xs.getD k (false, [])).2.length = cn at hce
                  subst hce
                  clear e2 e3 hu hmem hhold hkn
                  go_wp2_with fail
                  refine HHD.out.mono ?_
                  rintro e w7 ⟨rfl, rfl⟩
                  go_wp2
                  go_roundw
                  case rel => exact ⟨k + 1, by omega, by go_num, by first | rfl | trivial⟩
                  case measure => simp [intOf]; omega
                · have hhold := r17_Holds (HU.out.below HB5.out) HG.out.clauseL (HMO.out.below HB5.out)
                  rw [HCK.out.2] at hhold
                  have HHD := Lib.hid hhold
                  clear hhold
                  go_wp2_with fail
                  refine HHD.out.mono ?_
                  rintro e w7 ⟨rfl, rfl⟩
                  go_wp2_with fail
                  refine HA5.out.mono ?_
                  rintro e w8 ⟨rfl, hb8⟩
                  have H8 := Lib.hid (HB5.out.trans (hb8.mono HB5.out.size))
                  clear hb8
                  go_wp2
                  go_ret
                  exact ⟨rfl, H8.out⟩
          · have hz2 : (z != -1) = true := by rw [bne_iff_ne]; exact hz1
            clear hb5 hb05
            go_wp2_with fail
            refine HA5.out.mono ?_
            rintro e w7 ⟨rfl, hb7⟩
            have H7 := Lib.hid (HB5.out.trans (hb7.mono HB5.out.size))
            clear hb7
            go_wp2
            go_ret
            exact ⟨rfl, H7.out⟩
end Go.Proofs.Ytknpfopepedmmaa
