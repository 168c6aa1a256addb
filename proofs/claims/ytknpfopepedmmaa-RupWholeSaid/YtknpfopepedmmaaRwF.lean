/-
  The law RupWhole.
-/
import Derived.Test.YtknpfopepedmmaaRwE
namespace Go.Proofs.Ytknpfopepedmmaa
open Go Go.ChangeShapes Go.WideShapes Go.ChangeAt Go.RowKit Go.Maps
set_option linter.unusedVariables false
set_option linter.unusedSimpArgs false
theorem no_model {og : List (List Int)} {xs : List Stp} (ho : ∀ d ∈ og, Lit30s d) (hx : ∀ x ∈ xs, okX x) (hz : chkD og xs [] = -1) (ms : List Bool) : allB og ms = false := by
  cases h : allB og ms with
  | false => rfl
  | true =>
    have := (chk_holds (goal := []) (ms := ms) (fun x hx => by simp at hx) xs og 0 ho hx (fun d hd => by unfold allB at h; exact List.all_eq_true.1 h d hd) (by rw [← chkF_zero]; exact hz)).2
    simp [holdsB] at this
set_option maxHeartbeats 8000000 in
set_option maxRecDepth 100000 in
theorem claw_rwhole {w : World} {v s : Value} {og : List (List Int)} {xs : List Stp} (h : IntsS w v og) (hs : StpS w s xs) :
    Calls Try.prog 7 #[v, s] w fun e w' => e = .returned (.bool true) ∧ Below w.heap.size w w' := by
  have HF1 := Lib.hid (r25_Fine h)
  have HCL := Lib.hid (law_clauses hs)
  obtain ⟨A, cap, hve, k1, k2⟩ := h.form
  obtain ⟨sa, sc, hse, hs1, hs2⟩ := hs.form
  have HV := Lib.hid h
  have HS := Lib.hid hs
  obtain ⟨f1, hf1⟩ : ∃ f, f = fineR og := ⟨_, rfl⟩
  obtain ⟨f2, hf2⟩ : ∃ f, f = fineR (clsX xs) := ⟨_, rfl⟩
  rw [← hf1] at HF1
  have HH1 := Lib.hid hf1
  have HH2 := Lib.hid hf2
  obtain ⟨ml, hml⟩ : ∃ ml, ml = og.length := ⟨_, rfl⟩
  rw [← hml] at hve k1
  have HML := Lib.hid hml
  have hm9 : ml ≤ 9223372036854775807 := Nat.le_trans k1 k2
  generalize xs.length = nl at hse
  subst hve hse
  clear h hs hf1 hf2 hs1 hs2 hml k1 k2
  go_enter Try.func7, Try.ntmps7
  go_wp2_with fail
  refine HF1.out.mono ?_
  rintro e w1 ⟨rfl, rfl⟩
  cases f1 with
  | false =>
    have HA := Lib.hid (alive25 w1)
    go_wp2_with fail
    refine HA.out.mono ?_
    rintro e w2 ⟨rfl, hb2⟩
    have H2 := Lib.hid hb2
    clear hb2
    go_wp2
    go_ret
    exact ⟨rfl, H2.out⟩
  | true =>
    go_wp2_with fail
    refine HCL.out.mono ?_
    rintro e w2 ⟨v2, rfl, h2⟩
    have hb2 : Below w1.heap.size w1 w2 := by obtain ⟨-, -, -, -, hb⟩ := h2; exact hb
    have HB2 := Lib.hid hb2
    have hf := r25_Fine h2.t.s
    rw [← HH2.out] at hf
    have HF2 := Lib.hid hf
    obtain ⟨na, nc, nus, hne, -, -, -⟩ := h2.t
    generalize (clsX xs).length = zl at hne
    subst hne
    clear h2 hb2 hf
    go_wp2_with fail
    refine HF2.out.mono ?_
    rintro e w3 ⟨rfl, rfl⟩
    have HA3 := Lib.hid (alive25 w3)
    cases f2 with
    | false =>
      go_wp2_with fail
      refine HA3.out.mono ?_
      rintro e w4 ⟨rfl, hb4⟩
      have H4 := Lib.hid (HB2.out.trans (hb4.mono HB2.out.size))
      clear hb4
      go_wp2
      go_ret
      exact ⟨rfl, H4.out⟩
    | true =>
      obtain ⟨o1, o2⟩ := fine_og HH1.out.symm
      obtain ⟨x1, x2⟩ := fine_xs HH2.out.symm
      have HO := Lib.hid o1
      have HX := Lib.hid x1
      have HC1 := Lib.hid (rup_Check (goal := []) (HV.out.below HB2.out) (HS.out.below HB2.out) (ints_nil w3) o1 x1 o2 x2 (fun x hx => by cases hx) (Nat.zero_le _))
      obtain ⟨z, hz⟩ : ∃ z, z = chkD og xs [] := ⟨_, rfl⟩
      rw [← hz] at HC1
      have HZ := Lib.hid hz
      clear o1 o2 x1 x2 hz
      go_wp2
      go_loopw [5, 6] (fun mx i wr => ∃ k m : Nat, k ≤ ml ∧ i = .int .i64 (k : Nat) ∧ mx = .int .i64 (m : Nat) ∧ m ≤ 1073741824 ∧ wr = w3) (fun _ i _ => ml - (intOf i).toNat)
      case atStart => exact ⟨0, 0, Nat.zero_le _, rfl, rfl, by omega, rfl⟩
      case round =>
        obtain ⟨k, m, hk, rfl, rfl, hm30, rfl⟩ := hrel
        by_cases hlt : (k : Int) < (ml : Int)
        · have hkn : k < og.length := by have := HML.out; omega
          obtain ⟨b, off, ua, uc, rfl, q1, hI⟩ := HV.out.row HB2.out hkn
          have hmem : og.getD k [] ∈ og := by rw [List.getD_eq_getElem?_getD, List.getElem?_eq_getElem hkn]; exact List.getElem_mem hkn
          have hMX := r17_Max hI (HO.out _ hmem).1
          generalize (og.getD k []).length = cl at q1 hMX
          have HMX := Lib.hid hMX
          have HM3 := Lib.hid hm30
          clear hkn hI hmem hMX
          go_wp2_with fail
          refine HMX.out.mono ?_
          rintro e w4 ⟨q, rfl, hq30, rfl⟩
          obtain ⟨zz, hzz⟩ : ∃ z : Nat, z = max m q := ⟨_, rfl⟩
          have e1 : max (m : Int) (q : Int) = (zz : Int) := by omega
          have e2 : (if (m : Int) < (q : Int) then (q : Int) else (m : Int)) = (zz : Int) := by split <;> omega
          have HZZ : Hid (zz ≤ 1073741824) := Lib.hid (by omega)
          clear hzz hm30 hq30
          go_wp2
          go_roundw
          case rel => exact ⟨k + 1, zz, by omega, by go_num, by first | rfl | go_num, HZZ.out, by first | rfl | trivial⟩
          case measure => simp [intOf]; omega
        · by_cases hm10 : (10 : Int) < (m : Int)
          · clear hm30
            go_wp2_with fail
            refine HA3.out.mono ?_
            rintro e w7 ⟨rfl, hb7⟩
            have H7 := Lib.hid (HB2.out.trans (hb7.mono HB2.out.size))
            clear hb7
            go_wp2
            go_ret
            exact ⟨rfl, H7.out⟩
          · clear hm30
            go_wp2_with fail
            refine HC1.out.mono ?_
            rintro e w5 ⟨rfl, hb5⟩
            have hb05 := HB2.out.trans (hb5.mono HB2.out.size)
            have HB5 := Lib.hid hb05
            have HA5 := Lib.hid (alive25 w5)
            by_cases hz1 : z = -1
            · subst hz1
              have HCN := Lib.hid (r18_CountZ (n := m) (HV.out.below hb05) (by omega) (fun c hc => (HO.out c hc).1.clauseL) (fun k => no_model (fun d hd => (HO.out d hd).1) HX.out HZ.out.symm (model k m)))
              clear hb5 hb05
              go_wp2_with fail
              refine HCN.out.mono ?_
              rintro e w6 ⟨u, rfl, hb6⟩
              have HB6 := Lib.hid (HB5.out.trans (hb6.mono HB5.out.size))
              have HA6 := Lib.hid (alive25 w6)
              clear hb6
              go_wp2_with fail
              refine HA6.out.mono ?_
              rintro e w7 ⟨rfl, hb7⟩
              have H7 := Lib.hid (HB6.out.trans (hb7.mono HB6.out.size))
              clear hb7
              go_wp2
              go_ret
              exact ⟨rfl, H7.out⟩
            · have hz2 : (z != -1) = true := by rw [bne_iff_ne]; exact hz1
              clear hb5 hb05
              go_wp2_with fail
              refine HA5.out.mono ?_
              rintro e w7 ⟨rfl, hb7⟩
              have H7 := Lib.hid (HB5.out.trans (hb7.mono HB5.out.size))
              clear hb7
              go_wp2
              go_ret
              exact ⟨rfl, H7.out⟩
end Go.Proofs.Ytknpfopepedmmaa
