/-
  Trim's laws: TrimCores.
-/
import Derived.Test.YtknpfopepedmmaaTmJ
namespace Go.Proofs.Ytknpfopepedmmaa
open Go Go.ChangeShapes Go.WideShapes Go.ChangeAt Go.RowKit Go.Maps
set_option linter.unusedVariables false
set_option linter.unusedSimpArgs false
set_option maxHeartbeats 8000000 in
set_option maxRecDepth 100000 in
theorem claw_tcores {w : World} {v s u : Value} {og : List (List Int)} {xs : List Stp} {goal : List Int} (h : IntsS w v og) (hs : StpS w s xs) (hu : Ints w u goal) :
    Calls Try.prog 9 #[v, s, u] w fun e w' => e = .returned (.bool true) ∧ Below w.heap.size w w' := by
  have HLG := Lib.hid (light_ h hs hu)
  obtain ⟨A, cap, hve, -, -⟩ := h.form
  obtain ⟨sa, sc, hse, -, -⟩ := hs.form
  obtain ⟨ua, uc, hue, -, -⟩ := hu.form2
  have HV := Lib.hid h
  have HS := Lib.hid hs
  have HU := Lib.hid hu
  obtain ⟨f1, hf1⟩ : ∃ f, f = lightB og xs goal := ⟨_, rfl⟩
  rw [← hf1] at HLG
  have HH1 := Lib.hid hf1
  generalize og.length = ml at hve
  generalize xs.length = nl at hse
  generalize goal.length = gl at hue
  subst hve hse hue
  clear h hs hu hf1
  go_enter Try.func9, Try.ntmps9
  go_wp2_with fail
  refine HLG.out.mono ?_
  rintro e w1 ⟨rfl, hb1⟩
  have HB1 := Lib.hid hb1
  clear hb1
  cases f1 with
  | false =>
    have HA := Lib.hid (alive26 w1)
    go_wp2_with fail
    refine HA.out.mono ?_
    rintro e w2 ⟨rfl, hb2⟩
    have H2 := Lib.hid (HB1.out.trans (hb2.mono HB1.out.size))
    clear hb2
    go_wp2
    go_ret
    exact ⟨rfl, H2.out⟩
  | true =>
    obtain ⟨o1, x1, o2, x2, g1, g2⟩ := light_yes HH1.out.symm
    have HL9 := Lib.hid o2
    have HPR := Lib.hid (trim_Proof (HV.out.below HB1.out) (HS.out.below HB1.out) (HU.out.below HB1.out) o1 x1 o2 x2 g1 g2)
    have HCR : Hid (∀ W, Below w.heap.size w W → Calls Try.prog 33 #[.slice A ml cap, .slice sa nl sc, .slice ua gl uc] W (CoreQ W og xs goal)) := Lib.hid fun W hW => trim_Core (HV.out.below hW) (HS.out.below hW) (HU.out.below hW) o1 x1 o2 x2 g1 g2
    clear o1 x1 o2 x2 g1 g2
    go_wp2_with fail
    refine HPR.out.mono ?_
    rintro e w2 ⟨uv, sv, rfl, hb2, hy, hno⟩
    have HB2 := Lib.hid (HB1.out.trans (hb2.mono HB1.out.size))
    obtain ⟨rb, hrb⟩ : ∃ rb, rb = w2.heap.size := ⟨_, rfl⟩
    obtain ⟨ans, hans⟩ : ∃ a, a = chkD og xs goal := ⟨_, rfl⟩
    obtain ⟨R, hR⟩ : ∃ R, R = if chkD og xs goal = -1 then usedP og xs goal else [] := ⟨_, rfl⟩
    have hRup : R.Pairwise (· < ·) := by rw [hR]; split; exact usedP_up; exact List.Pairwise.nil
    have hRlt : ∀ i ∈ R, i < og.length := by rw [hR]; split; exact usedP_lt; exact fun i hi => by simp at hi
    have hi : Ints w2 uv (natI R) := by
      by_cases hc : chkD og xs goal = -1
      · rw [hR, if_pos hc]; exact (hy hc).1
      · rw [hR, if_neg hc, (hno hc).1]; exact ints_nil _
    obtain ⟨ka, kn, kc, hsv⟩ : ∃ ka kn kc, sv = .slice ka kn kc := by
      by_cases hc : chkD og xs goal = -1
      · obtain ⟨ka, kc, e, -, -⟩ := (hy hc).2.1.form
        exact ⟨_, _, _, e⟩
      · exact ⟨_, _, _, (hno hc).2⟩
    have hrow : (if chkD og xs goal = -1 then pick_ og (usedP og xs goal) else []) = pick_ og R := by
      rw [hR]; split <;> rfl
    obtain ⟨b, hbb⟩ : ∃ b, b = decide (chkD og xs goal = -1) := ⟨_, rfl⟩
    have hq : (ans == -1) = b := by rw [hans, hbb]; rfl
    have HQ := Lib.hid hq
    have HBE := Lib.hid hbb
    have HRW := Lib.hid hrow
    obtain ⟨ia, ic, hiv, -, -⟩ := hi.form2
    have HI := Lib.hid hi
    have HRU := Lib.hid hRup
    have HRL := Lib.hid hRlt
    rw [← hans]
    generalize (natI R).length = il at hiv
    subst hiv hsv
    obtain ⟨wB, hwB⟩ : ∃ wB, wB = w2.alloc (.cells #[.slice ia il ic, .slice ka kn kc, .int .i64 ans] 60) := ⟨_, rfl⟩
    have hbB : Below w2.heap.size w2 wB := by rw [hwB]; exact below_new1 w2 _
    have hBk : Blk wB rb 60 #[.slice ia il ic, .slice ka kn kc, .int .i64 ans] := by rw [hwB, hrb]; exact Blk.new _ _ _
    have HBK := Lib.hid hBk
    have HBB := Lib.hid (HB2.out.trans (hbB.mono HB2.out.size))
    have HB2B := Lib.hid hbB
    have HCR1 := Lib.hid (HCR.out wB HBB.out)
    clear hy hno hi hRup hRlt hrow hbb hq hb2 hbB hBk hans hR
    go_wp2_with fail
    rw [← hrb, ← hwB]
    clear hwB hrb
    refine HCR1.out.mono ?_
    rintro e w3 ⟨v3, rfl, hi3, hb3⟩
    rw [← HBE.out]
    rw [HRW.out] at hi3
    have HB3 := Lib.hid hb3
    have HI3 := Lib.hid hi3
    have HW3 := Lib.hid (HBB.out.trans (hb3.mono HBB.out.size))
    have hbk := HBK.out.below hb3 HBK.out.lt
    have c0 : w3.cell? ⟨rb, 0, none⟩ = some (.slice ia il ic) := hbk.cell 0
    have c2 : w3.cell? ⟨rb, 2, none⟩ = some (.int .i64 ans) := hbk.cell 2
    have HSM := Lib.hid (r26_Some (HV.out.below HW3.out).t (by have := HL9.out; omega) ((HI.out.below HB2B.out).below hb3) HRL.out HRU.out)
    obtain ⟨xa, xc, hxe, -, -⟩ := hi3.form
    generalize (pick_ og R).length = xl at hxe
    subst hxe
    have hq := HQ.out
    clear hi3 hb3 hbk
    go_wp2_with fail
    refine HSM.out.mono ?_
    rintro e w4 ⟨v4, rfl, h4, hb4⟩
    clear c0 c2 hq
    have HW4 := Lib.hid (HW3.out.trans (hb4.mono HW3.out.size))
    have HLS := Lib.hid (Lists_same (HI3.out.below hb4) h4.t.s)
    obtain ⟨na, nc, nus, hne, -, -, -⟩ := h4.t
    generalize (pick_ og R).length = pl at hne
    subst hne
    clear h4 hb4
    go_wp2_with fail
    refine HLS.out.mono ?_
    rintro e w5 ⟨rfl, hq5⟩
    have HW5 := Lib.hid (HW4.out.trans (hq5.below.mono HW4.out.size))
    have HA := Lib.hid (alive26 w5)
    clear hq5
    go_wp2_with fail
    refine HA.out.mono ?_
    rintro e w6 ⟨rfl, hb6⟩
    have HW6 := Lib.hid (HW5.out.trans (hb6.mono HW5.out.size))
    clear hb6
    go_wp2
    go_ret
    exact ⟨rfl, HW6.out⟩
end Go.Proofs.Ytknpfopepedmmaa
