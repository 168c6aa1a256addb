/-
  Trim's laws: TrimSpares.
-/
import Derived.Test.YtknpfopepedmmaaTmJ
namespace Go.Proofs.Ytknpfopepedmmaa
open Go Go.ChangeShapes Go.WideShapes Go.ChangeAt Go.RowKit Go.Maps
set_option linter.unusedVariables false
set_option linter.unusedSimpArgs false
section
variable {w0 w : World}
theorem step_TW {ops : Array Oper} {o : Oper} {a : Act} {K : Act → World → Prop} {Q : Exit → Act → World → Prop} {E : Prop} (hw : Region.wanted o (yielded ops a.tmps) = true) (s x : Operand)
    (ho : o.op = .call { callee := .builtin .append, args := #[s, x], argTypes := #[26, 26] })
    (v : Value) (xss : List (List Int)) (hs : a.eval s = v) (A : Option Addr) (m c : Nat) (vs : List Value) (yss : List (List Int)) (hx : a.eval x = .slice A m c) (hm : yss.length = m) (hl : xss.length + m ≤ 1000000000)
    (hown : OwnT w0 w v xss) (hsrc : Src w A 1 m vs) (hv : EltT w0 vs yss)
    (h : ∀ v' w', OwnT w0 w' v' (xss ++ yss) → Chg (fun k => v.ownBlock = some k) w w' → K (a.put o.dst v') w') :
    if Region.wanted o (yielded ops a.tmps) = true then Oper.wp Try.prog o a w K Q else E := by
  subst hm
  obtain ⟨us, h1, h2, h3, h4⟩ := hown
  rw [if_pos hw]
  exact wp_appS s x 26 ho 28 (.slice none 0 0) 1 24 Try.underlying26 infoL rfl (by decide) v xss.length us hs h1 A _ c vs hx hsrc hv.cell (by unfold maxLen; omega) (by omega)
    fun v' w' hp => h v' w' (OwnT.app h1 h2 h3 h4 hv hp) hp.2.1
end
set_option maxHeartbeats 8000000 in
set_option maxRecDepth 100000 in
theorem claw_tspares {w : World} {v ov s u : Value} {og oth : List (List Int)} {xs : List Stp} {goal : List Int} (h : IntsS w v og) (hoth : IntsS w ov oth) (hs : StpS w s xs) (hu : Ints w u goal) :
    Calls Try.prog 10 #[v, ov, s, u] w fun e w' => e = .returned (.bool true) ∧ Below w.heap.size w w' := by
  have HLG := Lib.hid (light_ h hs hu)
  obtain ⟨A, cap, hve, -, -⟩ := h.form
  obtain ⟨oa, oc, hoe, -, -⟩ := hoth.form
  obtain ⟨sa, sc, hse, -, -⟩ := hs.form
  obtain ⟨ua, uc, hue, -, -⟩ := hu.form2
  have HV := Lib.hid h
  have HOT := Lib.hid hoth
  have HS := Lib.hid hs
  have HU := Lib.hid hu
  obtain ⟨f1, hf1⟩ : ∃ f, f = lightB og xs goal := ⟨_, rfl⟩
  obtain ⟨f2, hf2⟩ : ∃ f, f = fineR oth := ⟨_, rfl⟩
  rw [← hf1] at HLG
  have HH1 := Lib.hid hf1
  have HH2 := Lib.hid hf2
  obtain ⟨ol, hol⟩ : ∃ ol, ol = oth.length := ⟨_, rfl⟩
  have HOL := Lib.hid hol
  generalize og.length = ml at hve
  rw [← hol] at hoe
  generalize xs.length = nl at hse
  generalize goal.length = gl at hue
  subst hve hoe hse hue
  clear h hoth hs hu hf1 hf2 hol
  go_enter Try.func10, Try.ntmps10
  go_wp2_with fail
  refine HLG.out.mono ?_
  rintro e w1 ⟨rfl, hb1⟩
  have HB1 := Lib.hid hb1
  clear hb1
  cases f1 with
  | false =>
    have HA := Lib.hid (alive26 w1)
    go_wp2_with fail
    refine HA.out.mono ?_
    rintro e w2 ⟨rfl, hb2⟩
    have H2 := Lib.hid (HB1.out.trans (hb2.mono HB1.out.size))
    clear hb2
    go_wp2
    go_ret
    exact ⟨rfl, H2.out⟩
  | true =>
    have hF := r25_Fine (HOT.out.below HB1.out)
    rw [← HH2.out] at hF
    have HF := Lib.hid hF
    clear hF
    go_wp2_with fail
    refine HF.out.mono ?_
    rintro e w1x ⟨rfl, rfl⟩
    cases f2 with
    | false =>
      have HA := Lib.hid (alive26 w1x)
      go_wp2_with fail
      refine HA.out.mono ?_
      rintro e w2 ⟨rfl, hb2⟩
      have H2 := Lib.hid (HB1.out.trans (hb2.mono HB1.out.size))
      clear hb2
      go_wp2
      go_ret
      exact ⟨rfl, H2.out⟩
    | true =>
      obtain ⟨o1, x1, o2, x2, g1, g2⟩ := light_yes HH1.out.symm
      obtain ⟨q1, q2⟩ := fine_og HH2.out.symm
      have HOK : Hid ((∀ d ∈ og, Lit30s d ∧ d.length ≤ 1000000) ∧ (∀ x ∈ xs, okX x) ∧ og.length ≤ 100 ∧ xs.length ≤ 100 ∧ Lit30s goal ∧ goal.length ≤ 1000000) := Lib.hid ⟨o1, x1, o2, x2, g1, g2⟩
      have HOQ : Hid ((∀ d ∈ oth, Lit30s d ∧ d.length ≤ 1000000) ∧ oth.length ≤ 100) := Lib.hid ⟨q1, by
        have := HH2.out
        unfold fineR at this
        have := this.symm
        rw [Bool.and_eq_true, decide_eq_true_eq] at this
        exact this.1⟩
      have HPR := Lib.hid (trim_Proof (HV.out.below HB1.out) (HS.out.below HB1.out) (HU.out.below HB1.out) o1 x1 o2 x2 g1 g2)
      clear o1 x1 o2 x2 g1 g2 q1 q2
      go_wp2_with fail
      refine HPR.out.mono ?_
      rintro e w2 ⟨uv, sv, rfl, hb2, hy, hno⟩
      have HB2 := Lib.hid (HB1.out.trans (hb2.mono HB1.out.size))
      obtain ⟨rb, hrb⟩ : ∃ rb, rb = w2.heap.size := ⟨_, rfl⟩
      by_cases hc : chkD og xs goal = -1
      · obtain ⟨hi, hst, hfin⟩ := hy hc
        rw [hc]
        obtain ⟨ia, ic, hiv, -, -⟩ := hi.form2
        obtain ⟨ka, kc, hsv, -, -⟩ := hst.form
        have HI := Lib.hid hi
        have HST := Lib.hid hst
        have HFIN := Lib.hid hfin
        obtain ⟨R, hR⟩ : ∃ R, R = usedP og xs goal := ⟨_, rfl⟩
        have HR := Lib.hid hR
        generalize (natI (usedP og xs goal)).length = il at hiv
        generalize (keptP og xs goal).length = kl at hsv
        subst hiv hsv
        obtain ⟨wB, hwB⟩ : ∃ wB, wB = w2.alloc (.cells #[.slice ia il ic, .slice ka kl kc, .int .i64 (-1)] 60) := ⟨_, rfl⟩
        have hbB : Below w2.heap.size w2 wB := by rw [hwB]; exact below_new1 w2 _
        have hBk : Blk wB rb 60 #[.slice ia il ic, .slice ka kl kc, .int .i64 (-1)] := by rw [hwB, hrb]; exact Blk.new _ _ _
        have HBK := Lib.hid hBk
        have c0 : wB.cell? ⟨rb, 0, none⟩ = some (.slice ia il ic) := hBk.cell 0
        have c2 : wB.cell? ⟨rb, 2, none⟩ = some (.int .i64 (-1)) := hBk.cell 2
        have HBB := Lib.hid (HB2.out.trans (hbB.mono HB2.out.size))
        have HB2B := Lib.hid hbB
        obtain ⟨o1, x1, o2, x2, g1, g2⟩ := HOK.out
        have hvt : IntsT w wB (.slice A ml cap) og := HV.out.t.below HBB.out
        have HSM := Lib.hid (r26_Some hvt (by omega) (HI.out.below HB2B.out) usedP_lt usedP_up)
        clear hy hno hc hi hst hfin hb2 hbB hBk hR o1 x1 o2 x2 g1 g2 hvt
        go_wp2_with fail
        rw [← hrb, ← hwB]
        clear hwB hrb
        refine HSM.out.mono ?_
        rintro e w3 ⟨v3, rfl, h3, hb3⟩
        clear c0 c2
        obtain ⟨na, nc, nus, hne, n1, n2, nsrc, nelt, nbw⟩ := h3.t.s.t
        obtain ⟨pl, hpl⟩ : ∃ pl, pl = (pick_ og (usedP og xs goal)).length := ⟨_, rfl⟩
        rw [← hpl] at hne nsrc
        subst hne
        have HPL := Lib.hid hpl
        have HW3 := Lib.hid (HBB.out.trans (hb3.mono HBB.out.size))
        have HB3 := Lib.hid hb3
        have HNS := Lib.hid nsrc
        have HNE := Lib.hid nelt
        have hBk3 := HBK.out.below hb3 HBK.out.lt
        have HBK3 := Lib.hid hBk3
        have c1 : w3.cell? ⟨rb, 1, none⟩ = some (.slice ka kl kc) := hBk3.cell 1
        obtain ⟨oa', oc', ous, hoe', o1, o2, osrc, oelt, obw⟩ := (HOT.out.below HW3.out).t
        injection hoe' with e1 e2 e3
        subst e1
        rw [← HOL.out] at osrc
        have HOS := Lib.hid osrc
        have HOE := Lib.hid oelt
        have HIS := Lib.hid h3.t.s
        clear h3 hb3 n1 n2 nsrc nelt nbw hpl hBk3 e2 e3 o1 o2 osrc oelt obw
        have hsz3 : w.heap.size ≤ w3.heap.size := HW3.out.size
        have HCK : Hid (∀ W vv, Below w3.heap.size w3 W → IntsS W vv (pick_ og (usedP og xs goal) ++ oth) → Calls Try.prog 23 #[vv, .slice ka kl kc, .slice ua gl uc] W fun e w' => e = .returned (.int .i64 (-1)) ∧ Below W.heap.size W w') := Lib.hid fun W vv hW hi => by
          obtain ⟨o1, x1, o2, x2, g1, g2⟩ := HOK.out
          obtain ⟨k1, k2⟩ := kept_ok HFIN.out x1
          have hpl : (pick_ og (usedP og xs goal)).length ≤ og.length := by rw [pick_len]; exact usedP_len
          have := rup_Check hi (((HST.out.below HB2B.out).below HB3.out).below hW) (HU.out.below (HW3.out.trans (hW.mono hsz3))) (fun d hd => by
            rcases List.mem_append.1 hd with hd | hd
            · exact o1 d (pick_sub usedP_lt d hd)
            · exact HOQ.out.1 d hd) k1 (by rw [List.length_append]; have := HOQ.out.2; omega) (by omega) g1 g2
          rw [trim_base HFIN.out (base := pick_ og (usedP og xs goal) ++ oth) fun i hi => List.mem_append.2 (.inl (pick_mem hi))] at this
          exact this
        have HPB : Hid (pl ≤ 100) := Lib.hid (by
          have := HPL.out
          have h2 : (pick_ og (usedP og xs goal)).length ≤ og.length := by rw [pick_len]; exact usedP_len
          have := HOK.out.2.2.1
          omega)
        have S1 : Hid (∀ (W : World), Below w3.heap.size w3 W → Src W na 1 pl nus) := Lib.hid fun W hW => HNS.out.below hW
        have S2 : Hid (∀ (W : World), Below w3.heap.size w3 W → Src W oa 1 ol ous) := Lib.hid fun W hW => HOS.out.below hW
        have HW0 : Hid (∀ W, Below w3.heap.size w3 W → Below w.heap.size w W) := Lib.hid fun W hW => HW3.out.trans (hW.mono HW3.out.size)
        have C1 := Lib.hid c1
        have HAL : Hid (∀ W, Calls Try.prog 30 #[] W fun e w' => e = .returned (.bool true) ∧ Below W.heap.size W w') := Lib.hid alive26
        clear hsz3
        go_wp2
        go_region_held3 (fun w' => w'.cell? ⟨rb, 1, none⟩ = some (.slice ka kl kc)) (go_keep) (first
          | (refine step_TW (w0 := w3) (by kernel_rfl) (.tmp 40) (.tmp 41) rfl (.slice (some ⟨w3.heap.size, 0, none⟩) 0 0) [] (by simp [Act.eval]) na pl nc nus (pick_ og (usedP og xs goal)) (by simp [Act.eval]) HPL.out.symm ?_ ?_ ?_ ?_ ?_; (rw [List.length_nil]; have := HPB.out; omega); (exact OwnT.new (heap_new1 (w3.drewN _) _) (below_d1 _ _ _) (Nat.le_refl _)); (exact S1.out _ (below_d1 _ _ _)); (exact HNE.out); intro v5 w5 h5 hc5; have H5 := Lib.hid h5; have KB5 : Hid (Below w3.heap.size w3 w5) := Lib.hid (by obtain ⟨-, -, -, -, hb⟩ := h5; exact hb); have c1 : w5.cell? ⟨rb, 1, none⟩ = some (.slice ka kl kc) := cellB C1.out KB5.out; clear h5 hc5)
          | (refine step_TW (w0 := w3) (by kernel_rfl) (.tmp 42) (.tmp 43) rfl v5 (pick_ og (usedP og xs goal)) (by simp [Act.eval]) oa ol oc ous oth (by simp [Act.eval]) HOL.out.symm ?_ ?_ ?_ ?_ ?_; (have := HPL.out; have := HPB.out; have := HOL.out; have := HOQ.out.2; omega); (exact H5.out); (exact S2.out _ KB5.out); (exact HOE.out); intro v6 w6 h6 hc6; have H6 := Lib.hid h6; have KB6 : Hid (Below w3.heap.size w3 w6) := Lib.hid (by obtain ⟨-, -, -, -, hb⟩ := h6; exact hb); have c1 : w6.cell? ⟨rb, 1, none⟩ = some (.slice ka kl kc) := cellB C1.out KB6.out; clear h6 hc6)
          | (go_at_call 23; refine (HCK.out _ _ (by first | exact KB6.out | exact KB6.out.drew) (by first | exact H6.out.t.s | exact (H6.out.below ((Below.refl _ w6).drew)).t.s)).mono ?_; rintro e w7 ⟨rfl, hb7⟩; have hb7 : Below w6.heap.size w6 w7 := (by first | exact hb7 | exact ((Below.refl _ w6).drew).trans hb7); have KB7 := Lib.hid (KB6.out.trans (hb7.mono KB6.out.size)); have c1 : w7.cell? ⟨rb, 1, none⟩ = some (.slice ka kl kc) := cellB C1.out KB7.out; clear hb7)
          | (go_at_call 30; refine (HAL.out _).mono ?_; rintro e w8 ⟨rfl, hb8⟩; have hb8 : Below w7.heap.size w7 w8 := (by first | exact hb8 | exact ((Below.refl _ w7).drew).trans hb8); have KB8 := Lib.hid (KB7.out.trans (hb8.mono KB7.out.size)); have c1 : w8.cell? ⟨rb, 1, none⟩ = some (.slice ka kl kc) := cellB C1.out KB8.out; clear hb8))
        clear c1
        have HF := Lib.hid (HW0.out _ KB8.out)
        go_wp2
        go_ret
        exact ⟨rfl, HF.out⟩
      · obtain ⟨rfl, rfl⟩ := hno hc
        obtain ⟨z, hz⟩ := chkD_nat hc
        rw [hz]
        obtain ⟨wB, hwB⟩ : ∃ wB, wB = w2.alloc (.cells #[.slice none 0 0, .slice none 0 0, .int .i64 (z : Nat)] 60) := ⟨_, rfl⟩
        have hbB : Below w2.heap.size w2 wB := by rw [hwB]; exact below_new1 w2 _
        have hBk : Blk wB rb 60 #[.slice none 0 0, .slice none 0 0, .int .i64 (z : Nat)] := by rw [hwB, hrb]; exact Blk.new _ _ _
        have c2 : wB.cell? ⟨rb, 2, none⟩ = some (.int .i64 (z : Nat)) := hBk.cell 2
        have HBB := Lib.hid (HB2.out.trans (hbB.mono HB2.out.size))
        have HA := Lib.hid (alive26 wB)
        have hzz : ((z : Int) != -1) = true := by rw [bne_iff_ne]; omega
        clear hy hno hc hz hb2 hbB hBk
        go_wp2_with fail
        rw [← hrb, ← hwB]
        clear hwB hrb
        refine HA.out.mono ?_
        rintro e w5 ⟨rfl, hb5⟩
        have HW5 := Lib.hid (HBB.out.trans (hb5.mono HBB.out.size))
        clear hb5 c2
        go_wp2
        go_ret
        exact ⟨rfl, HW5.out⟩
end Go.Proofs.Ytknpfopepedmmaa
