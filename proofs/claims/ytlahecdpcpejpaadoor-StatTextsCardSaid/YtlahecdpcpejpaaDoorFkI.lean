/-
  Chapter 40: the law StatLists.
-/
import Derived.Test.YtlahecdpcpejpaaDoorFkH
import Derived.Test.YtlahecdpcpejpaaDoorFrameN
import Derived.Lib.AppendIntMem
namespace Go.Proofs.YtlahecdpcpejpaaDoor
open Go Go.ChangeShapes Go.WideShapes Go.ChangeAt Go.RowKit
set_option linter.unusedVariables false
set_option linter.unusedSimpArgs false
attribute [local go_sem ↓] Go.wp_at_zero Go.wp_at_succ
/-- strconv's table lies as it should. -/
def Tab (w : World) : Prop := Lib.TabIs Tryd.prog w "internal/strconv.uint64pow10" .u64 Lib.pow10Tab
theorem Tab.below {w w' : World} (h : Tab w) (hb : Below w.heap.size w w') : Tab w' := Lib.tabBelow_of_tabIs h w' hb
theorem fan_form {w : World} {d : NetD} {xs : List Int} {e : Ending} {w' : World} (h : FanQ w d xs e w') : ∃ a n c, e = .returned (.tuple #[.slice a n c, .int .i64 (checkN d)]) ∧ Below w.heap.size w w' ∧ (checkN d = 0 → Ints w' (.slice a n c) xs) ∧ (checkN d ≠ 0 → n = 0) := by
  obtain ⟨u, rfl, hb, h1, h2⟩ := h
  by_cases hc : checkN d = 0
  · obtain ⟨a, c, e, -, -⟩ := (h1 hc).form2
    subst e
    exact ⟨a, _, c, rfl, hb, fun _ => h1 hc, fun hn => absurd hc hn⟩
  · have e := h2 hc
    subst e
    exact ⟨none, 0, 0, rfl, hb, fun h => absurd h hc, fun _ => rfl⟩
set_option maxHeartbeats 8000000 in
set_option maxRecDepth 100000 in
theorem claw_slists {w : World} {d : NetD} {vi vl vo vb vc vm va : Value} (h : NetP w d vi vl vo vb vc vm va) :
    Calls Tryd.prog 4 #[netV d vi vl vo vb vc vm va] w fun e w' => e = .returned (.bool true) ∧ Below w.heap.size w w' := by
  obtain ⟨ai, ci, h1, -, i1, i2, -⟩ := id h.inp
  obtain ⟨al, cl, h2, l1, l2⟩ := h.lat.form
  obtain ⟨ao, co, h3, -, o1, o2, -⟩ := id h.out
  obtain ⟨ab, cb, h4, -, b1, b2, -⟩ := id h.bad
  obtain ⟨ac, cc, h5, -, c1, c2, -⟩ := id h.con
  obtain ⟨am, cm, h6, m1, m2⟩ := h.mems.form
  obtain ⟨aa, ca, h7, a1, a2⟩ := h.ands.form
  obtain ⟨ni, hni⟩ : ∃ n, n = d.inp.length := ⟨_, rfl⟩
  obtain ⟨nl, hnl⟩ : ∃ n, n = d.lat.length := ⟨_, rfl⟩
  obtain ⟨no, hno⟩ : ∃ n, n = d.out.length := ⟨_, rfl⟩
  obtain ⟨nb, hnb⟩ : ∃ n, n = d.bad.length := ⟨_, rfl⟩
  obtain ⟨nc, hnc⟩ : ∃ n, n = d.con.length := ⟨_, rfl⟩
  obtain ⟨nm, hnm⟩ : ∃ n, n = d.mems.length := ⟨_, rfl⟩
  obtain ⟨na, hna⟩ : ∃ n, n = d.ands.length := ⟨_, rfl⟩
  rw [← hni] at h1 i1
  rw [← hnl] at h2 l1
  rw [← hno] at h3 o1
  rw [← hnb] at h4 b1
  rw [← hnc] at h5 c1
  rw [← hnm] at h6 m1
  rw [← hna] at h7 a1
  unfold maxLen at i2 l2 o2 b2 c2 m2 a2
  subst h1 h2 h3 h4 h5 h6 h7
  obtain ⟨wb, hwb⟩ : ∃ wb, wb = w.alloc (.cells #[.int .i64 d.vars, .slice ai ni ci, .slice al nl cl, .slice ao no co, .slice ab nb cb, .slice ac nc cc, .slice am nm cm, .slice aa na ca] 28) := ⟨_, rfl⟩
  obtain ⟨bx, hbx⟩ : ∃ bx, bx = w.heap.size := ⟨_, rfl⟩
  have HB1 : Hid (Below w.heap.size w wb) := Lib.hid (by rw [hwb]; exact below_new1 w _)
  have HBX : Hid (NBox wb bx d (.slice ai ni ci) (.slice al nl cl) (.slice ao no co) (.slice ab nb cb) (.slice ac nc cc) (.slice am nm cm) (.slice aa na ca)) := Lib.hid (by rw [hwb, hbx]; exact NBox.new w _ _ _ _ _ _ _ _)
  have HP := Lib.hid (h.below HB1.out)
  have hli := light07 HP.out
  have hfan : ∀ W, Below wb.heap.size wb W → lightN d = true → _ := fun W hW hl => stat_Fanouts (HP.out.below hW) hl
  have hwid : ∀ W, Below wb.heap.size wb W → lightN d = true → _ := fun W hW hl => stat_Widths (HP.out.below hW) hl
  have hchk : ∀ W, Below wb.heap.size wb W → lightN d = true → _ := fun W hW hl => r06_Check (HP.out.below hW) hl
  have hrfan : ∀ W, Below wb.heap.size wb W → lightN d = true → checkN d = 0 → _ := fun W hW hl hc => r40_Fanouts (HP.out.below hW) hl hc
  have hrwid : ∀ W, Below wb.heap.size wb W → lightN d = true → checkN d = 0 → _ := fun W hW hl hc => r40_Widths (HP.out.below hW) hl hc
  have hnx : ∀ W, Below wb.heap.size wb W → _ := fun W hW => (HBX.out.later hW).all
  unfold netV at hli hfan hwid hchk hrfan hrwid ⊢
  rw [hwb] at hli
  have HLI := Lib.hid hli
  have HFAN := Lib.hid hfan
  have HWID := Lib.hid hwid
  have HCHK := Lib.hid hchk
  have HRF := Lib.hid hrfan
  have HRW := Lib.hid hrwid
  have HNX := Lib.hid hnx
  have HWB := Lib.hid hwb
  have HBE := Lib.hid hbx
  clear h hwb hbx hli hfan hwid hchk hrfan hrwid hnx hni hnl hno hnb hnc hnm hna
  go_enter Tryd.func4, Tryd.ntmps4
  go_wp2_with fail
  refine HLI.out.mono ?_
  rintro e w1 ⟨b, rfl, hl, hb1⟩
  rw [← HWB.out] at hb1
  rw [← HBE.out]
  have K1 := Lib.hid hb1
  have HL := Lib.hid hl
  clear hl hb1
  cases b with
  | false =>
    have HA := Lib.hid (alive40 w1)
    go_wp2_with fail
    refine HA.out.mono ?_
    rintro e w2 ⟨rfl, hb2⟩
    have H2 := Lib.hid ((HB1.out.trans (K1.out.mono HB1.out.size)).trans (hb2.mono (Nat.le_trans HB1.out.size K1.out.size)))
    clear hb2
    go_wp2
    go_ret
    exact ⟨rfl, H2.out⟩
  | true =>
    have HLN : Hid (lightN d = true) := Lib.hid (HL.out rfl)
    have HF1 := Lib.hid (HFAN.out w1 K1.out HLN.out)
    obtain ⟨k0, k1, k2, k3, k4, k5, k6, k7⟩ := HNX.out w1 K1.out
    go_wp2_with fail
    refine HF1.out.mono ?_
    rintro e w2 hq2
    obtain ⟨fa, fn, fc, rfl, hb2, f1, f2⟩ := fan_form hq2
    have K2 := Lib.hid (K1.out.trans (hb2.mono K1.out.size))
    have F1 := Lib.hid f1
    have F2 := Lib.hid f2
    have HF2 := Lib.hid (HWID.out w2 K2.out HLN.out)
    clear hq2 hb2 f1 f2 k0 k1 k2 k3 k4 k5 k6 k7
    obtain ⟨k0, k1, k2, k3, k4, k5, k6, k7⟩ := HNX.out w2 K2.out
    obtain ⟨c, hc⟩ : ∃ c, c = checkN d := ⟨_, rfl⟩
    have HC := Lib.hid hc
    rw [← hc]
    clear hc
    go_wp2_with fail
    refine HF2.out.mono ?_
    rintro e w3 hq3
    obtain ⟨ga, gn, gc, rfl, hb3, g1, g2⟩ := fan_form hq3
    have B23 := Lib.hid hb3
    have K3 := Lib.hid (K2.out.trans (hb3.mono K2.out.size))
    have G1 := Lib.hid g1
    have G2 := Lib.hid g2
    have HC3 := Lib.hid (HCHK.out w3 K3.out HLN.out)
    rw [← HC.out]
    clear hq3 hb3 g1 g2 k0 k1 k2 k3 k4 k5 k6 k7
    obtain ⟨k0, k1, k2, k3, k4, k5, k6, k7⟩ := HNX.out w3 K3.out
    go_wp2_with fail
    refine HC3.out.mono ?_
    rintro e w4 ⟨rfl, hb4⟩
    have B34 := Lib.hid hb4
    have K4 := Lib.hid (K3.out.trans (hb4.mono K3.out.size))
    rw [← HC.out]
    clear hb4 k0 k1 k2 k3 k4 k5 k6 k7
    by_cases h0 : c = 0
    · have HC0 : Hid (checkN d = 0) := Lib.hid (by rw [← HC.out]; exact h0)
      subst h0
      obtain ⟨k0, k1, k2, k3, k4, k5, k6, k7⟩ := HNX.out w4 K4.out
      have HI1 := Lib.hid (((F1.out HC0.out).below B23.out).below B34.out)
      have HI2 := Lib.hid ((G1.out HC0.out).below B34.out)
      have HRF1 := Lib.hid (HRF.out w4 K4.out HLN.out HC0.out)
      go_wp2_with fail
      refine HRF1.out.mono ?_
      rintro e w5 ⟨u5, rfl, hi5, hb5⟩
      have K5 := Lib.hid (K4.out.trans (hb5.mono K4.out.size))
      have hsm := r01_Same (HI1.out.below hb5) hi5
      rw [sameB_self] at hsm
      have HSM := Lib.hid hsm
      have HI5 := Lib.hid (HI2.out.below hb5)
      obtain ⟨ua5, uc5, hue5, -, -⟩ := hi5.form2
      generalize (fanL d).length = l5 at hue5
      subst hue5
      clear hi5 hb5 hsm k0 k1 k2 k3 k4 k5 k6 k7
      go_wp2_with fail
      refine HSM.out.mono ?_
      rintro e w6 ⟨rfl, hq6⟩
      have K6 := Lib.hid (K5.out.trans (hq6.below.mono K5.out.size))
      have HI6 := Lib.hid (HI5.out.below hq6.below)
      have HRW1 := Lib.hid (HRW.out w6 K6.out HLN.out HC0.out)
      clear hq6
      obtain ⟨k0, k1, k2, k3, k4, k5, k6, k7⟩ := HNX.out w6 K6.out
      go_wp2_with fail
      refine HRW1.out.mono ?_
      rintro e w7 ⟨u7, rfl, hi7, hb7⟩
      have K7 := Lib.hid (K6.out.trans (hb7.mono K6.out.size))
      have hsm := r01_Same (HI6.out.below hb7) hi7
      rw [sameB_self] at hsm
      have HSM2 := Lib.hid hsm
      obtain ⟨ua7, uc7, hue7, -, -⟩ := hi7.form2
      generalize (widL d).length = l7 at hue7
      subst hue7
      clear hi7 hb7 hsm k0 k1 k2 k3 k4 k5 k6 k7
      go_wp2_with fail
      refine HSM2.out.mono ?_
      rintro e w8 ⟨rfl, hq8⟩
      have K8 := Lib.hid (K7.out.trans (hq8.below.mono K7.out.size))
      have HA := Lib.hid (alive40 w8)
      clear hq8
      go_wp2_with fail
      refine HA.out.mono ?_
      rintro e w9 ⟨rfl, hb9⟩
      have H9 := Lib.hid ((HB1.out.trans (K8.out.mono HB1.out.size)).trans (hb9.mono (Nat.le_trans HB1.out.size K8.out.size)))
      clear hb9
      go_wp2
      go_ret
      exact ⟨rfl, H9.out⟩
    · have hne : checkN d ≠ 0 := by rw [← HC.out]; exact h0
      have hb : (c != 0) = true := by rw [bne_iff_ne]; exact h0
      have hcc : (c == c) = true := by simp
      have e1 := F2.out hne
      have e2 := G2.out hne
      subst e1 e2
      have HA := Lib.hid (alive40 w4)
      clear hne h0
      go_wp2_with fail
      refine HA.out.mono ?_
      rintro e w9 ⟨rfl, hb9⟩
      have H9 := Lib.hid ((HB1.out.trans (K4.out.mono HB1.out.size)).trans (hb9.mono (Nat.le_trans HB1.out.size K4.out.size)))
      clear hb9
      go_wp2
      go_ret
      exact ⟨rfl, H9.out⟩
end Go.Proofs.YtlahecdpcpejpaaDoor
