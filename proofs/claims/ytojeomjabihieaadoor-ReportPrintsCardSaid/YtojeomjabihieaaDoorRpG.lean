/-
  The document's Print of reports, walked.
-/
import Derived.Test.YtojeomjabihieaaDoorRpF
import Derived.Test.YtojeomjabihieaaDoorRpD
import Derived.Deep.CutBlock
import Derived.Deep.DeepCutAuto
namespace Go.Proofs.YtojeomjabihieaaDoor
open Go.ChangeShapes Go.WideShapes Go.ChangeAt Go.RowKit
set_option linter.unusedVariables false
theorem r37_decimal (x : Int) (h0 : 0 ≤ x) (h1 : x ≤ 9223372036854775807) (W : World) : Calls Tryd.prog 27 #[.int .i64 x] W fun e w' => e = .returned (.string (bs (decT x))) ∧ Below W.heap.size W w' := by
  have HD := Lib.hid (r15_dec x h0 (by omega) W)
  generalize bs (decT x) = s at *
  go_enter Tryd.func27, Tryd.ntmps27
  go_wp2_with fail
  refine HD.out.mono ?_
  rintro e w1 ⟨rfl, hb⟩
  go_wp2
  go_ret
  exact ⟨rfl, hb⟩
def prtW (x : Int) : List UInt8 := 32 :: decT x
theorem prts_len {ps : List Int} (h : ∀ j, j < ps.length → 0 ≤ ps.getD j 0 ∧ ps.getD j 0 < 64) : ∀ k, k ≤ ps.length → ((ps.take k).flatMap prtW).length ≤ k * 21
  | 0, _ => by simp
  | k + 1, hk => by
    rw [flat_step prtW 0 (by omega), List.length_append, Nat.succ_mul]
    have := prts_len h k (by omega)
    have h2 := h k (by omega)
    have := decT_len (n := ps.getD k 0) (by omega)
    simp only [prtW, List.length_cons]
    omega
theorem pW_flat {ps : List Int} (h : ps ≠ []) : (pW ps).flatMap wordT = ps.flatMap prtW := by
  unfold pW
  rw [if_neg h, List.flatMap_map]
  rfl
set_option maxHeartbeats 2000000 in
set_option maxRecDepth 100000 in
theorem r37_Print_no {w : World} {d : RpD} {vl vm vi vp : Value} (h : RpP w d vl vm vi vp) (hd : rightR d = false) : Calls Tryd.prog 12 #[rpV d vl vm vi vp] w (RPost w [] 14) := by
  obtain ⟨a1, c1, hv1⟩ := h.tr.lat.len
  obtain ⟨a2, c2, hv2, -, -⟩ := h.tr.mems.form
  obtain ⟨a3, c3, hv3, -, -⟩ := h.tr.ins.form
  obtain ⟨a4, c4, hv4, -⟩ := h.ports
  have HB0 : Hid (∀ x, Below w.heap.size w (w.alloc x)) := Lib.hid fun x => (Below.refl _ _).alloc (Nat.le_refl _) _
  have HR := Lib.hid (fun x => r37_Right (h.below (HB0.out x)))
  subst hv1 hv2 hv3 hv4
  have e0 : bs [] = ⟨#[]⟩ := rfl
  rw [hd] at HR
  unfold RPost
  rw [e0]
  unfold rpV at *
  clear h hd e0
  go_enter Tryd.func12, Tryd.ntmps12
  go_wp2_with fail
  refine (HR.out _).mono ?_
  rintro e w1 ⟨rfl, hb1⟩
  have HB1 := Lib.hid ((HB0.out _).trans (hb1.mono (HB0.out _).size))
  clear hb1
  go_wp2
  go_ret2
  exact ⟨rfl, HB1.out⟩
set_option maxHeartbeats 16000000 in
set_option maxRecDepth 100000 in
theorem r37_Print_yes {w : World} {d : RpD} {vl vm vi vp : Value} (h : RpP w d vl vm vi vp) (hd : rightR d = true) : Calls Tryd.prog 12 #[rpV d vl vm vi vp] w (RPost w (rpT d) 0) := by
  obtain ⟨b0, ⟨b1, b1'⟩, ⟨b2, b2'⟩, ⟨b3, b3'⟩, ⟨b4, b4'⟩, b5, b6⟩ := rightR_parts hd
  obtain ⟨a1, c1, hv1⟩ := h.tr.lat.len
  obtain ⟨a2, c2, hv2, -, -⟩ := h.tr.mems.form
  obtain ⟨a3, c3, hv3, -, -⟩ := h.tr.ins.form
  obtain ⟨a4, c4, hv4, -, -, -, hcells⟩ := h.ports
  have HB0 : Hid (∀ x, Below w.heap.size w (w.alloc x)) := Lib.hid fun x => (Below.refl _ _).alloc (Nat.le_refl _) _
  have HR := Lib.hid (fun x => r37_Right (h.below (HB0.out x)))
  have H := Lib.hid h
  have B6 := Lib.hid b6
  have HCE := Lib.hid hcells
  rw [hd] at HR
  have hrt : Hid (rightT d.tr = true) := Lib.hid b0
  have hBx := RBx.new w (rpA d vl vm vi vp)
  have K0 : Hid (∀ W, RBx w (rpA d vl vm vi vp) W → W.cell? ⟨w.heap.size, 0, none⟩ = some (.int .i64 d.verdict) ∧ W.cell? ⟨w.heap.size, 1, none⟩ = some (.int .i64 d.depth) ∧ W.cell? ⟨w.heap.size, 2, none⟩ = some (.int .i64 d.fault) ∧ W.cell? ⟨w.heap.size, 3, none⟩ = some (.int .i64 d.place) ∧ W.cell? ⟨w.heap.size, 4, none⟩ = some vl ∧ W.cell? ⟨w.heap.size, 5, none⟩ = some vm ∧ W.cell? ⟨w.heap.size, 6, none⟩ = some vi ∧ W.cell? ⟨w.heap.size, 7, none⟩ = some (.int .i64 d.tr.bad) ∧ W.cell? ⟨w.heap.size, 8, none⟩ = some (.int .i64 d.calls) ∧ W.cell? ⟨w.heap.size, 9, none⟩ = some (.int .i64 d.conf) ∧ W.cell? ⟨w.heap.size, 10, none⟩ = some (.bool d.spent) ∧ W.cell? ⟨w.heap.size, 11, none⟩ = some vp) := Lib.hid fun W hW => load_agg12 hW.1
  have HBX := Lib.hid hBx
  unfold rpV at *
  unfold rpA at *
  subst hv1 hv2 hv3 hv4
  obtain ⟨np, hnp⟩ : ∃ np, np = d.ports.length := ⟨_, rfl⟩
  rw [← hnp] at HR b5 K0 HBX ⊢
  have NP := Lib.hid hnp
  obtain ⟨vd, hvd⟩ : ∃ x, x = d.verdict := ⟨_, rfl⟩
  obtain ⟨dp, hdp⟩ : ∃ x, x = d.depth := ⟨_, rfl⟩
  obtain ⟨fa, hfa⟩ : ∃ x, x = d.fault := ⟨_, rfl⟩
  obtain ⟨pl, hpl⟩ : ∃ x, x = d.place := ⟨_, rfl⟩
  obtain ⟨ca, hca⟩ : ∃ x, x = d.calls := ⟨_, rfl⟩
  obtain ⟨co, hco⟩ : ∃ x, x = d.conf := ⟨_, rfl⟩
  obtain ⟨sp, hsp⟩ : ∃ x, x = d.spent := ⟨_, rfl⟩
  rw [← hvd, ← hdp, ← hfa, ← hpl, ← hca, ← hco, ← hsp] at HR K0 HBX ⊢
  rw [← hdp] at b1 b1'
  rw [← hpl] at b2 b2'
  rw [← hca] at b3 b3'
  rw [← hco] at b4 b4'
  have HTX : Hid (rpT d = lineT [118, 101, 114, 100, 105, 99, 116] [wordV vd] ++ lineT [100, 101, 112, 116, 104] [decT dp] ++ lineT [102, 97, 117, 108, 116] [nameV fa, decT pl] ++ lineT [99, 97, 108, 108, 115] [decT ca, decT co] ++ lineT [115, 112, 101, 110, 116] [spT sp] ++ lineT [112, 111, 114, 116, 115] (pW d.ports) ++ (if vd = 2 then printT d.tr else [])) := Lib.hid (by unfold rpT; rw [← hvd, ← hdp, ← hfa, ← hpl, ← hca, ← hco, ← hsp])
  generalize rpT d = rt at *
  obtain ⟨cs, hcs⟩ : ∃ cs : Array Value, cs = #[.int .i64 vd, .int .i64 dp, .int .i64 fa, .int .i64 pl, .slice a1 d.tr.lat.length c1, .slice a2 d.tr.mems.length c2, .slice a3 d.tr.ins.length c3, .int .i64 d.tr.bad, .int .i64 ca, .int .i64 co, .bool sp, .slice a4 np c4] := ⟨_, rfl⟩
  rw [← hcs] at K0 HBX
  have HCS := Lib.hid hcs
  clear h hd b0 b6 hnp hcells hBx hvd hdp hfa hpl hca hco hsp hcs
  go_enter Tryd.func12, Tryd.ntmps12
  go_wp2_with fail
  refine (HR.out _).mono ?_
  rintro e w1 ⟨rfl, hb1⟩
  have hR1 : RBx w cs w1 := by
    have := HBX.out
    rw [HCS.out] at this ⊢
    exact this.below hb1
  have R1 := Lib.hid hR1
  obtain ⟨k0, k1, k2, k3, k4, k5, k6, k7, k8, k9, k10, k11⟩ := K0.out _ hR1
  clear hb1 hR1 HR HB0 HBX
  have C1 := Lib.hid (r37_Word vd)
  have C2 := Lib.hid (r37_decimal dp b1 (by omega))
  have C3 := Lib.hid (r02_Name fa)
  have C4 := Lib.hid (r37_decimal pl b2 (by omega))
  have C5 := Lib.hid (r37_decimal ca b3 (by omega))
  have C6 := Lib.hid (r37_decimal co b4 (by omega))
  have y1 : (bs (wordV vd)).size ≤ 20 := by rw [bs_size]; have := wordV_len vd; omega
  have y2 := bsT_size (n := dp) (by omega)
  have y3 : (bs (nameV fa)).size ≤ 20 := by rw [bs_size]; have := nameV_len fa; omega
  have y4 := bsT_size (n := pl) (by omega)
  have y5 := bsT_size (n := ca) (by omega)
  have y6 := bsT_size (n := co) (by omega)
  obtain ⟨s1, hs1⟩ : ∃ s, s = bs (wordV vd) := ⟨_, rfl⟩
  rw [← hs1] at C1 y1
  obtain ⟨s2, hs2⟩ : ∃ s, s = bs (decT dp) := ⟨_, rfl⟩
  rw [← hs2] at C2 y2
  obtain ⟨s3, hs3⟩ : ∃ s, s = bs (nameV fa) := ⟨_, rfl⟩
  rw [← hs3] at C3 y3
  obtain ⟨s4, hs4⟩ : ∃ s, s = bs (decT pl) := ⟨_, rfl⟩
  rw [← hs4] at C4 y4
  obtain ⟨s5, hs5⟩ : ∃ s, s = bs (decT ca) := ⟨_, rfl⟩
  rw [← hs5] at C5 y5
  obtain ⟨s6, hs6⟩ : ∃ s, s = bs (decT co) := ⟨_, rfl⟩
  rw [← hs6] at C6 y6
  obtain ⟨p1, e1, x1, r1⟩ := cat2 (P := Tryd.prog) (⟨#[118, 101, 114, 100, 105, 99, 116, 32]⟩ : ByteArray) s1 8 20 (by decide) y1 (by omega)
  obtain ⟨p2, e2, x2, r2⟩ := cat2 (P := Tryd.prog) p1 (⟨#[10, 100, 101, 112, 116, 104, 32]⟩ : ByteArray) 28 7 (by omega) (by decide) (by omega)
  obtain ⟨p3, e3, x3, r3⟩ := cat2 (P := Tryd.prog) p2 s2 35 20 (by omega) y2 (by omega)
  obtain ⟨p4, e4, x4, r4⟩ := cat2 (P := Tryd.prog) p3 (⟨#[10, 102, 97, 117, 108, 116, 32]⟩ : ByteArray) 55 7 (by omega) (by decide) (by omega)
  obtain ⟨p5, e5, x5, r5⟩ := cat2 (P := Tryd.prog) p4 s3 62 20 (by omega) y3 (by omega)
  obtain ⟨p6, e6, x6, r6⟩ := cat2 (P := Tryd.prog) p5 (⟨#[32]⟩ : ByteArray) 82 1 (by omega) (by decide) (by omega)
  obtain ⟨p7, e7, x7, r7⟩ := cat2 (P := Tryd.prog) p6 s4 83 20 (by omega) y4 (by omega)
  obtain ⟨p8, e8, x8, r8⟩ := cat2 (P := Tryd.prog) p7 (⟨#[10, 99, 97, 108, 108, 115, 32]⟩ : ByteArray) 103 7 (by omega) (by decide) (by omega)
  obtain ⟨p9, e9, x9, r9⟩ := cat2 (P := Tryd.prog) p8 s5 110 20 (by omega) y5 (by omega)
  obtain ⟨p10, e10, x10, r10⟩ := cat2 (P := Tryd.prog) p9 (⟨#[32]⟩ : ByteArray) 130 1 (by omega) (by decide) (by omega)
  obtain ⟨p11, e11, x11, r11⟩ := cat2 (P := Tryd.prog) p10 s6 131 20 (by omega) y6 (by omega)
  obtain ⟨p12, e12, x12, r12⟩ := cat2 (P := Tryd.prog) p11 (⟨#[10, 115, 112, 101, 110, 116, 32]⟩ : ByteArray) 151 7 (by omega) (by decide) (by omega)
  obtain ⟨hd1, hhd⟩ : ∃ l : List UInt8, l = lineT [118, 101, 114, 100, 105, 99, 116] [wordV vd] ++ lineT [100, 101, 112, 116, 104] [decT dp] ++ lineT [102, 97, 117, 108, 116] [nameV fa, decT pl] ++ lineT [99, 97, 108, 108, 115] [decT ca, decT co] ++ [115, 112, 101, 110, 116, 32] := ⟨_, rfl⟩
  have EH : Hid (p12 = bs hd1) := Lib.hid (by
    have l0 : (⟨#[10, 99, 97, 108, 108, 115, 32]⟩ : ByteArray) = bs [10, 99, 97, 108, 108, 115, 32] := rfl
    have l1 : (⟨#[10, 100, 101, 112, 116, 104, 32]⟩ : ByteArray) = bs [10, 100, 101, 112, 116, 104, 32] := rfl
    have l2 : (⟨#[10, 102, 97, 117, 108, 116, 32]⟩ : ByteArray) = bs [10, 102, 97, 117, 108, 116, 32] := rfl
    have l3 : (⟨#[10, 115, 112, 101, 110, 116, 32]⟩ : ByteArray) = bs [10, 115, 112, 101, 110, 116, 32] := rfl
    have l4 : (⟨#[32]⟩ : ByteArray) = bs [32] := rfl
    have l5 : (⟨#[118, 101, 114, 100, 105, 99, 116, 32]⟩ : ByteArray) = bs [118, 101, 114, 100, 105, 99, 116, 32] := rfl
    rw [hhd, e12, e11, e10, e9, e8, e7, e6, e5, e4, e3, e2, e1, hs1, hs2, hs3, hs4, hs5, hs6, l0, l1, l2, l3, l4, l5]
    simp only [bs_app]
    congr 1
    simp [lineT, wordT])
  have hhl : hd1.length ≤ 158 := by have h1 := congrArg ByteArray.size EH.out; rw [bs_size] at h1; omega
  have HHD := Lib.hid hhd
  have HBL := Lib.hid (show RBx w cs w1.drew from ⟨R1.out.1, R1.out.2.drew⟩)
  clear hhd hs1 hs2 hs3 hs4 hs5 hs6 e1 e2 e3 e4 e5 e6 e7 e8 e9 e10 e11 e12 x1 x2 x3 x4 x5 x6 x7 x8 x9 x10 x11 y1 y2 y3 y4 y5 y6
  go_wp2_with fail
  go_region_held3 (fun w' => w'.cell? ⟨w.heap.size, 0, none⟩ = some (.int .i64 vd) ∧ w'.cell? ⟨w.heap.size, 1, none⟩ = some (.int .i64 dp) ∧ w'.cell? ⟨w.heap.size, 2, none⟩ = some (.int .i64 fa) ∧ w'.cell? ⟨w.heap.size, 3, none⟩ = some (.int .i64 pl) ∧ w'.cell? ⟨w.heap.size, 8, none⟩ = some (.int .i64 ca) ∧ w'.cell? ⟨w.heap.size, 9, none⟩ = some (.int .i64 co)) (go_keep) (first
    | (go_at_call 6; (with_reducible refine (C1.out _).mono ?_); rintro e wa ⟨rfl, qa⟩; have Qa := Lib.hid (HBL.out.below qa); obtain ⟨aa0, aa1, aa2, aa3, aa4, aa5, aa6, aa7, aa8, aa9, aa10, aa11⟩ := K0.out _ (HBL.out.below qa); clear qa)
    | (go_at_call 27; (with_reducible refine (C2.out _).mono ?_); rintro e wb ⟨rfl, qb⟩; have Qb := Lib.hid (Qa.out.below qb); obtain ⟨bb0, bb1, bb2, bb3, bb4, bb5, bb6, bb7, bb8, bb9, bb10, bb11⟩ := K0.out _ (Qa.out.below qb); clear qb)
    | (go_at_call 8; (with_reducible refine (C3.out _).mono ?_); rintro e wc ⟨rfl, qc⟩; have Qc := Lib.hid (Qb.out.below qc); obtain ⟨cc0, cc1, cc2, cc3, cc4, cc5, cc6, cc7, cc8, cc9, cc10, cc11⟩ := K0.out _ (Qb.out.below qc); clear qc)
    | (go_at_call 27; (with_reducible refine (C4.out _).mono ?_); rintro e wd ⟨rfl, qd⟩; have Qd := Lib.hid (Qc.out.below qd); obtain ⟨dd0, dd1, dd2, dd3, dd4, dd5, dd6, dd7, dd8, dd9, dd10, dd11⟩ := K0.out _ (Qc.out.below qd); clear qd)
    | (go_at_call 27; (with_reducible refine (C5.out _).mono ?_); rintro e we ⟨rfl, qe⟩; have Qe := Lib.hid (Qd.out.below qe); obtain ⟨ee0, ee1, ee2, ee3, ee4, ee5, ee6, ee7, ee8, ee9, ee10, ee11⟩ := K0.out _ (Qd.out.below qe); clear qe)
    | (go_at_call 27; (with_reducible refine (C6.out _).mono ?_); rintro e wf ⟨rfl, qf⟩; have Qf := Lib.hid (Qe.out.below qf); obtain ⟨ff0, ff1, ff2, ff3, ff4, ff5, ff6, ff7, ff8, ff9, ff10, ff11⟩ := K0.out _ (Qe.out.below qf); clear qf))
  clear aa0 aa1 aa2 aa3 aa4 aa5 aa6 aa7 aa8 aa9 aa10 aa11 bb0 bb1 bb2 bb3 bb4 bb5 bb6 bb7 bb8 bb9 bb10 bb11 cc0 cc1 cc2 cc3 cc4 cc5 cc6 cc7 cc8 cc9 cc10 cc11 dd0 dd1 dd2 dd3 dd4 dd5 dd6 dd7 dd8 dd9 dd10 dd11 ee0 ee1 ee2 ee3 ee4 ee5 ee6 ee7 ee8 ee9 ee10 ee11 k0 k1 k2 k3 k4 k5 k6 k7 k8 k9 k10 k11 C1 C2 C3 C4 C5 C6 r1 r2 r3 r4 r5 r6 r7 r8 r9 r10 r11 r12 HBL Qa Qb Qc Qd Qe R1
  obtain ⟨qy, ey, xy, ry⟩ := cat2 (P := Tryd.prog) p12 (⟨#[121, 101, 115, 10, 112, 111, 114, 116, 115]⟩ : ByteArray) 1000 9 (by omega) (by decide) (by omega)
  obtain ⟨qn, en, xn, rn⟩ := cat2 (P := Tryd.prog) p12 (⟨#[110, 111, 10, 112, 111, 114, 116, 115]⟩ : ByteArray) 1000 8 (by omega) (by decide) (by omega)
  obtain ⟨hd2, hh2⟩ : ∃ l : List UInt8, l = hd1 ++ spT sp ++ [10] ++ [112, 111, 114, 116, 115] := ⟨_, rfl⟩
  obtain ⟨qs, hqs⟩ : ∃ q, q = bs hd2 := ⟨_, rfl⟩
  have EY : Hid (sp = true → qy = qs) := Lib.hid fun h => by
    have l0 : (⟨#[121, 101, 115, 10, 112, 111, 114, 116, 115]⟩ : ByteArray) = bs [121, 101, 115, 10, 112, 111, 114, 116, 115] := rfl
    rw [hqs, hh2, h, ey, EH.out, l0, bs_app]
    congr 1
    simp [spT]
  have EN : Hid (sp = false → qn = qs) := Lib.hid fun h => by
    have l0 : (⟨#[110, 111, 10, 112, 111, 114, 116, 115]⟩ : ByteArray) = bs [110, 111, 10, 112, 111, 114, 116, 115] := rfl
    rw [hqs, hh2, h, en, EH.out, l0, bs_app]
    congr 1
    simp [spT]
  have hl2 : hd2.length ≤ 1100 := by rw [hh2]; cases sp <;> simp [spT] <;> omega
  have HH2 := Lib.hid hh2
  have HQS := Lib.hid hqs
  clear hh2 hqs ey en xy xn x12 hhl
  go_upto_if 42 with (fail)
  go_cut [4] (fun v wx => v = .string qs ∧ wx = wf)
  case first =>
    cases sp with
    | true =>
      have hq := EY.out rfl
      subst hq
      go_wp2_with fail
      go_meet
      exact ⟨rfl, rfl⟩
    | false =>
      have hq := EN.out rfl
      subst hq
      go_wp2_with fail
      go_meet
      exact ⟨rfl, rfl⟩
  case rest =>
    obtain ⟨rfl, hwc⟩ := hcut
    subst hwc
    clear ry rn EY EN
    go_wp2
    clear ff0 ff1 ff2 ff3 ff4 ff5 ff6 ff7 ff8 ff9 ff10 ff11
    go_loopw [4, 5] (fun s i wr => ∃ k : Nat, k ≤ np ∧ i = .int .i64 k ∧ (∃ t, s = .string t ∧ t = bs (hd2 ++ (d.ports.take k).flatMap prtW)) ∧ RBx w cs wr) (fun _ i _ => np - (intOf i).toNat)
    case atStart => exact ⟨0, Nat.zero_le _, rfl, ⟨qs, rfl, by rw [HQS.out]; simp⟩, Qf.out⟩
    case round =>
      obtain ⟨k, hk, rfl, ⟨t1, rfl, ht1⟩, hR2⟩ := hrel
      obtain ⟨ff0, ff1, ff2, ff3, ff4, ff5, ff6, ff7, ff8, ff9, ff10, ff11⟩ := K0.out _ hR2
      have hpl := prts_len B6.out k (by rw [← NP.out]; exact hk)
      have hkm : k * 21 ≤ 64 * 21 := Nat.mul_le_mul_right _ (by omega)
      have hts : t1.size ≤ 3000 := by rw [ht1, bs_size, List.length_append]; omega
      have HR2 := Lib.hid hR2
      by_cases hlt : (k : Int) < (np : Int)
      · have hkn : k < d.ports.length := by have := NP.out; omega
        obtain ⟨b, off, rfl, hcell⟩ := ints_cells HCE.out hkn
        have q := hcell _ hR2.2
        obtain ⟨x, hx⟩ : ∃ x, x = d.ports.getD k 0 := ⟨_, rfl⟩
        obtain ⟨x0, x1⟩ := B6.out k hkn
        have hst := flat_step prtW 0 hkn
        rw [← hx] at q x0 x1 hst
        have D1 := Lib.hid (r37_decimal x x0 (by omega) wr)
        have g1 := bsT_size (n := x) (by omega)
        obtain ⟨s1, hs1⟩ : ∃ s, s = bs (decT x) := ⟨_, rfl⟩
        rw [← hs1] at D1 g1
        obtain ⟨v1, f1, w1', r1⟩ := cat2 (P := Tryd.prog) t1 (⟨#[32]⟩ : ByteArray) 3000 1 hts (by decide) (by omega)
        obtain ⟨v2, f2, w2', r2⟩ := cat2 (P := Tryd.prog) v1 s1 3001 20 (by omega) g1 (by omega)
        have E7 : Hid (v2 = bs (hd2 ++ (d.ports.take (k + 1)).flatMap prtW)) := Lib.hid (by
          have l1 : (⟨#[32]⟩ : ByteArray) = bs [32] := rfl
          rw [hst, f2, f1, ht1, hs1, l1]
          simp only [bs_app]
          congr 1
          simp [prtW])
        clear hcell hx hst hs1 g1 f1 f2 w1' w2' ht1 hts hpl hkm hR2
        go_wp2_with fail
        refine D1.out.mono ?_
        rintro e wx ⟨rfl, hb⟩
        have HR3 := Lib.hid (HR2.out.below hb)
        clear hb
        go_wp2
        go_roundw
        case rel => exact ⟨k + 1, by omega, by go_num, ⟨v2, rfl, E7.out⟩, HR3.out⟩
        case measure => simp [intOf]; omega
      · have hkn : k = d.ports.length := by have := NP.out; omega
        rw [hkn, List.take_length] at ht1
        obtain ⟨vm, fm, xm, rm⟩ := cat2 (P := Tryd.prog) t1 (⟨#[32, 45]⟩ : ByteArray) 3000 2 hts (by decide) (by omega)
        obtain ⟨hd3, hh3⟩ : ∃ l : List UInt8, l = hd2 ++ (pW d.ports).flatMap wordT := ⟨_, rfl⟩
        obtain ⟨q3, hq3⟩ : ∃ q, q = bs hd3 := ⟨_, rfl⟩
        have EY : Hid (np = 0 → vm = q3) := Lib.hid fun h => by
          have hnil : d.ports = [] := List.eq_nil_of_length_eq_zero (by rw [← NP.out]; exact h)
          have l0 : (⟨#[32, 45]⟩ : ByteArray) = bs [32, 45] := rfl
          rw [hq3, hh3, fm, ht1, hnil, l0, bs_app]
          congr 1
          simp [pW, wordT]
        have EN : Hid (np ≠ 0 → t1 = q3) := Lib.hid fun h => by
          have hne : d.ports ≠ [] := fun e => h (by rw [NP.out, e]; rfl)
          rw [hq3, hh3, ht1, pW_flat hne]
        have hl3 : q3.size ≤ 3002 := by
          by_cases h : np = 0
          · rw [← EY.out h]; omega
          · rw [← EN.out h]; omega
        have HH3 := Lib.hid hh3
        have HQ3 := Lib.hid hq3
        obtain ⟨wo, rfl⟩ : ∃ wo : World, wo = wr := ⟨_, rfl⟩
        clear hkn ht1 hpl hkm hts fm xm hh3 hq3 hR2
        go_upto_if 66 with (fail)
        go_cut [4] (fun v wx => v = .string q3 ∧ wx = wo)
        case first =>
          by_cases hz : np = 0
          · have hzb : ((np : Int) == 0) = true := by rw [hz]; rfl
            have hq := EY.out hz
            subst hq
            clear hz
            go_wp2_with fail
            go_meet
            exact ⟨rfl, rfl⟩
          · have hzb : ((np : Int) == 0) = false := by rw [beq_eq_false_iff_ne]; omega
            have hq := EN.out hz
            subst hq
            clear hz
            go_wp2_with fail
            go_meet
            exact ⟨rfl, rfl⟩
        case rest =>
          obtain ⟨rfl, hwc⟩ := hcut
          subst hwc
          obtain ⟨q4, f4, x4, r4⟩ := cat2 (P := Tryd.prog) q3 (⟨#[10]⟩ : ByteArray) 3002 1 (by omega) (by decide) (by omega)
          have E4 : Hid (q4 = bs (hd3 ++ [10])) := Lib.hid (by rw [f4, HQ3.out, bs_snoc])
          clear f4 rm EY EN hl3
          by_cases hv : vd = 2
          · have hvb : (vd == 2) = true := by rw [beq_iff_eq]; exact hv
            have P1 := Lib.hid (r15_Print_yes (H.out.tr.below HR2.out.2) hrt.out)
            have hpl := printT_len H.out.tr hrt.out
            unfold PrintPost trV at P1
            have hps : (bs (printT d.tr)).size ≤ 100000000 := by rw [bs_size]; exact hpl
            obtain ⟨s2, hs2⟩ : ∃ s, s = bs (printT d.tr) := ⟨_, rfl⟩
            rw [← hs2] at P1 hps
            obtain ⟨q5, f5, x5, r5⟩ := cat2 (P := Tryd.prog) q4 s2 3003 100000000 (by omega) hps (by omega)
            have E5 : Hid (bs rt = q5) := Lib.hid (by
              rw [f5, E4.out, hs2, bs_app, HTX.out, if_pos hv, HH3.out, HH2.out, HHD.out]
              congr 1
              simp [lineT, wordT])
            clear hv hpl hps hs2 f5 x5 x4
            go_wp2_with fail
            refine P1.out.mono ?_
            rintro e wz ⟨rfl, hb⟩
            have HB := Lib.hid (HR2.out.below hb).2
            clear hb
            go_wp2
            go_ret2
            exact ⟨by rw [E5.out]; rfl, HB.out⟩
          · have hvb : (vd == 2) = false := by rw [beq_eq_false_iff_ne]; exact hv
            have E5 : Hid (bs rt = q4) := Lib.hid (by
              rw [E4.out, HTX.out, if_neg hv, HH3.out, HH2.out, HHD.out]
              congr 1
              simp [lineT, wordT])
            clear hv x4
            go_wp2
            go_ret2
            exact ⟨by rw [E5.out]; rfl, HR2.out.2⟩
end Go.Proofs.YtojeomjabihieaaDoor
