/-
  The law ReportPrints, walked.
-/
import Derived.Test.YtojeomjabihieaaDoorRpG
import Derived.Test.YtojeomjabihieaaDoorRpH
import Derived.Test.YtojeomjabihieaaDoorRpI
namespace Go.Proofs.YtojeomjabihieaaDoor
open Go.ChangeShapes Go.WideShapes Go.ChangeAt Go.RowKit
set_option linter.unusedVariables false
set_option maxHeartbeats 1000000 in
theorem rlight_ {w : World} {d : RpD} {vl vm vi vp : Value} (h : RpP w d vl vm vi vp) : Calls Tryd.prog 10 #[rpV d vl vm vi vp] w (LightPost w) := by
  have HB0 : Hid (∀ x, Below w.heap.size w (w.alloc x)) := Lib.hid fun x => (Below.refl _ _).alloc (Nat.le_refl _) _
  have HL := Lib.hid (fun x => light_ (h.tr.below (HB0.out x)))
  obtain ⟨a1, c1, hv1⟩ := h.tr.lat.len
  obtain ⟨a2, c2, hv2, -, -⟩ := h.tr.mems.form
  obtain ⟨a3, c3, hv3, -, -⟩ := h.tr.ins.form
  obtain ⟨a4, c4, hv4, -⟩ := h.ports
  subst hv1 hv2 hv3 hv4
  have hbx := RBx.new w (rpA d (.slice a1 d.tr.lat.length c1) (.slice a2 d.tr.mems.length c2) (.slice a3 d.tr.ins.length c3) (.slice a4 d.ports.length c4))
  unfold rpV
  unfold trV at HL
  unfold rpA at hbx
  have HX := Lib.hid hbx
  clear h hbx
  go_enter Tryd.func10, Tryd.ntmps10
  go_wp2_with fail
  refine (HL.out _).mono ?_
  rintro e w1 ⟨⟨b, rfl⟩, hb⟩
  have hx := HX.out.below hb
  have k11 := (load_agg12 hx.1).2.2.2.2.2.2.2.2.2.2.2
  have HB := Lib.hid hx.2
  clear hb hx
  cases b with
  | false =>
    go_wp2
    go_ret
    exact ⟨⟨_, rfl⟩, HB.out⟩
  | true =>
    go_wp2
    go_ret
    exact ⟨⟨_, rfl⟩, HB.out⟩
def rqT (d : RpD) : List UInt8 := if rightR d then rpT d else []
def rqF (d : RpD) : Int := if rightR d then 0 else 14
theorem report_Print {w : World} {d : RpD} {vl vm vi vp : Value} (h : RpP w d vl vm vi vp) (ht : Tab w) : Calls Tryd.prog 11 #[rpV d vl vm vi vp] w fun e w' => e = .returned (.tuple #[.string (bs (rqT d)), .int .i64 (rqF d)]) ∧ Below w.heap.size w w' := by
  unfold rqT rqF
  cases hd : rightR d
  · exact report_Print_no h hd
  · exact report_Print_yes h hd ht
theorem r37_Print {w : World} {d : RpD} {vl vm vi vp : Value} (h : RpP w d vl vm vi vp) : Calls Tryd.prog 12 #[rpV d vl vm vi vp] w fun e w' => e = .returned (.tuple #[.string (bs (rqT d)), .int .i64 (rqF d)]) ∧ Below w.heap.size w w' := by
  unfold rqT rqF
  cases hd : rightR d
  · exact r37_Print_no h hd
  · exact r37_Print_yes h hd
set_option maxHeartbeats 16000000 in
set_option maxRecDepth 100000 in
theorem claw_rprints {w : World} (ht : Tab w) {d f : RpD} {vl vm vi vp ul um ui up : Value} (h : RpP w d vl vm vi vp) (g : RpP w f ul um ui up) : Calls Tryd.prog 4 #[rpV d vl vm vi vp, rpV f ul um ui up] w fun e w' => e = .returned (.bool true) ∧ Below w.heap.size w w' := by
  have hb0 : ∀ x y, Below w.heap.size w ((w.alloc x).alloc y) := fun x y => ((Below.refl _ _).alloc (Nat.le_refl _) _).alloc (by simp) _
  obtain ⟨a1, c1, hv1⟩ := h.tr.lat.len
  obtain ⟨a2, c2, hv2, -, -⟩ := h.tr.mems.form
  obtain ⟨a3, c3, hv3, -, -⟩ := h.tr.ins.form
  obtain ⟨a7, c7, hv4, -⟩ := h.ports
  obtain ⟨a4, c4, hu1⟩ := g.tr.lat.len
  obtain ⟨a5, c5, hu2, -, -⟩ := g.tr.mems.form
  obtain ⟨a6, c6, hu3, -, -⟩ := g.tr.ins.form
  obtain ⟨a8, c8, hu4, -⟩ := g.ports
  obtain ⟨W0, hW0⟩ : ∃ W0, W0 = (w.alloc (.cells #[.int .i64 d.verdict, .int .i64 d.depth, .int .i64 d.fault, .int .i64 d.place, vl, vm, vi, .int .i64 d.tr.bad, .int .i64 d.calls, .int .i64 d.conf, .bool d.spent, vp] 36)).alloc (.cells #[.int .i64 f.verdict, .int .i64 f.depth, .int .i64 f.fault, .int .i64 f.place, ul, um, ui, .int .i64 f.tr.bad, .int .i64 f.calls, .int .i64 f.conf, .bool f.spent, up] 36) := ⟨_, rfl⟩
  have HW : Hid (Below w.heap.size w W0) := Lib.hid (by rw [hW0]; exact hb0 _ _)
  have h0 := h.below HW.out
  have g0 := g.below HW.out
  have t0 := ht.below HW.out
  have KB : Hid (∀ W, Below W0.heap.size W0 W → (W.cell? ⟨w.heap.size, 0, none⟩ = some (.int .i64 d.verdict) ∧ W.cell? ⟨w.heap.size, 1, none⟩ = some (.int .i64 d.depth) ∧ W.cell? ⟨w.heap.size, 2, none⟩ = some (.int .i64 d.fault) ∧ W.cell? ⟨w.heap.size, 3, none⟩ = some (.int .i64 d.place) ∧ W.cell? ⟨w.heap.size, 4, none⟩ = some (vl) ∧ W.cell? ⟨w.heap.size, 5, none⟩ = some (vm) ∧ W.cell? ⟨w.heap.size, 6, none⟩ = some (vi) ∧ W.cell? ⟨w.heap.size, 7, none⟩ = some (.int .i64 d.tr.bad) ∧ W.cell? ⟨w.heap.size, 8, none⟩ = some (.int .i64 d.calls) ∧ W.cell? ⟨w.heap.size, 9, none⟩ = some (.int .i64 d.conf) ∧ W.cell? ⟨w.heap.size, 10, none⟩ = some (.bool d.spent) ∧ W.cell? ⟨w.heap.size, 11, none⟩ = some (vp)) ∧ (W.cell? ⟨w.heap.size + 1, 0, none⟩ = some (.int .i64 f.verdict) ∧ W.cell? ⟨w.heap.size + 1, 1, none⟩ = some (.int .i64 f.depth) ∧ W.cell? ⟨w.heap.size + 1, 2, none⟩ = some (.int .i64 f.fault) ∧ W.cell? ⟨w.heap.size + 1, 3, none⟩ = some (.int .i64 f.place) ∧ W.cell? ⟨w.heap.size + 1, 4, none⟩ = some (ul) ∧ W.cell? ⟨w.heap.size + 1, 5, none⟩ = some (um) ∧ W.cell? ⟨w.heap.size + 1, 6, none⟩ = some (ui) ∧ W.cell? ⟨w.heap.size + 1, 7, none⟩ = some (.int .i64 f.tr.bad) ∧ W.cell? ⟨w.heap.size + 1, 8, none⟩ = some (.int .i64 f.calls) ∧ W.cell? ⟨w.heap.size + 1, 9, none⟩ = some (.int .i64 f.conf) ∧ W.cell? ⟨w.heap.size + 1, 10, none⟩ = some (.bool f.spent) ∧ W.cell? ⟨w.heap.size + 1, 11, none⟩ = some (up))) := Lib.hid (by
    intro W hW
    have q1 := (Blk.new w 36 #[.int .i64 d.verdict, .int .i64 d.depth, .int .i64 d.fault, .int .i64 d.place, vl, vm, vi, .int .i64 d.tr.bad, .int .i64 d.calls, .int .i64 d.conf, .bool d.spent, vp]).alloc (.cells #[.int .i64 f.verdict, .int .i64 f.depth, .int .i64 f.fault, .int .i64 f.place, ul, um, ui, .int .i64 f.tr.bad, .int .i64 f.calls, .int .i64 f.conf, .bool f.spent, up] 36)
    have q2 := Blk.new (w.alloc (.cells #[.int .i64 d.verdict, .int .i64 d.depth, .int .i64 d.fault, .int .i64 d.place, vl, vm, vi, .int .i64 d.tr.bad, .int .i64 d.calls, .int .i64 d.conf, .bool d.spent, vp] 36)) 36 #[.int .i64 f.verdict, .int .i64 f.depth, .int .i64 f.fault, .int .i64 f.place, ul, um, ui, .int .i64 f.tr.bad, .int .i64 f.calls, .int .i64 f.conf, .bool f.spent, up]
    simp only [World.size_alloc] at q2
    rw [← hW0] at q1 q2
    exact ⟨load_agg12 (q1.below hW q1.lt), load_agg12 (q2.below hW q2.lt)⟩)
  have L1 := Lib.hid (fun W (hW : Below W0.heap.size W0 W) => rlight_ (h0.below hW))
  have L2 := Lib.hid (fun W (hW : Below W0.heap.size W0 W) => rlight_ (g0.below hW))
  have P1 := Lib.hid (fun W (hW : Below W0.heap.size W0 W) => report_Print (h0.below hW) (t0.below hW))
  have P2 := Lib.hid (fun W (hW : Below W0.heap.size W0 W) => r37_Print (h0.below hW))
  have R1 := Lib.hid (fun W (hW : Below W0.heap.size W0 W) => report_Right (h0.below hW))
  have R2 := Lib.hid (fun W (hW : Below W0.heap.size W0 W) => r37_Right (h0.below hW))
  have S1 := Lib.hid (fun W (hW : Below W0.heap.size W0 W) => report_Same (h0.below hW) (g0.below hW))
  have S2 := Lib.hid (fun W (hW : Below W0.heap.size W0 W) => r37_Same (h0.below hW) (g0.below hW))
  have AL := Lib.hid (fun W (hW : Below W0.heap.size W0 W) => alive_ (t0.below hW))
  generalize bs (rqT d) = pt at *
  generalize rqF d = pf at *
  generalize rightR d = rt at *
  generalize sameR d f = st at *
  unfold rpV at *
  subst hv1 hv2 hv3 hv4 hu1 hu2 hu3 hu4
  generalize d.tr.lat.length = x0 at *
  generalize d.tr.mems.length = x1 at *
  generalize d.tr.ins.length = x2 at *
  generalize d.ports.length = x3 at *
  generalize d.tr.bad = x4 at *
  generalize d.verdict = x5 at *
  generalize d.depth = x6 at *
  generalize d.fault = x7 at *
  generalize d.place = x8 at *
  generalize d.calls = x9 at *
  generalize d.conf = x10 at *
  generalize d.spent = x11 at *
  generalize f.tr.lat.length = y0 at *
  generalize f.tr.mems.length = y1 at *
  generalize f.tr.ins.length = y2 at *
  generalize f.ports.length = y3 at *
  generalize f.tr.bad = y4 at *
  generalize f.verdict = y5 at *
  generalize f.depth = y6 at *
  generalize f.fault = y7 at *
  generalize f.place = y8 at *
  generalize f.calls = y9 at *
  generalize f.conf = y10 at *
  generalize f.spent = y11 at *
  obtain ⟨⟨k0, k1, k2, k3, k4, k5, k6, k7, k8, k9, k10, k11⟩, k12, k13, k14, k15, k16, k17, k18, k19, k20, k21, k22, k23⟩ := KB.out _ (Below.refl _ _)
  have H0 : Hid (Below W0.heap.size W0 W0) := Lib.hid (Below.refl _ _)
  have HQ := Lib.hid hW0
  clear h g h0 g0 t0 hb0 ht
  go_enter Tryd.func4, Tryd.ntmps4
  go_wp2_with fail
  rw [← HQ.out]
  refine (L1.out _ H0.out).mono ?_
  rintro e w1 ⟨⟨b1, rfl⟩, q1⟩
  have B1 := Lib.hid (after H0.out q1)
  clear q1 hW0
  obtain ⟨⟨r0, r1, r2, r3, r4, r5, r6, r7, r8, r9, r10, r11⟩, r12, r13, r14, r15, r16, r17, r18, r19, r20, r21, r22, r23⟩ := KB.out _ B1.out
  cases b1 with
  | false =>
    go_wp2_with fail
    refine (AL.out _ B1.out).mono ?_
    rintro e w2 ⟨rfl, q2⟩
    have B2 := Lib.hid (HW.out.trans ((after B1.out q2).mono HW.out.size))
    clear q2
    go_wp2
    go_ret
    exact ⟨rfl, B2.out⟩
  | true =>
    go_wp2_with fail
    refine (L2.out _ B1.out).mono ?_
    rintro e w2 ⟨⟨b2, rfl⟩, q2⟩
    have B2 := Lib.hid (after B1.out q2)
    clear q2 r0 r1 r2 r3 r4 r5 r6 r7 r8 r9 r10 r11 r12 r13 r14 r15 r16 r17 r18 r19 r20 r21 r22 r23 k0 k1 k2 k3 k4 k5 k6 k7 k8 k9 k10 k11 k12 k13 k14 k15 k16 k17 k18 k19 k20 k21 k22 k23
    obtain ⟨⟨r0, r1, r2, r3, r4, r5, r6, r7, r8, r9, r10, r11⟩, r12, r13, r14, r15, r16, r17, r18, r19, r20, r21, r22, r23⟩ := KB.out _ B2.out
    cases b2 with
    | false =>
      go_wp2_with fail
      refine (AL.out _ B2.out).mono ?_
      rintro e w3 ⟨rfl, q3⟩
      have B3 := Lib.hid (HW.out.trans ((after B2.out q3).mono HW.out.size))
      clear q3
      go_wp2
      go_ret
      exact ⟨rfl, B3.out⟩
    | true =>
      go_wp2_with fail
      refine (P1.out _ B2.out).mono ?_
      rintro e w3 ⟨rfl, q3⟩
      have B3 := Lib.hid (after B2.out q3)
      clear q3 r0 r1 r2 r3 r4 r5 r6 r7 r8 r9 r10 r11 r12 r13 r14 r15 r16 r17 r18 r19 r20 r21 r22 r23
      obtain ⟨⟨r0, r1, r2, r3, r4, r5, r6, r7, r8, r9, r10, r11⟩, r12, r13, r14, r15, r16, r17, r18, r19, r20, r21, r22, r23⟩ := KB.out _ B3.out
      go_wp2_with fail
      refine (P2.out _ B3.out).mono ?_
      rintro e w4 ⟨rfl, q4⟩
      have B4 := Lib.hid (after B3.out q4)
      clear q4 r0 r1 r2 r3 r4 r5 r6 r7 r8 r9 r10 r11 r12 r13 r14 r15 r16 r17 r18 r19 r20 r21 r22 r23
      obtain ⟨⟨r0, r1, r2, r3, r4, r5, r6, r7, r8, r9, r10, r11⟩, r12, r13, r14, r15, r16, r17, r18, r19, r20, r21, r22, r23⟩ := KB.out _ B4.out
      have B4d : Hid (Below W0.heap.size W0 w4.drew) := Lib.hid B4.out.drew
      go_wp2_with fail
      go_region_held3 (fun w' => w'.cell? ⟨w.heap.size, 0, none⟩ = some (.int .i64 x5) ∧ w'.cell? ⟨w.heap.size, 1, none⟩ = some (.int .i64 x6) ∧ w'.cell? ⟨w.heap.size, 2, none⟩ = some (.int .i64 x7) ∧ w'.cell? ⟨w.heap.size, 3, none⟩ = some (.int .i64 x8) ∧ w'.cell? ⟨w.heap.size, 4, none⟩ = some (.slice a1 x0 c1) ∧ w'.cell? ⟨w.heap.size, 5, none⟩ = some (.slice a2 x1 c2) ∧ w'.cell? ⟨w.heap.size, 6, none⟩ = some (.slice a3 x2 c3) ∧ w'.cell? ⟨w.heap.size, 7, none⟩ = some (.int .i64 x4) ∧ w'.cell? ⟨w.heap.size, 8, none⟩ = some (.int .i64 x9) ∧ w'.cell? ⟨w.heap.size, 9, none⟩ = some (.int .i64 x10) ∧ w'.cell? ⟨w.heap.size, 10, none⟩ = some (.bool x11) ∧ w'.cell? ⟨w.heap.size, 11, none⟩ = some (.slice a7 x3 c7) ∧ w'.cell? ⟨w.heap.size + 1, 0, none⟩ = some (.int .i64 y5) ∧ w'.cell? ⟨w.heap.size + 1, 1, none⟩ = some (.int .i64 y6) ∧ w'.cell? ⟨w.heap.size + 1, 2, none⟩ = some (.int .i64 y7) ∧ w'.cell? ⟨w.heap.size + 1, 3, none⟩ = some (.int .i64 y8) ∧ w'.cell? ⟨w.heap.size + 1, 4, none⟩ = some (.slice a4 y0 c4) ∧ w'.cell? ⟨w.heap.size + 1, 5, none⟩ = some (.slice a5 y1 c5) ∧ w'.cell? ⟨w.heap.size + 1, 6, none⟩ = some (.slice a6 y2 c6) ∧ w'.cell? ⟨w.heap.size + 1, 7, none⟩ = some (.int .i64 y4) ∧ w'.cell? ⟨w.heap.size + 1, 8, none⟩ = some (.int .i64 y9) ∧ w'.cell? ⟨w.heap.size + 1, 9, none⟩ = some (.int .i64 y10) ∧ w'.cell? ⟨w.heap.size + 1, 10, none⟩ = some (.bool y11) ∧ w'.cell? ⟨w.heap.size + 1, 11, none⟩ = some (.slice a8 y3 c8)) (go_keep) (first
        | (go_at_call 13; refine (R1.out _ B4d.out).mono ?_; rintro e wa ⟨rfl, hq⟩; have Q1 := Lib.hid (after B4d.out hq); obtain ⟨⟨s0, s1, s2, s3, s4, s5, s6, s7, s8, s9, s10, s11⟩, s12, s13, s14, s15, s16, s17, s18, s19, s20, s21, s22, s23⟩ := KB.out _ Q1.out; clear hq)
        | (go_at_call 14; refine (R2.out _ Q1.out).mono ?_; rintro e wb ⟨rfl, hq⟩; have Q2 := Lib.hid (after Q1.out hq); obtain ⟨⟨t0, t1, t2, t3, t4, t5, t6, t7, t8, t9, t10, t11⟩, t12, t13, t14, t15, t16, t17, t18, t19, t20, t21, t22, t23⟩ := KB.out _ Q2.out; clear hq)
        | (go_at_call 15; refine (S1.out _ Q2.out).mono ?_; rintro e wc ⟨rfl, hq⟩; have Q3 := Lib.hid (after Q2.out hq); obtain ⟨⟨u0, u1, u2, u3, u4, u5, u6, u7, u8, u9, u10, u11⟩, u12, u13, u14, u15, u16, u17, u18, u19, u20, u21, u22, u23⟩ := KB.out _ Q3.out; clear hq)
        | (go_at_call 16; refine (S2.out _ Q3.out).mono ?_; rintro e wd ⟨rfl, hq⟩; have Q4 := Lib.hid (after Q3.out hq); obtain ⟨⟨v0, v1, v2, v3, v4, v5, v6, v7, v8, v9, v10, v11⟩, v12, v13, v14, v15, v16, v17, v18, v19, v20, v21, v22, v23⟩ := KB.out _ Q4.out; clear hq)
        | (go_at_call 9; refine (AL.out _ Q4.out).mono ?_; rintro e we ⟨rfl, hq⟩; have Q5 := Lib.hid (after Q4.out hq); obtain ⟨⟨z0, z1, z2, z3, z4, z5, z6, z7, z8, z9, z10, z11⟩, z12, z13, z14, z15, z16, z17, z18, z19, z20, z21, z22, z23⟩ := KB.out _ Q5.out; clear hq))
      go_wp2
      go_ret
      exact ⟨by simp, HW.out.trans (Q5.out.mono HW.out.size)⟩
end Go.Proofs.YtojeomjabihieaaDoor
