/-
  The law TracePrints, walked.
-/
import Derived.Test.YtibinmabdidecaaDoorTrG
import Derived.Test.YtibinmabdidecaaDoorTrH
import Derived.Test.YtibinmabdidecaaDoorTrK
namespace Go.Proofs.YtibinmabdidecaaDoor
open Go.ChangeShapes Go.WideShapes Go.ChangeAt Go.RowKit
set_option linter.unusedVariables false
def LightPost (w : World) (e : Ending) (w' : World) : Prop := (∃ b : Bool, e = .returned (.bool b)) ∧ Below w.heap.size w w'
set_option maxHeartbeats 2000000 in
theorem light_ {w : World} {d : TrD} {vl vm vi : Value} (h : TrP w d vl vm vi) : Calls Tryd.prog 8 #[trV d vl vm vi] w (LightPost w) := by
  have H := Lib.hid h
  obtain ⟨a1, c1, rfl⟩ := h.lat.len
  obtain ⟨a2, c2, rfl, hm1, hm2⟩ := h.mems.form
  obtain ⟨a3, c3, rfl, hi1, hi2⟩ := h.ins.form
  clear h
  unfold trV
  obtain ⟨lat, mems, ins, bad⟩ := d
  simp only at *
  obtain ⟨n1, hn1⟩ : ∃ n, n = lat.length := ⟨_, rfl⟩
  obtain ⟨n2, hn2⟩ : ∃ n, n = mems.length := ⟨_, rfl⟩
  obtain ⟨n3, hn3⟩ : ∃ n, n = ins.length := ⟨_, rfl⟩
  rw [← hn1, ← hn2, ← hn3]
  have N2 := Lib.hid hn2
  have N3 := Lib.hid hn3
  have g2 : n2 ≤ 9223372036854775807 := by rw [hn2]; exact Nat.le_trans hm1 hm2
  have g3 : n3 ≤ 9223372036854775807 := by rw [hn3]; exact Nat.le_trans hi1 hi2
  have q := Blk.new w 33 #[.slice a1 n1 c1, .slice a2 n2 c2, .slice a3 n3 c3, .int .i64 bad]
  have hb0 : Below w.heap.size w (w.alloc (.cells #[.slice a1 n1 c1, .slice a2 n2 c2, .slice a3 n3 c3, .int .i64 bad] 33)) := (Below.refl _ _).alloc (Nat.le_refl _) _
  have Q := Lib.hid q
  have HB0 := Lib.hid hb0
  clear hn1 hn2 hn3 q hb0 hm1 hm2 hi1 hi2
  go_enter Tryd.func8, Tryd.ntmps8
  go_wp2
  all_goals first
    | (go_ret; exact ⟨⟨_, rfl⟩, HB0.out⟩)
    | skip
  go_loopw [3] (fun i wr => ∃ k : Nat, k ≤ n2 ∧ i = .int .i64 k ∧ wr = w.alloc (.cells #[.slice a1 n1 c1, .slice a2 n2 c2, .slice a3 n3 c3, .int .i64 bad] 33)) (fun i _ => n2 - (intOf i).toNat)
  case atStart => exact ⟨0, Nat.zero_le _, rfl, rfl⟩
  case round =>
    obtain ⟨k, hk, rfl, rfl⟩ := hrel
    have k1 := Q.out.cell 1
    have k2 := Q.out.cell 2
    by_cases hlt : (k : Int) < (n2 : Int)
    · have hkn : k < mems.length := by have := N2.out; omega
      obtain ⟨b, off, cap2, he, u, hcell, hp⟩ := H.out.mems.at_ hkn
      injection he with e1 e2 e3
      subst e1
      obtain ⟨pa, pc, rfl, -, -⟩ := pairs_lens hp
      have hc1 := cell_below hcell HB0.out
      rw [Nat.mul_one] at hc1
      generalize (mems.getD k []).length = m at *
      clear hcell hp e2 e3
      by_cases hm : (100 : Int) < (m : Int)
      · go_wp2
        go_ret
        exact ⟨⟨_, rfl⟩, HB0.out⟩
      · go_wp2
        go_roundw
        case rel => exact ⟨k + 1, by omega, by go_num, trivial⟩
        case measure => simp [intOf]; omega
    · clear hk
      go_wp2
      go_loopw [4] (fun i wr => ∃ k : Nat, k ≤ n3 ∧ i = .int .i64 k ∧ wr = w.alloc (.cells #[.slice a1 n1 c1, .slice a2 n2 c2, .slice a3 n3 c3, .int .i64 bad] 33)) (fun i _ => n3 - (intOf i).toNat)
      case atStart => exact ⟨0, Nat.zero_le _, rfl, rfl⟩
      case round =>
        obtain ⟨j, hj, rfl, rfl⟩ := hrel
        by_cases hlj : (j : Int) < (n3 : Int)
        · have hkn : j < ins.length := by have := N3.out; omega
          obtain ⟨b, off, cap2, he, u, hcell, hp⟩ := H.out.ins.at_ hkn
          injection he with e1 e2 e3
          subst e1
          obtain ⟨pa, pc, rfl⟩ := hp.len
          have hc1 := cell_below hcell HB0.out
          rw [Nat.mul_one] at hc1
          generalize (ins.getD j []).length = m at *
          clear hcell hp e2 e3
          by_cases hm : (200 : Int) < (m : Int)
          · go_wp2
            go_ret
            exact ⟨⟨_, rfl⟩, HB0.out⟩
          · go_wp2
            go_roundw
            case rel => exact ⟨j + 1, by omega, by go_num, trivial⟩
            case measure => simp [intOf]; omega
        · go_wp2
          go_ret
          exact ⟨⟨_, rfl⟩, HB0.out⟩
def prT (d : TrD) : List UInt8 := if rightT d then printT d else []
def prF (d : TrD) : Int := if rightT d then 0 else 14
theorem trace_Print {w : World} {d : TrD} {vl vm vi : Value} (h : TrP w d vl vm vi) (ht : Tab w) : Calls Tryd.prog 9 #[trV d vl vm vi] w fun e w' => e = .returned (.tuple #[.string (bs (prT d)), .int .i64 (prF d)]) ∧ Below w.heap.size w w' := by
  unfold prT prF
  cases hd : rightT d
  · exact trace_Print_no h hd
  · exact trace_Print_yes h hd ht
theorem r15_Print {w : World} {d : TrD} {vl vm vi : Value} (h : TrP w d vl vm vi) : Calls Tryd.prog 10 #[trV d vl vm vi] w fun e w' => e = .returned (.tuple #[.string (bs (prT d)), .int .i64 (prF d)]) ∧ Below w.heap.size w w' := by
  unfold prT prF
  cases hd : rightT d
  · exact r15_Print_no h hd
  · exact r15_Print_yes h hd
theorem after {W0 W w' : World} (h : Below W0.heap.size W0 W) (g : Below W.heap.size W w') : Below W0.heap.size W0 w' := h.trans (g.mono h.size)
set_option maxHeartbeats 8000000 in
set_option maxRecDepth 100000 in
theorem claw_prints {w : World} (ht : Tab w) {d f : TrD} {vl vm vi ul um ui : Value} (h : TrP w d vl vm vi) (g : TrP w f ul um ui) : Calls Tryd.prog 4 #[trV d vl vm vi, trV f ul um ui] w fun e w' => e = .returned (.bool true) ∧ Below w.heap.size w w' := by
  have hb0 : ∀ x y, Below w.heap.size w ((w.alloc x).alloc y) := fun x y => ((Below.refl _ _).alloc (Nat.le_refl _) _).alloc (by simp) _
  obtain ⟨a1, c1, hv1⟩ := h.lat.len
  obtain ⟨a2, c2, hv2, -, -⟩ := h.mems.form
  obtain ⟨a3, c3, hv3, -, -⟩ := h.ins.form
  obtain ⟨a4, c4, hu1⟩ := g.lat.len
  obtain ⟨a5, c5, hu2, -, -⟩ := g.mems.form
  obtain ⟨a6, c6, hu3, -, -⟩ := g.ins.form
  obtain ⟨W0, hW0⟩ : ∃ W0, W0 = (w.alloc (.cells #[vl, vm, vi, .int .i64 d.bad] 33)).alloc (.cells #[ul, um, ui, .int .i64 f.bad] 33) := ⟨_, rfl⟩
  have HW : Hid (Below w.heap.size w W0) := Lib.hid (by rw [hW0]; exact hb0 _ _)
  have h0 := h.below HW.out
  have g0 := g.below HW.out
  have t0 := ht.below HW.out
  have KB : Hid (∀ W, Below W0.heap.size W0 W → (W.cell? ⟨w.heap.size, 0, none⟩ = some vl ∧ W.cell? ⟨w.heap.size, 1, none⟩ = some vm ∧ W.cell? ⟨w.heap.size, 2, none⟩ = some vi ∧ W.cell? ⟨w.heap.size, 3, none⟩ = some (.int .i64 d.bad)) ∧ (W.cell? ⟨w.heap.size + 1, 0, none⟩ = some ul ∧ W.cell? ⟨w.heap.size + 1, 1, none⟩ = some um ∧ W.cell? ⟨w.heap.size + 1, 2, none⟩ = some ui ∧ W.cell? ⟨w.heap.size + 1, 3, none⟩ = some (.int .i64 f.bad))) := Lib.hid (by
    intro W hW
    have q1 := (Blk.new w 33 #[vl, vm, vi, .int .i64 d.bad]).alloc (.cells #[ul, um, ui, .int .i64 f.bad] 33)
    have q2 := Blk.new (w.alloc (.cells #[vl, vm, vi, .int .i64 d.bad] 33)) 33 #[ul, um, ui, .int .i64 f.bad]
    simp only [World.size_alloc] at q2
    rw [← hW0] at q1 q2
    exact ⟨load_agg4 (q1.below hW q1.lt), load_agg4 (q2.below hW q2.lt)⟩)
  have L1 := Lib.hid (fun W (hW : Below W0.heap.size W0 W) => light_ (h0.below hW))
  have L2 := Lib.hid (fun W (hW : Below W0.heap.size W0 W) => light_ (g0.below hW))
  have P1 := Lib.hid (fun W (hW : Below W0.heap.size W0 W) => trace_Print (h0.below hW) (t0.below hW))
  have P2 := Lib.hid (fun W (hW : Below W0.heap.size W0 W) => r15_Print (h0.below hW))
  have R1 := Lib.hid (fun W (hW : Below W0.heap.size W0 W) => trace_Right (h0.below hW))
  have R2 := Lib.hid (fun W (hW : Below W0.heap.size W0 W) => r15_Right (h0.below hW))
  have S1 := Lib.hid (fun W (hW : Below W0.heap.size W0 W) => trace_Same (h0.below hW) (g0.below hW))
  have S2 := Lib.hid (fun W (hW : Below W0.heap.size W0 W) => r15_Same (h0.below hW) (g0.below hW))
  have AL := Lib.hid (fun W (hW : Below W0.heap.size W0 W) => alive_ (t0.below hW))
  generalize bs (prT d) = pt at *
  generalize prF d = pf at *
  generalize rightT d = rt at *
  generalize sameT d f = st at *
  unfold trV at *
  subst hv1 hv2 hv3 hu1 hu2 hu3
  generalize d.lat.length = n1 at *
  generalize d.mems.length = n2 at *
  generalize d.ins.length = n3 at *
  generalize d.bad = bd at *
  generalize f.lat.length = m1 at *
  generalize f.mems.length = m2 at *
  generalize f.ins.length = m3 at *
  generalize f.bad = bf at *
  obtain ⟨⟨k0, k1, k2, k3⟩, k4, k5, k6, k7⟩ := KB.out _ (Below.refl _ _)
  have H0 : Hid (Below W0.heap.size W0 W0) := Lib.hid (Below.refl _ _)
  have HQ := Lib.hid hW0
  clear h g h0 g0 t0 hb0 ht
  go_enter Tryd.func4, Tryd.ntmps4
  go_wp2_with fail
  rw [← HQ.out]
  refine (L1.out _ H0.out).mono ?_
  rintro e w1 ⟨⟨b1, rfl⟩, q1⟩
  have B1 := Lib.hid (after H0.out q1)
  clear q1 hW0
  obtain ⟨⟨r0, r1, r2, r3⟩, r4, r5, r6, r7⟩ := KB.out _ B1.out
  cases b1 with
  | false =>
    go_wp2_with fail
    refine (AL.out _ B1.out).mono ?_
    rintro e w2 ⟨rfl, q2⟩
    have B2 := Lib.hid (HW.out.trans ((after B1.out q2).mono HW.out.size))
    clear q2
    go_wp2
    go_ret
    exact ⟨rfl, B2.out⟩
  | true =>
    go_wp2_with fail
    refine (L2.out _ B1.out).mono ?_
    rintro e w2 ⟨⟨b2, rfl⟩, q2⟩
    have B2 := Lib.hid (after B1.out q2)
    clear q2 r0 r1 r2 r3 r4 r5 r6 r7 k0 k1 k2 k3 k4 k5 k6 k7
    obtain ⟨⟨r0, r1, r2, r3⟩, r4, r5, r6, r7⟩ := KB.out _ B2.out
    cases b2 with
    | false =>
      go_wp2_with fail
      refine (AL.out _ B2.out).mono ?_
      rintro e w3 ⟨rfl, q3⟩
      have B3 := Lib.hid (HW.out.trans ((after B2.out q3).mono HW.out.size))
      clear q3
      go_wp2
      go_ret
      exact ⟨rfl, B3.out⟩
    | true =>
      go_wp2_with fail
      refine (P1.out _ B2.out).mono ?_
      rintro e w3 ⟨rfl, q3⟩
      have B3 := Lib.hid (after B2.out q3)
      clear q3 r0 r1 r2 r3 r4 r5 r6 r7
      obtain ⟨⟨r0, r1, r2, r3⟩, r4, r5, r6, r7⟩ := KB.out _ B3.out
      go_wp2_with fail
      refine (P2.out _ B3.out).mono ?_
      rintro e w4 ⟨rfl, q4⟩
      have B4 := Lib.hid (after B3.out q4)
      clear q4 r0 r1 r2 r3 r4 r5 r6 r7
      obtain ⟨⟨r0, r1, r2, r3⟩, r4, r5, r6, r7⟩ := KB.out _ B4.out
      have B4d : Hid (Below W0.heap.size W0 w4.drew) := Lib.hid B4.out.drew
      go_wp2_with fail
      go_region_held3 (fun w' => w'.cell? ⟨w.heap.size, 0, none⟩ = some (.slice a1 n1 c1) ∧ w'.cell? ⟨w.heap.size, 1, none⟩ = some (.slice a2 n2 c2) ∧ w'.cell? ⟨w.heap.size, 2, none⟩ = some (.slice a3 n3 c3) ∧ w'.cell? ⟨w.heap.size, 3, none⟩ = some (.int .i64 bd) ∧ w'.cell? ⟨w.heap.size + 1, 0, none⟩ = some (.slice a4 m1 c4) ∧ w'.cell? ⟨w.heap.size + 1, 1, none⟩ = some (.slice a5 m2 c5) ∧ w'.cell? ⟨w.heap.size + 1, 2, none⟩ = some (.slice a6 m3 c6) ∧ w'.cell? ⟨w.heap.size + 1, 3, none⟩ = some (.int .i64 bf)) (go_keep) (first
        | (go_at_call 11; refine (R1.out _ B4d.out).mono ?_; rintro e wa ⟨rfl, hq⟩; have Q1 := Lib.hid (after B4d.out hq); obtain ⟨⟨s0, s1, s2, s3⟩, s4, s5, s6, s7⟩ := KB.out _ Q1.out; clear hq)
        | (go_at_call 12; refine (R2.out _ Q1.out).mono ?_; rintro e wb ⟨rfl, hq⟩; have Q2 := Lib.hid (after Q1.out hq); obtain ⟨⟨t0, t1, t2, t3⟩, t4, t5, t6, t7⟩ := KB.out _ Q2.out; clear hq)
        | (go_at_call 13; refine (S1.out _ Q2.out).mono ?_; rintro e wc ⟨rfl, hq⟩; have Q3 := Lib.hid (after Q2.out hq); obtain ⟨⟨x0, x1, x2, x3⟩, x4, x5, x6, x7⟩ := KB.out _ Q3.out; clear hq)
        | (go_at_call 14; refine (S2.out _ Q3.out).mono ?_; rintro e wd ⟨rfl, hq⟩; have Q4 := Lib.hid (after Q3.out hq); obtain ⟨⟨y0, y1, y2, y3⟩, y4, y5, y6, y7⟩ := KB.out _ Q4.out; clear hq)
        | (go_at_call 5; refine (AL.out _ Q4.out).mono ?_; rintro e we ⟨rfl, hq⟩; have Q5 := Lib.hid (after Q4.out hq); obtain ⟨⟨z0, z1, z2, z3⟩, z4, z5, z6, z7⟩ := KB.out _ Q5.out; clear hq))
      go_wp2
      go_ret
      exact ⟨by simp, HW.out.trans (Q5.out.mono HW.out.size)⟩
end Go.Proofs.YtibinmabdidecaaDoor
