/-
  The document's Same of witnesses.
-/
import Derived.Test.YtibinmabdidecaaGreatDoorTrJ
namespace Go.Proofs.YtibinmabdidecaaGreatDoor
open Go.ChangeShapes Go.WideShapes Go.ChangeAt Go.RowKit
set_option linter.unusedVariables false
set_option maxHeartbeats 2000000 in
theorem r12_Same {w : World} {xl yl : List Bool} {xm ym : List CS} {vl vm ul um : Value} (h1 : Bo w vl xl) (h2 : Ces w vm xm) (g1 : Bo w ul yl) (g2 : Ces w um ym) :
    Calls Tryz.prog 23 #[.agg #[vl, vm], .agg #[ul, um]] w fun e w' => e = .returned (.bool (decide (xl = yl) && decide (xm = ym))) ∧ Below w.heap.size w w' := by
  have HB0 : Hid (∀ x y, Below w.heap.size w ((w.alloc x).alloc y)) := Lib.hid fun x y => ((Below.refl _ _).alloc (Nat.le_refl _) _).alloc (by simp) _
  have E1 := Lib.hid (fun w' (hb : Below w.heap.size w w') => r10_Same (h1.below stays_bo hb) (g1.below stays_bo hb))
  have H := Lib.hid h2
  have G := Lib.hid g2
  obtain ⟨a1, c1, rfl⟩ := h1.len
  obtain ⟨a2, c2, rfl, hl1, hl2⟩ := h2.form
  obtain ⟨a4, c4, rfl⟩ := g1.len
  obtain ⟨a5, c5, rfl, -, -⟩ := g2.form
  clear h1 h2 g1 g2
  generalize decide (xl = yl) = r1 at *
  generalize xl.length = n1 at *
  generalize yl.length = m1 at *
  obtain ⟨n2, hn⟩ : ∃ n, n = xm.length := ⟨_, rfl⟩
  obtain ⟨m2, hm⟩ : ∃ n, n = ym.length := ⟨_, rfl⟩
  have hbig : n2 ≤ 9223372036854775807 := by rw [hn]; exact Nat.le_trans hl1 hl2
  rw [← hn, ← hm]
  have HN := Lib.hid hn
  have HM := Lib.hid hm
  obtain ⟨ans, hans⟩ : ∃ ans, ans = decide (xm = ym) := ⟨_, rfl⟩
  rw [← hans]
  have HA := Lib.hid hans
  clear hn hm hans hl1 hl2
  obtain ⟨W0, hW0⟩ : ∃ W0, W0 = (w.alloc (.cells #[.slice a1 n1 c1, .slice a2 n2 c2] 26)).alloc (.cells #[.slice a4 m1 c4, .slice a5 m2 c5] 26) := ⟨_, rfl⟩
  have K : Hid (∀ W, Quiet W0 W → W.cell? ⟨w.heap.size, 1, none⟩ = some (.slice a2 n2 c2) ∧ W.cell? ⟨w.heap.size + 1, 1, none⟩ = some (.slice a5 m2 c5)) := Lib.hid (by
    rintro W ⟨n, rfl⟩
    rw [hW0]
    have q1 := (Blk.new w 26 #[.slice a1 n1 c1, .slice a2 n2 c2]).alloc (.cells #[.slice a4 m1 c4, .slice a5 m2 c5] 26)
    have q2 := Blk.new (w.alloc (.cells #[.slice a1 n1 c1, .slice a2 n2 c2] 26)) 26 #[.slice a4 m1 c4, .slice a5 m2 c5]
    have q3 := q2.cell 1
    simp only [World.size_alloc] at q3
    exact ⟨q1.cell 1, q3⟩)
  have HBW : Hid (Below w.heap.size w W0) := Lib.hid (by rw [hW0]; exact HB0.out _ _)
  have EW := Lib.hid (E1.out _ HBW.out)
  have HW := Lib.hid hW0
  rw [hW0] at EW
  clear hW0
  go_enter Tryz.func23, Tryz.ntmps23
  go_wp2_with fail
  refine EW.out.mono ?_
  rintro e' w1 ⟨rfl, hq1⟩
  rw [← HW.out] at hq1
  obtain ⟨k1, k2⟩ := K.out _ hq1
  have Q1 := Lib.hid hq1
  clear hq1 EW
  cases r1 with
  | false =>
    go_wp2
    go_ret
    exact ⟨rfl, HBW.out.trans (Q1.out.below.mono HBW.out.size)⟩
  | true =>
    by_cases hl : n2 = m2
    · have hb : ((n2 : Int) != (m2 : Int)) = false := by rw [hl]; simp
      have HL : Hid (xm.length = ym.length) := Lib.hid (by rw [← HN.out, ← HM.out]; exact hl)
      clear hl
      go_wp2
      go_loopw [5] (fun i wr => ∃ k : Nat, k ≤ n2 ∧ i = .int .i64 k ∧ SamR [] xm ym k W0 wr) (fun i _ => n2 - (intOf i).toNat)
      case atStart => exact ⟨0, Nat.zero_le _, rfl, fun _ h => absurd h (by omega), Q1.out⟩
      case round =>
        obtain ⟨k, hk, rfl, hsr⟩ := hrel
        obtain ⟨hsk, hq⟩ := hsr
        clear k1 k2 hb
        obtain ⟨k1, k2⟩ := K.out _ hq
        have HQ := Lib.hid hq
        have hbw := HBW.out.trans (hq.below.mono HBW.out.size)
        by_cases hlt : (k : Int) < (n2 : Int)
        · have hkx : k < xm.length := by have := HN.out; omega
          have hky : k < ym.length := by have := HL.out; omega
          have hky' : (k : Int) < (m2 : Int) := by have := HM.out; omega
          obtain ⟨b1, o1, p1, he1, z1, hx, hp1⟩ := H.out.at_ hkx
          obtain ⟨b2, o2, p2, he2, z2, hy, hp2⟩ := G.out.at_ hky
          injection he1 with e1 e2 e3
          subst e1
          injection he2 with e4 e5 e6
          subst e4
          have hx := cell_below hx hbw
          have hy := cell_below hy hbw
          have hp1 : Pairs wr z1 (xm.getD k []) := hp1.below hbw
          have hp2 : Pairs wr z2 (ym.getD k []) := hp2.below hbw
          rw [Nat.mul_one] at hx hy
          have HC : Hid (∀ n, Calls Tryz.prog 51 #[z1, z2] (wr.drewN n) fun e w' => e = .returned (.bool (sameC (xm.getD k []) (ym.getD k []))) ∧ Quiet (wr.drewN n) w') := Lib.hid fun n => r11_Same (w := wr.drewN n) hp1 hp2
          unfold sameC at HC
          have HS := Lib.hid hsk
          have HNO : Hid (xm.getD k [] ≠ ym.getD k [] → ans = false) := Lib.hid fun h => by rw [HA.out]; exact decide_eq_false fun e => h (by rw [e])
          have HYES : Hid (xm.getD k [] = ym.getD k [] → SameK [] xm ym (k + 1)) := Lib.hid fun h => HS.out.step h
          clear e2 e3 e5 e6 hsk hq hp1 hp2 hbw
          generalize xm.getD k [] = x at *
          generalize ym.getD k [] = y at *
          by_cases hxy : x = y
          · have HY := Lib.hid (HYES.out hxy)
            rw [decide_eq_true hxy] at HC
            clear HYES HNO hxy
            go_wp2
            go_quiet ((go_at_call 51; exact Calls.quiet_of ((HC.out _).mono fun _ _ h => h)))
            go_wp2
            go_roundw
            case rel => exact ⟨k + 1, by omega, by go_num, HY.out, HQ.out.trans ⟨_, rfl⟩⟩
            case measure => simp [intOf]; omega
          · have HX := Lib.hid (HNO.out hxy)
            rw [decide_eq_false hxy] at HC
            clear HYES HNO hxy
            go_wp2
            go_quiet ((go_at_call 51; exact Calls.quiet_of ((HC.out _).mono fun _ _ h => h)))
            go_wp2
            go_ret
            exact ⟨by rw [HX.out]; rfl, HBW.out.trans ((HQ.out.trans ⟨_, rfl⟩).below.mono HBW.out.size)⟩
        · have hkn : k = n2 := by omega
          have HX : Hid (ans = true) := Lib.hid (by rw [HA.out]; exact decide_eq_true (ext_D [] HL.out (fun j hj => hsk j (by have := HN.out; omega))))
          clear hsk hq hkn hbw
          go_wp2
          go_ret
          exact ⟨by rw [HX.out]; rfl, HBW.out.trans (HQ.out.below.mono HBW.out.size)⟩
    · have hb : ((n2 : Int) != (m2 : Int)) = true := by rw [bne_iff_ne]; omega
      have HX : Hid (ans = false) := Lib.hid (by rw [HA.out]; exact decide_eq_false fun e => hl (by rw [HN.out, HM.out, e]))
      clear hl
      go_wp2
      go_ret
      exact ⟨by rw [HX.out]; rfl, HBW.out.trans (Q1.out.below.mono HBW.out.size)⟩
set_option maxHeartbeats 2000000 in
theorem r15_Same {w : World} {d e : TrD} {vl vm vi ul um ui : Value} (h : TrP w d vl vm vi) (g : TrP w e ul um ui) : Calls Tryz.prog 8 #[trV d vl vm vi, trV e ul um ui] w fun e' w' => e' = .returned (.bool (sameT d e)) ∧ Below w.heap.size w w' := by
  have HB0 : Hid (∀ x y, Below w.heap.size w ((w.alloc x).alloc y)) := Lib.hid fun x y => ((Below.refl _ _).alloc (Nat.le_refl _) _).alloc (by simp) _
  have E1 := Lib.hid (fun w' (hb : Below w.heap.size w w') => r12_Same (h.lat.below stays_bo hb) (h.mems.below stays_ces hb) (g.lat.below stays_bo hb) (g.mems.below stays_ces hb))
  have hs : sameT d e = ((decide (d.lat = e.lat) && decide (d.mems = e.mems)) && (decide (d.ins = e.ins) && decide (d.bad = e.bad))) := by
    unfold sameT
    simp only [Bool.decide_and]
    cases decide (d.bad = e.bad) <;> cases decide (d.lat = e.lat) <;> cases decide (d.mems = e.mems) <;> cases decide (d.ins = e.ins) <;> rfl
  obtain ⟨ans, hans⟩ : ∃ ans, ans = sameT d e := ⟨_, rfl⟩
  rw [← hans] at hs ⊢
  have H := Lib.hid h.ins
  have G := Lib.hid g.ins
  obtain ⟨a1, c1, rfl⟩ := h.lat.len
  obtain ⟨a2, c2, rfl, -, -⟩ := h.mems.form
  obtain ⟨a3, c3, rfl, hl1, hl2⟩ := h.ins.form
  obtain ⟨a4, c4, rfl⟩ := g.lat.len
  obtain ⟨a5, c5, rfl, -, -⟩ := g.mems.form
  obtain ⟨a6, c6, rfl, -, -⟩ := g.ins.form
  unfold trV
  obtain ⟨d1, d2, d3, d4⟩ := d
  obtain ⟨f1, f2, f3, f4⟩ := e
  simp only at *
  clear h g hans
  have HS := Lib.hid hs
  clear hs
  generalize (decide (d1 = f1) && decide (d2 = f2)) = r1 at *
  generalize d1.length = n1 at *
  generalize d2.length = n2 at *
  generalize f1.length = m1 at *
  generalize f2.length = m2 at *
  obtain ⟨n3, hn⟩ : ∃ n, n = d3.length := ⟨_, rfl⟩
  obtain ⟨m3, hm⟩ : ∃ n, n = f3.length := ⟨_, rfl⟩
  have hbig : n3 ≤ 9223372036854775807 := by rw [hn]; exact Nat.le_trans hl1 hl2
  rw [← hn, ← hm]
  have HN := Lib.hid hn
  have HM := Lib.hid hm
  clear hn hm hl1 hl2
  have KB : Hid (∀ W, Below ((w.alloc (.cells #[.slice a1 n1 c1, .slice a2 n2 c2, .slice a3 n3 c3, .int .i64 d4] 29)).alloc (.cells #[.slice a4 m1 c4, .slice a5 m2 c5, .slice a6 m3 c6, .int .i64 f4] 29)).heap.size ((w.alloc (.cells #[.slice a1 n1 c1, .slice a2 n2 c2, .slice a3 n3 c3, .int .i64 d4] 29)).alloc (.cells #[.slice a4 m1 c4, .slice a5 m2 c5, .slice a6 m3 c6, .int .i64 f4] 29)) W → Blk W w.heap.size 29 #[.slice a1 n1 c1, .slice a2 n2 c2, .slice a3 n3 c3, .int .i64 d4] ∧ Blk W (w.heap.size + 1) 29 #[.slice a4 m1 c4, .slice a5 m2 c5, .slice a6 m3 c6, .int .i64 f4]) := Lib.hid (by
    intro W hW
    have q1 := (Blk.new w 29 #[.slice a1 n1 c1, .slice a2 n2 c2, .slice a3 n3 c3, .int .i64 d4]).alloc (.cells #[.slice a4 m1 c4, .slice a5 m2 c5, .slice a6 m3 c6, .int .i64 f4] 29)
    have q2 := Blk.new (w.alloc (.cells #[.slice a1 n1 c1, .slice a2 n2 c2, .slice a3 n3 c3, .int .i64 d4] 29)) 29 #[.slice a4 m1 c4, .slice a5 m2 c5, .slice a6 m3 c6, .int .i64 f4]
    simp only [World.size_alloc] at q2
    exact ⟨q1.below hW q1.lt, q2.below hW q2.lt⟩)
  go_enter Tryz.func8, Tryz.ntmps8
  go_wp2_with fail
  refine (E1.out _ (HB0.out _ _)).mono ?_
  rintro e' w1 ⟨rfl, hb1⟩
  obtain ⟨y1, y2⟩ := KB.out _ hb1
  have HBW := Lib.hid ((HB0.out _ _).trans (hb1.mono (HB0.out _ _).size))
  have K : Hid (∀ W, Quiet w1 W → W.cell? ⟨w.heap.size, 2, none⟩ = some (.slice a3 n3 c3) ∧ W.cell? ⟨w.heap.size, 3, none⟩ = some (.int .i64 d4) ∧ W.cell? ⟨w.heap.size + 1, 2, none⟩ = some (.slice a6 m3 c6) ∧ W.cell? ⟨w.heap.size + 1, 3, none⟩ = some (.int .i64 f4)) := Lib.hid (by
    rintro W ⟨n, rfl⟩
    exact ⟨y1.cell 2, y1.cell 3, y2.cell 2, y2.cell 3⟩)
  obtain ⟨k1, k2, k3, k4⟩ := K.out _ (Quiet.refl w1)
  clear hb1 y1 y2 KB E1
  cases r1 with
  | false =>
    go_wp2
    go_ret
    exact ⟨by rw [HS.out]; rfl, HBW.out⟩
  | true =>
    by_cases hl : n3 = m3
    · have hb : ((n3 : Int) != (m3 : Int)) = false := by rw [hl]; simp
      have HL : Hid (d3.length = f3.length) := Lib.hid (by rw [← HN.out, ← HM.out]; exact hl)
      clear hl
      by_cases hbd : d4 = f4
      · have hbb : (d4 != f4) = false := by rw [hbd]; simp
        have HS2 : Hid (ans = decide (d3 = f3)) := Lib.hid (by rw [HS.out, decide_eq_true hbd]; simp)
        clear hbd HS
        go_wp2
        clear hbb
        go_loopw [5] (fun i wr => ∃ k : Nat, k ≤ n3 ∧ i = .int .i64 k ∧ SamR [] d3 f3 k w1 wr) (fun i _ => n3 - (intOf i).toNat)
        case atStart => exact ⟨0, Nat.zero_le _, rfl, fun _ h => absurd h (by omega), Quiet.refl _⟩
        case round =>
          obtain ⟨k, hk, rfl, hsr⟩ := hrel
          obtain ⟨hsk, hq⟩ := hsr
          clear k1 k2 k3 k4 hb
          obtain ⟨k1, k2, k3, k4⟩ := K.out _ hq
          have HQ := Lib.hid hq
          have hbw := HBW.out.trans (hq.below.mono HBW.out.size)
          by_cases hlt : (k : Int) < (n3 : Int)
          · have hkx : k < d3.length := by have := HN.out; omega
            have hky : k < f3.length := by have := HL.out; omega
            have hky' : (k : Int) < (m3 : Int) := by have := HM.out; omega
            obtain ⟨b1, o1, p1, he1, z1, hx, hp1⟩ := H.out.at_ hkx
            obtain ⟨b2, o2, p2, he2, z2, hy, hp2⟩ := G.out.at_ hky
            injection he1 with e1 e2 e3
            subst e1
            injection he2 with e4 e5 e6
            subst e4
            have hx := cell_below hx hbw
            have hy := cell_below hy hbw
            have hp1 : Bo wr z1 (d3.getD k []) := hp1.below stays_bo hbw
            have hp2 : Bo wr z2 (f3.getD k []) := hp2.below stays_bo hbw
            rw [Nat.mul_one] at hx hy
            have HC : Hid (∀ n, Calls Tryz.prog 24 #[z1, z2] (wr.drewN n) fun e w' => e = .returned (.bool (decide (d3.getD k [] = f3.getD k []))) ∧ Quiet (wr.drewN n) w') := Lib.hid fun n => r10_Same (w := wr.drewN n) hp1 hp2
            have HS := Lib.hid hsk
            have HNO : Hid (d3.getD k [] ≠ f3.getD k [] → ans = false) := Lib.hid fun h => by rw [HS2.out]; exact decide_eq_false fun e => h (by rw [e])
            have HYES : Hid (d3.getD k [] = f3.getD k [] → SameK [] d3 f3 (k + 1)) := Lib.hid fun h => HS.out.step h
            clear e2 e3 e5 e6 hsk hq hp1 hp2 hbw
            generalize d3.getD k [] = x at *
            generalize f3.getD k [] = y at *
            by_cases hxy : x = y
            · have HY := Lib.hid (HYES.out hxy)
              rw [decide_eq_true hxy] at HC
              clear HYES HNO hxy
              go_wp2
              go_quiet ((go_at_call 24; exact Calls.quiet_of ((HC.out _).mono fun _ _ h => h)))
              go_wp2
              go_roundw
              case rel => exact ⟨k + 1, by omega, by go_num, HY.out, HQ.out.trans ⟨_, rfl⟩⟩
              case measure => simp [intOf]; omega
            · have HX := Lib.hid (HNO.out hxy)
              rw [decide_eq_false hxy] at HC
              clear HYES HNO hxy
              go_wp2
              go_quiet ((go_at_call 24; exact Calls.quiet_of ((HC.out _).mono fun _ _ h => h)))
              go_wp2
              go_ret
              exact ⟨by rw [HX.out]; rfl, HBW.out.trans ((HQ.out.trans ⟨_, rfl⟩).below.mono HBW.out.size)⟩
          · have hkn : k = n3 := by omega
            have HX : Hid (ans = true) := Lib.hid (by rw [HS2.out]; exact decide_eq_true (ext_D [] HL.out (fun j hj => hsk j (by have := HN.out; omega))))
            clear hsk hq hkn hbw
            go_wp2
            go_ret
            exact ⟨by rw [HX.out]; rfl, HBW.out.trans (HQ.out.below.mono HBW.out.size)⟩
      · have hbb : (d4 != f4) = true := by rw [bne_iff_ne]; exact hbd
        have HS2 : Hid (ans = false) := Lib.hid (by rw [HS.out, decide_eq_false hbd]; simp)
        clear hbd HS
        go_wp2
        go_ret
        exact ⟨by rw [HS2.out]; rfl, HBW.out⟩
    · have hb : ((n3 : Int) != (m3 : Int)) = true := by rw [bne_iff_ne]; omega
      have HX : Hid (ans = false) := Lib.hid (by rw [HS.out, decide_eq_false (fun e => hl (by rw [HN.out, HM.out, e]) : ¬ d3 = f3)]; simp)
      clear hl HS
      go_wp2
      go_ret
      exact ⟨by rw [HX.out]; rfl, HBW.out⟩
end Go.Proofs.YtibinmabdidecaaGreatDoor
