/-
  slices.EqualFunc at the lists of a witness; package trace's Same.
-/
import Derived.Test.YtibinmabdidecaaGreatDoorTrI
namespace Go.Proofs.YtibinmabdidecaaGreatDoor
open Go.ChangeShapes Go.WideShapes Go.ChangeAt Go.RowKit
set_option linter.unusedVariables false
theorem clCC {w : World} {v u : Value} {xs ys : CS} (h : Pairs w v xs) (g : Pairs w u ys) : Calls Tryz.prog 31 #[v, u] w fun e w' => e = .returned (.bool (decide (xs = ys))) ∧ Quiet w w' := by
  have HE := Lib.hid (eq_C h g)
  generalize decide (xs = ys) = ans at *
  clear h g
  go_enter Tryz.func31, Tryz.ntmps31
  go_wp2_with fail
  refine HE.out.mono ?_
  rintro e w1 ⟨rfl, hq⟩
  go_wp2
  go_ret
  exact ⟨rfl, hq⟩
theorem eqfCC_len {w : World} {v u : Value} {xs ys : List (CS)} (h : Seq w 1 CesR [] v xs) (g : Seq w 1 CesR [] u ys) (hn : xs.length ≠ ys.length) : Calls Tryz.prog 30 #[v, u, .func (.func 31) #[] #[]] w fun e w' => e = .returned (.bool (decide (xs = ys))) ∧ w = w' := by
  obtain ⟨a, cap, rfl, -, -⟩ := h.form
  obtain ⟨b, cap2, rfl, -, -⟩ := g.form
  have hs : decide (xs = ys) = false := decide_eq_false fun e => hn (by rw [e])
  have hb : ((xs.length : Int) != (ys.length : Int)) = true := by rw [bne_iff_ne]; omega
  rw [hs]
  clear h g hn hs
  go_enter Tryz.func30, Tryz.ntmps30
  go_wp2
  go_ret
  exact ⟨rfl, rfl⟩
set_option maxHeartbeats 1000000 in
theorem eqfCC {w : World} {v u : Value} {xs ys : List (CS)} (h : Seq w 1 CesR [] v xs) (g : Seq w 1 CesR [] u ys) : Calls Tryz.prog 30 #[v, u, .func (.func 31) #[] #[]] w fun e w' => e = .returned (.bool (decide (xs = ys))) ∧ Quiet w w' := by
  by_cases hl : xs.length = ys.length
  · obtain ⟨a, cap, hv, hc1, hc2⟩ := h.form
    obtain ⟨b, cap2, hu, -, -⟩ := g.form
    subst hv hu
    obtain ⟨n, hn⟩ : ∃ n, n = xs.length := ⟨_, rfl⟩
    obtain ⟨ans, hans⟩ : ∃ ans, ans = decide (xs = ys) := ⟨_, rfl⟩
    have hm : n ≤ 9223372036854775807 := by rw [hn]; exact Nat.le_trans hc1 hc2
    rw [← hl, ← hn, ← hans]
    have HN := Lib.hid hn
    have HL := Lib.hid hl
    have HA := Lib.hid hans
    have H := Lib.hid h
    have G := Lib.hid g
    have eg : ∀ args w, (callFunc 31 args).run Tryz.prog w = .ok (.enter 31 args) w := enters_of Tryz.func31 (by kernel_rfl) rfl
    clear hc1 hc2 hn hans hl h g
    go_enter Tryz.func30, Tryz.ntmps30
    go_wp2
    go_loopw [17] (fun i wr => ∃ k : Nat, k ≤ n ∧ i = .int .i64 k ∧ SamR [] xs ys k w wr) (fun i _ => n - (intOf i).toNat)
    case atStart => exact ⟨0, Nat.zero_le _, rfl, fun _ h => absurd h (by omega), 0, rfl⟩
    case round =>
      obtain ⟨k, hk, rfl, hsr⟩ := hrel
      obtain ⟨hsk, hq⟩ := hsr
      have HQ := Lib.hid hq
      by_cases hlt : (k : Int) < (n : Int)
      · have hkx : k < xs.length := by have := HN.out; omega
        have hky : k < ys.length := by have := HL.out; omega
        obtain ⟨b1, o1, p1, he1, z1, hx, hp1⟩ := H.out.at_ hkx
        obtain ⟨b2, o2, p2, he2, z2, hy, hp2⟩ := G.out.at_ hky
        injection he1 with e1 e2 e3
        subst e1
        injection he2 with e4 e5 e6
        subst e4
        have hx := cell_below hx hq.below
        have hy := cell_below hy hq.below
        have hp1 := hp1.below hq.below
        have hp2 := hp2.below hq.below
        rw [Nat.mul_one] at hx hy
        have HC := Lib.hid (clCC hp1 hp2)
        have HS := Lib.hid hsk
        have HNO : Hid (xs.getD k [] ≠ ys.getD k [] → ans = false) := Lib.hid fun h => by rw [HA.out]; exact decide_eq_false fun e => h (by rw [e])
        have HYES : Hid (xs.getD k [] = ys.getD k [] → SameK [] xs ys (k + 1)) := Lib.hid fun h => HS.out.step h
        clear e2 e3 e5 e6 hsk hq hp1 hp2
        generalize xs.getD k [] = x at *
        generalize ys.getD k [] = y at *
        by_cases hxy : x = y
        · have HY := Lib.hid (HYES.out hxy)
          rw [decide_eq_true hxy] at HC
          clear HYES HNO hxy
          go_wp2_with fail
          refine HC.out.mono ?_
          rintro e w1 ⟨rfl, hq1⟩
          have HQ1 : Hid (Quiet w w1) := Lib.hid (by
            obtain ⟨m, rfl⟩ := HQ.out
            obtain ⟨m', rfl⟩ := hq1
            exact ⟨_, World.drewN_drewN _ _ _⟩)
          clear hq1
          go_wp2
          go_roundw
          case rel => exact ⟨k + 1, by omega, by go_num, HY.out, HQ1.out⟩
          case measure => simp [intOf]; omega
        · have HX := Lib.hid (HNO.out hxy)
          rw [decide_eq_false hxy] at HC
          clear HYES HNO hxy
          go_wp2_with fail
          refine HC.out.mono ?_
          rintro e w1 ⟨rfl, hq1⟩
          have HQ1 : Hid (Quiet w w1) := Lib.hid (by
            obtain ⟨m, rfl⟩ := HQ.out
            obtain ⟨m', rfl⟩ := hq1
            exact ⟨_, World.drewN_drewN _ _ _⟩)
          clear hq1
          go_wp2
          go_ret
          exact ⟨by rw [HX.out]; rfl, HQ1.out⟩
      · have hkn : k = n := by omega
        have HX : Hid (ans = true) := Lib.hid (by rw [HA.out]; exact decide_eq_true (ext_D [] HL.out (fun j hj => hsk j (by have := HN.out; omega))))
        clear hsk hq hkn
        go_wp2
        go_ret
        exact ⟨by rw [HX.out]; rfl, HQ.out⟩
  · exact (eqfCC_len h g hl).mono fun e w' ⟨h1, h2⟩ => ⟨h1, 0, h2.symm⟩
theorem clBB {w : World} {v u : Value} {xs ys : List Bool} (h : Bo w v xs) (g : Bo w u ys) : Calls Tryz.prog 34 #[v, u] w fun e w' => e = .returned (.bool (decide (xs = ys))) ∧ Quiet w w' := by
  have HE := Lib.hid (eq_B h g)
  generalize decide (xs = ys) = ans at *
  clear h g
  go_enter Tryz.func34, Tryz.ntmps34
  go_wp2_with fail
  refine HE.out.mono ?_
  rintro e w1 ⟨rfl, hq⟩
  go_wp2
  go_ret
  exact ⟨rfl, hq⟩
theorem eqfBB_len {w : World} {v u : Value} {xs ys : List (List Bool)} (h : Seq w 1 BosR [] v xs) (g : Seq w 1 BosR [] u ys) (hn : xs.length ≠ ys.length) : Calls Tryz.prog 33 #[v, u, .func (.func 34) #[] #[]] w fun e w' => e = .returned (.bool (decide (xs = ys))) ∧ w = w' := by
  obtain ⟨a, cap, rfl, -, -⟩ := h.form
  obtain ⟨b, cap2, rfl, -, -⟩ := g.form
  have hs : decide (xs = ys) = false := decide_eq_false fun e => hn (by rw [e])
  have hb : ((xs.length : Int) != (ys.length : Int)) = true := by rw [bne_iff_ne]; omega
  rw [hs]
  clear h g hn hs
  go_enter Tryz.func33, Tryz.ntmps33
  go_wp2
  go_ret
  exact ⟨rfl, rfl⟩
set_option maxHeartbeats 1000000 in
theorem eqfBB {w : World} {v u : Value} {xs ys : List (List Bool)} (h : Seq w 1 BosR [] v xs) (g : Seq w 1 BosR [] u ys) : Calls Tryz.prog 33 #[v, u, .func (.func 34) #[] #[]] w fun e w' => e = .returned (.bool (decide (xs = ys))) ∧ Quiet w w' := by
  by_cases hl : xs.length = ys.length
  · obtain ⟨a, cap, hv, hc1, hc2⟩ := h.form
    obtain ⟨b, cap2, hu, -, -⟩ := g.form
    subst hv hu
    obtain ⟨n, hn⟩ : ∃ n, n = xs.length := ⟨_, rfl⟩
    obtain ⟨ans, hans⟩ : ∃ ans, ans = decide (xs = ys) := ⟨_, rfl⟩
    have hm : n ≤ 9223372036854775807 := by rw [hn]; exact Nat.le_trans hc1 hc2
    rw [← hl, ← hn, ← hans]
    have HN := Lib.hid hn
    have HL := Lib.hid hl
    have HA := Lib.hid hans
    have H := Lib.hid h
    have G := Lib.hid g
    have eg : ∀ args w, (callFunc 34 args).run Tryz.prog w = .ok (.enter 34 args) w := enters_of Tryz.func34 (by kernel_rfl) rfl
    clear hc1 hc2 hn hans hl h g
    go_enter Tryz.func33, Tryz.ntmps33
    go_wp2
    go_loopw [17] (fun i wr => ∃ k : Nat, k ≤ n ∧ i = .int .i64 k ∧ SamR [] xs ys k w wr) (fun i _ => n - (intOf i).toNat)
    case atStart => exact ⟨0, Nat.zero_le _, rfl, fun _ h => absurd h (by omega), 0, rfl⟩
    case round =>
      obtain ⟨k, hk, rfl, hsr⟩ := hrel
      obtain ⟨hsk, hq⟩ := hsr
      have HQ := Lib.hid hq
      by_cases hlt : (k : Int) < (n : Int)
      · have hkx : k < xs.length := by have := HN.out; omega
        have hky : k < ys.length := by have := HL.out; omega
        obtain ⟨b1, o1, p1, he1, z1, hx, hp1⟩ := H.out.at_ hkx
        obtain ⟨b2, o2, p2, he2, z2, hy, hp2⟩ := G.out.at_ hky
        injection he1 with e1 e2 e3
        subst e1
        injection he2 with e4 e5 e6
        subst e4
        have hx := cell_below hx hq.below
        have hy := cell_below hy hq.below
        have hp1 : Bo wr z1 (xs.getD k []) := hp1.below stays_bo hq.below
        have hp2 : Bo wr z2 (ys.getD k []) := hp2.below stays_bo hq.below
        rw [Nat.mul_one] at hx hy
        have HC := Lib.hid (clBB hp1 hp2)
        have HS := Lib.hid hsk
        have HNO : Hid (xs.getD k [] ≠ ys.getD k [] → ans = false) := Lib.hid fun h => by rw [HA.out]; exact decide_eq_false fun e => h (by rw [e])
        have HYES : Hid (xs.getD k [] = ys.getD k [] → SameK [] xs ys (k + 1)) := Lib.hid fun h => HS.out.step h
        clear e2 e3 e5 e6 hsk hq hp1 hp2
        generalize xs.getD k [] = x at *
        generalize ys.getD k [] = y at *
        by_cases hxy : x = y
        · have HY := Lib.hid (HYES.out hxy)
          rw [decide_eq_true hxy] at HC
          clear HYES HNO hxy
          go_wp2_with fail
          refine HC.out.mono ?_
          rintro e w1 ⟨rfl, hq1⟩
          have HQ1 : Hid (Quiet w w1) := Lib.hid (by
            obtain ⟨m, rfl⟩ := HQ.out
            obtain ⟨m', rfl⟩ := hq1
            exact ⟨_, World.drewN_drewN _ _ _⟩)
          clear hq1
          go_wp2
          go_roundw
          case rel => exact ⟨k + 1, by omega, by go_num, HY.out, HQ1.out⟩
          case measure => simp [intOf]; omega
        · have HX := Lib.hid (HNO.out hxy)
          rw [decide_eq_false hxy] at HC
          clear HYES HNO hxy
          go_wp2_with fail
          refine HC.out.mono ?_
          rintro e w1 ⟨rfl, hq1⟩
          have HQ1 : Hid (Quiet w w1) := Lib.hid (by
            obtain ⟨m, rfl⟩ := HQ.out
            obtain ⟨m', rfl⟩ := hq1
            exact ⟨_, World.drewN_drewN _ _ _⟩)
          clear hq1
          go_wp2
          go_ret
          exact ⟨by rw [HX.out]; rfl, HQ1.out⟩
      · have hkn : k = n := by omega
        have HX : Hid (ans = true) := Lib.hid (by rw [HA.out]; exact decide_eq_true (ext_D [] HL.out (fun j hj => hsk j (by have := HN.out; omega))))
        clear hsk hq hkn
        go_wp2
        go_ret
        exact ⟨by rw [HX.out]; rfl, HQ.out⟩
  · exact (eqfBB_len h g hl).mono fun e w' ⟨h1, h2⟩ => ⟨h1, 0, h2.symm⟩
theorem Quiet.refl (w : World) : Quiet w w := ⟨0, rfl⟩
theorem Quiet.trans {a b c : World} (h : Quiet a b) (g : Quiet b c) : Quiet a c := by
  obtain ⟨n, rfl⟩ := h
  obtain ⟨m, rfl⟩ := g
  exact ⟨_, World.drewN_drewN _ _ _⟩
def sameT (d e : TrD) : Bool := decide (d.bad = e.bad ∧ d.lat = e.lat ∧ d.mems = e.mems ∧ d.ins = e.ins)
set_option maxHeartbeats 2000000 in
theorem trace_Same {w : World} {d e : TrD} {vl vm vi ul um ui : Value} (h : TrP w d vl vm vi) (g : TrP w e ul um ui) : Calls Tryz.prog 11 #[trV d vl vm vi, trV e ul um ui] w fun e' w' => e' = .returned (.bool (sameT d e)) ∧ Below w.heap.size w w' := by
  have HB0 : Hid (∀ x y, Below w.heap.size w ((w.alloc x).alloc y)) := Lib.hid fun x y => ((Below.refl _ _).alloc (Nat.le_refl _) _).alloc (by simp) _
  have E1 := Lib.hid (fun w' (hb : Below w.heap.size w w') => eq_B (h.lat.below stays_bo hb) (g.lat.below stays_bo hb))
  have E2 := Lib.hid (fun w' (hb : Below w.heap.size w w') => eqfCC (h.mems.below stays_ces hb) (g.mems.below stays_ces hb))
  have E3 := Lib.hid (fun w' (hb : Below w.heap.size w w') => eqfBB (h.ins.below stays_bos hb) (g.ins.below stays_bos hb))
  have HS : Hid (sameT d e = (decide (d.bad = e.bad) && (decide (d.lat = e.lat) && (decide (d.mems = e.mems) && decide (d.ins = e.ins))))) := Lib.hid (by unfold sameT; simp only [Bool.decide_and])
  obtain ⟨ans, hans⟩ : ∃ ans, ans = sameT d e := ⟨_, rfl⟩
  rw [← hans] at HS ⊢
  obtain ⟨a1, c1, rfl⟩ := h.lat.len
  obtain ⟨a2, c2, rfl, -, -⟩ := h.mems.form
  obtain ⟨a3, c3, rfl, -, -⟩ := h.ins.form
  obtain ⟨a4, c4, rfl⟩ := g.lat.len
  obtain ⟨a5, c5, rfl, -, -⟩ := g.mems.form
  obtain ⟨a6, c6, rfl, -, -⟩ := g.ins.form
  unfold trV
  obtain ⟨d1, d2, d3, d4⟩ := d
  obtain ⟨f1, f2, f3, f4⟩ := e
  simp only at *
  clear h g hans
  generalize decide (d1 = f1) = r1 at *
  generalize decide (d2 = f2) = r2 at *
  generalize decide (d3 = f3) = r3 at *
  generalize d1.length = n1 at *
  generalize d2.length = n2 at *
  generalize d3.length = n3 at *
  generalize f1.length = m1 at *
  generalize f2.length = m2 at *
  generalize f3.length = m3 at *
  have K : Hid (∀ W, Quiet ((w.alloc (.cells #[.slice a1 n1 c1, .slice a2 n2 c2, .slice a3 n3 c3, .int .i64 d4] 29)).alloc (.cells #[.slice a4 m1 c4, .slice a5 m2 c5, .slice a6 m3 c6, .int .i64 f4] 29)) W → W.cell? ⟨w.heap.size, 1, none⟩ = some (.slice a2 n2 c2) ∧ W.cell? ⟨w.heap.size, 2, none⟩ = some (.slice a3 n3 c3) ∧ W.cell? ⟨w.heap.size + 1, 1, none⟩ = some (.slice a5 m2 c5) ∧ W.cell? ⟨w.heap.size + 1, 2, none⟩ = some (.slice a6 m3 c6)) := Lib.hid (by
    rintro W ⟨n, rfl⟩
    have q1 := (Blk.new w 29 #[.slice a1 n1 c1, .slice a2 n2 c2, .slice a3 n3 c3, .int .i64 d4]).alloc (.cells #[.slice a4 m1 c4, .slice a5 m2 c5, .slice a6 m3 c6, .int .i64 f4] 29)
    have q2 := Blk.new (w.alloc (.cells #[.slice a1 n1 c1, .slice a2 n2 c2, .slice a3 n3 c3, .int .i64 d4] 29)) 29 #[.slice a4 m1 c4, .slice a5 m2 c5, .slice a6 m3 c6, .int .i64 f4]
    have q3 := q2.cell 1
    have q4 := q2.cell 2
    simp only [World.size_alloc] at q3 q4
    exact ⟨q1.cell 1, q1.cell 2, q3, q4⟩)
  by_cases hb : d4 = f4
  · have hbb : (d4 == f4) = true := by rw [beq_iff_eq]; exact hb
    rw [decide_eq_true hb, Bool.true_and] at HS
    clear hb
    go_enter Tryz.func11, Tryz.ntmps11
    go_wp2_with fail
    refine (E1.out _ (HB0.out _ _)).mono ?_
    rintro e' w1 ⟨rfl, hq1⟩
    obtain ⟨k1, k2, k3, k4⟩ := K.out _ hq1
    have B1 := Lib.hid ((HB0.out _ _).trans (hq1.below.mono (HB0.out _ _).size))
    have Q1 := Lib.hid hq1
    clear hq1
    cases r1 with
    | false =>
      go_wp2
      go_ret
      exact ⟨by rw [HS.out]; rfl, B1.out⟩
    | true =>
      go_wp2_with fail
      refine (E2.out _ B1.out).mono ?_
      rintro e' w2 ⟨rfl, hq2⟩
      obtain ⟨k5, k6, k7, k8⟩ := K.out _ (Q1.out.trans hq2)
      have B2 := Lib.hid (B1.out.trans (hq2.below.mono B1.out.size))
      clear hq2
      cases r2 with
      | false =>
        go_wp2
        go_ret
        exact ⟨by rw [HS.out]; rfl, B2.out⟩
      | true =>
        go_wp2_with fail
        refine (E3.out _ B2.out).mono ?_
        rintro e' w3 ⟨rfl, hq3⟩
        have B3 := Lib.hid (B2.out.trans (hq3.below.mono B2.out.size))
        clear hq3
        go_wp2
        go_ret
        exact ⟨by rw [HS.out]; rfl, B3.out⟩
  · have hbb : (d4 == f4) = false := by rw [beq_eq_false_iff_ne]; exact hb
    rw [decide_eq_false hb, Bool.false_and] at HS
    clear hb
    go_enter Tryz.func11, Tryz.ntmps11
    go_wp2
    go_ret
    exact ⟨by rw [HS.out]; rfl, HB0.out _ _⟩
end Go.Proofs.YtibinmabdidecaaGreatDoor
