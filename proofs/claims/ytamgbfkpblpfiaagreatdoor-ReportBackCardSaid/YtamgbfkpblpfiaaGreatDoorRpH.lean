/-
  The same numbers: package slices' Equal, the document's; the same reports, both ways.
-/
import Derived.Test.YtamgbfkpblpfiaaGreatDoorRpC
namespace Go.Proofs.YtamgbfkpblpfiaaGreatDoor
open Go.ChangeShapes Go.WideShapes Go.ChangeAt Go.RowKit
set_option linter.unusedVariables false
def IoR (w : World) (b o : Nat) (x : Int) : Prop := w.cell? ⟨b, o, none⟩ = some (.int .i64 x)
theorem stays_io : Stays IoR := fun h hb => cell_below h hb
theorem Ints.seq {w : World} {v : Value} {l : List Int} (h : Ints w v l) : Seq w 1 IoR 0 v l := by
  obtain ⟨a, cap, rfl, -, h1, h2, h3⟩ := h
  refine ⟨a, cap, rfl, h1, h2, h3.elim .inl fun ⟨b, off, e, hc⟩ => .inr ⟨b, off, e, fun j hj => ?_⟩⟩
  rw [Nat.mul_one]
  exact hc j hj
theorem r01_Same_len {w : World} {v u : Value} {xs ys : List (Int)} (h : Seq w 1 IoR 0 v xs) (g : Seq w 1 IoR 0 u ys) (hn : xs.length ≠ ys.length) : Calls Tryz.prog 27 #[v, u] w fun e w' => e = .returned (.bool (decide (xs = ys))) ∧ w = w' := by
  obtain ⟨a, cap, rfl, -, -⟩ := h.form
  obtain ⟨b, cap2, rfl, -, -⟩ := g.form
  have hs : decide (xs = ys) = false := decide_eq_false fun e => hn (by rw [e])
  have hb : ((xs.length : Int) != (ys.length : Int)) = true := by rw [bne_iff_ne]; omega
  rw [hs]
  clear h g hn hs
  go_enter Tryz.func27, Tryz.ntmps27
  go_wp2
  go_ret
  exact ⟨rfl, rfl⟩
set_option maxHeartbeats 1000000 in
theorem r01_Same {w : World} {v u : Value} {xs ys : List (Int)} (h : Seq w 1 IoR 0 v xs) (g : Seq w 1 IoR 0 u ys) : Calls Tryz.prog 27 #[v, u] w fun e w' => e = .returned (.bool (decide (xs = ys))) ∧ Quiet w w' := by
  by_cases hl : xs.length = ys.length
  · obtain ⟨a, cap, hv, hc1, hc2⟩ := h.form
    obtain ⟨b, cap2, hu, -, -⟩ := g.form
    subst hv hu
    obtain ⟨n, hn⟩ : ∃ n, n = xs.length := ⟨_, rfl⟩
    obtain ⟨ans, hans⟩ : ∃ ans, ans = decide (xs = ys) := ⟨_, rfl⟩
    have hm : n ≤ 9223372036854775807 := by rw [hn]; exact Nat.le_trans hc1 hc2
    rw [← hl, ← hn, ← hans]
    have HN := Lib.hid hn
    have HL := Lib.hid hl
    have HA := Lib.hid hans
    have H := Lib.hid h
    have G := Lib.hid g
    clear hc1 hc2 hn hans hl h g
    go_enter Tryz.func27, Tryz.ntmps27
    go_wp2
    go_loopw [5] (fun i wr => ∃ k : Nat, k ≤ n ∧ i = .int .i64 k ∧ SamR 0 xs ys k w wr) (fun i _ => n - (intOf i).toNat)
    case atStart => exact ⟨0, Nat.zero_le _, rfl, fun _ h => absurd h (by omega), 0, rfl⟩
    case round =>
      obtain ⟨k, hk, rfl, hsr⟩ := hrel
      obtain ⟨hsk, hq⟩ := hsr
      have HQ := Lib.hid hq
      by_cases hlt : (k : Int) < (n : Int)
      · have hkx : k < xs.length := by have := HN.out; omega
        have hky : k < ys.length := by have := HL.out; omega
        obtain ⟨b1, o1, p1, he1, hx⟩ := H.out.at_ hkx
        obtain ⟨b2, o2, p2, he2, hy⟩ := G.out.at_ hky
        injection he1 with e1 e2 e3
        subst e1
        injection he2 with e4 e5 e6
        subst e4
        have hx := stays_io hx hq.below
        have hy := stays_io hy hq.below
        have HS := Lib.hid hsk
        have HNO : Hid (xs.getD k 0 ≠ ys.getD k 0 → ans = false) := Lib.hid fun h => by rw [HA.out]; exact decide_eq_false fun e => h (by rw [e])
        have HYES : Hid (xs.getD k 0 = ys.getD k 0 → SameK 0 xs ys (k + 1)) := Lib.hid fun h => HS.out.step h
        unfold IoR at hx hy
        rw [Nat.mul_one] at hx hy
        generalize xs.getD k 0 = x at hx hy HNO HYES
        generalize ys.getD k 0 = y at hx hy HNO HYES
        clear e2 e3 e5 e6 hsk hq
        by_cases hxy : x = y
        · subst hxy
          have HY := Lib.hid (HYES.out rfl)
          have hb : (x != x) = false := by simp
          clear HYES HNO
          go_wp2
          go_quiet (fail)
          go_wp2
          go_roundw
          case rel => exact ⟨k + 1, by omega, by go_num, HY.out, by obtain ⟨m, hm⟩ := HQ.out; subst hm; exact ⟨_, World.drewN_drewN _ _ _⟩⟩
          case measure => simp [intOf]; omega
        · have HX := Lib.hid (HNO.out hxy)
          have hb : (x != y) = true := by rw [bne_iff_ne]; exact hxy
          have hb' : (x == y) = false := by rw [beq_eq_false_iff_ne]; exact hxy
          clear HYES HNO hxy
          go_wp2
          go_quiet (fail)
          go_wp2
          go_ret
          refine ⟨by rw [HX.out]; rfl, ?_⟩
          obtain ⟨m, hm⟩ := HQ.out
          subst hm
          exact ⟨_, World.drewN_drewN _ _ _⟩
      · have hkn : k = n := by omega
        have HX : Hid (ans = true) := Lib.hid (by rw [HA.out]; exact decide_eq_true (ext_D 0 HL.out (fun j hj => hsk j (by have := HN.out; omega))))
        clear hsk hq hkn
        go_wp2
        go_ret
        exact ⟨by rw [HX.out]; rfl, HQ.out⟩
  · exact (r01_Same_len h g hl).mono fun e w' ⟨h1, h2⟩ => ⟨h1, 0, h2.symm⟩
theorem eq_I_len {w : World} {v u : Value} {xs ys : List (Int)} (h : Seq w 1 IoR 0 v xs) (g : Seq w 1 IoR 0 u ys) (hn : xs.length ≠ ys.length) : Calls Tryz.prog 36 #[v, u] w fun e w' => e = .returned (.bool (decide (xs = ys))) ∧ w = w' := by
  obtain ⟨a, cap, rfl, -, -⟩ := h.form
  obtain ⟨b, cap2, rfl, -, -⟩ := g.form
  have hs : decide (xs = ys) = false := decide_eq_false fun e => hn (by rw [e])
  have hb : ((xs.length : Int) != (ys.length : Int)) = true := by rw [bne_iff_ne]; omega
  rw [hs]
  clear h g hn hs
  go_enter Tryz.func36, Tryz.ntmps36
  go_wp2
  go_ret
  exact ⟨rfl, rfl⟩
set_option maxHeartbeats 1000000 in
theorem eq_I {w : World} {v u : Value} {xs ys : List (Int)} (h : Seq w 1 IoR 0 v xs) (g : Seq w 1 IoR 0 u ys) : Calls Tryz.prog 36 #[v, u] w fun e w' => e = .returned (.bool (decide (xs = ys))) ∧ Quiet w w' := by
  by_cases hl : xs.length = ys.length
  · obtain ⟨a, cap, hv, hc1, hc2⟩ := h.form
    obtain ⟨b, cap2, hu, -, -⟩ := g.form
    subst hv hu
    obtain ⟨n, hn⟩ : ∃ n, n = xs.length := ⟨_, rfl⟩
    obtain ⟨ans, hans⟩ : ∃ ans, ans = decide (xs = ys) := ⟨_, rfl⟩
    have hm : n ≤ 9223372036854775807 := by rw [hn]; exact Nat.le_trans hc1 hc2
    rw [← hl, ← hn, ← hans]
    have HN := Lib.hid hn
    have HL := Lib.hid hl
    have HA := Lib.hid hans
    have H := Lib.hid h
    have G := Lib.hid g
    clear hc1 hc2 hn hans hl h g
    go_enter Tryz.func36, Tryz.ntmps36
    go_wp2
    go_loopw [13] (fun i wr => ∃ k : Nat, k ≤ n ∧ i = .int .i64 k ∧ SamR 0 xs ys k w wr) (fun i _ => n - (intOf i).toNat)
    case atStart => exact ⟨0, Nat.zero_le _, rfl, fun _ h => absurd h (by omega), 0, rfl⟩
    case round =>
      obtain ⟨k, hk, rfl, hsr⟩ := hrel
      obtain ⟨hsk, hq⟩ := hsr
      have HQ := Lib.hid hq
      by_cases hlt : (k : Int) < (n : Int)
      · have hkx : k < xs.length := by have := HN.out; omega
        have hky : k < ys.length := by have := HL.out; omega
        obtain ⟨b1, o1, p1, he1, hx⟩ := H.out.at_ hkx
        obtain ⟨b2, o2, p2, he2, hy⟩ := G.out.at_ hky
        injection he1 with e1 e2 e3
        subst e1
        injection he2 with e4 e5 e6
        subst e4
        have hx := stays_io hx hq.below
        have hy := stays_io hy hq.below
        have HS := Lib.hid hsk
        have HNO : Hid (xs.getD k 0 ≠ ys.getD k 0 → ans = false) := Lib.hid fun h => by rw [HA.out]; exact decide_eq_false fun e => h (by rw [e])
        have HYES : Hid (xs.getD k 0 = ys.getD k 0 → SameK 0 xs ys (k + 1)) := Lib.hid fun h => HS.out.step h
        unfold IoR at hx hy
        rw [Nat.mul_one] at hx hy
        generalize xs.getD k 0 = x at hx hy HNO HYES
        generalize ys.getD k 0 = y at hx hy HNO HYES
        clear e2 e3 e5 e6 hsk hq
        by_cases hxy : x = y
        · subst hxy
          have HY := Lib.hid (HYES.out rfl)
          have hb : (x != x) = false := by simp
          clear HYES HNO
          go_wp2
          go_quiet (fail)
          go_wp2
          go_roundw
          case rel => exact ⟨k + 1, by omega, by go_num, HY.out, by obtain ⟨m, hm⟩ := HQ.out; subst hm; exact ⟨_, World.drewN_drewN _ _ _⟩⟩
          case measure => simp [intOf]; omega
        · have HX := Lib.hid (HNO.out hxy)
          have hb : (x != y) = true := by rw [bne_iff_ne]; exact hxy
          have hb' : (x == y) = false := by rw [beq_eq_false_iff_ne]; exact hxy
          clear HYES HNO hxy
          go_wp2
          go_quiet (fail)
          go_wp2
          go_ret
          refine ⟨by rw [HX.out]; rfl, ?_⟩
          obtain ⟨m, hm⟩ := HQ.out
          subst hm
          exact ⟨_, World.drewN_drewN _ _ _⟩
      · have hkn : k = n := by omega
        have HX : Hid (ans = true) := Lib.hid (by rw [HA.out]; exact decide_eq_true (ext_D 0 HL.out (fun j hj => hsk j (by have := HN.out; omega))))
        clear hsk hq hkn
        go_wp2
        go_ret
        exact ⟨by rw [HX.out]; rfl, HQ.out⟩
  · exact (eq_I_len h g hl).mono fun e w' ⟨h1, h2⟩ => ⟨h1, 0, h2.symm⟩
def sameR (d e : RpD) : Bool := decide (d.verdict = e.verdict ∧ d.depth = e.depth ∧ d.fault = e.fault ∧ d.place = e.place ∧ d.spent = e.spent ∧ d.calls = e.calls ∧ d.conf = e.conf ∧ d.ports = e.ports) && sameT d.tr e.tr
theorem sameR_no {d e : RpD} (h : ¬ (d.verdict = e.verdict ∧ d.depth = e.depth ∧ d.fault = e.fault ∧ d.place = e.place ∧ d.spent = e.spent ∧ d.calls = e.calls ∧ d.conf = e.conf ∧ d.ports = e.ports)) : sameR d e = false := by
  unfold sameR
  rw [decide_eq_false h]
  rfl
set_option maxHeartbeats 16000000 in
set_option maxRecDepth 100000 in
theorem report_Same {w : World} {d f : RpD} {vl vm vi vp ul um ui up : Value} (h : RpP w d vl vm vi vp) (g : RpP w f ul um ui up) : Calls Tryz.prog 11 #[rpV d vl vm vi vp, rpV f ul um ui up] w (RightPost w (sameR d f)) := by
  have HB0 : Hid (∀ x y, Below w.heap.size w ((w.alloc x).alloc y)) := Lib.hid fun x y => ((Below.refl _ _).alloc (Nat.le_refl _) _).alloc (by simp) _
  have E1 := Lib.hid (fun w' (hb : Below w.heap.size w w') => eq_I (h.ports.below hb).seq (g.ports.below hb).seq)
  have E2 := Lib.hid (fun w' (hb : Below w.heap.size w w') => trace_Same (h.tr.below hb) (g.tr.below hb))
  unfold trV at E2
  obtain ⟨ans, hans⟩ : ∃ ans, ans = sameR d f := ⟨_, rfl⟩
  rw [← hans]
  have HN : Hid (¬ (d.verdict = f.verdict ∧ d.depth = f.depth ∧ d.fault = f.fault ∧ d.place = f.place ∧ d.spent = f.spent ∧ d.calls = f.calls ∧ d.conf = f.conf ∧ d.ports = f.ports) → ans = false) := Lib.hid fun h => hans.trans (sameR_no h)
  have HY : Hid ((d.verdict = f.verdict ∧ d.depth = f.depth ∧ d.fault = f.fault ∧ d.place = f.place ∧ d.spent = f.spent ∧ d.calls = f.calls ∧ d.conf = f.conf ∧ d.ports = f.ports) → ans = sameT d.tr f.tr) := Lib.hid fun h => by rw [hans]; unfold sameR; rw [decide_eq_true h]; rfl
  obtain ⟨a1, c1, hv1⟩ := h.tr.lat.len
  obtain ⟨a2, c2, hv2, -, -⟩ := h.tr.mems.form
  obtain ⟨a3, c3, hv3, -, -⟩ := h.tr.ins.form
  obtain ⟨a4, c4, hv4, -⟩ := h.ports
  obtain ⟨a5, c5, hu1⟩ := g.tr.lat.len
  obtain ⟨a6, c6, hu2, -, -⟩ := g.tr.mems.form
  obtain ⟨a7, c7, hu3, -, -⟩ := g.tr.ins.form
  obtain ⟨a8, c8, hu4, -⟩ := g.ports
  subst hv1 hv2 hv3 hv4 hu1 hu2 hu3 hu4
  unfold rpV
  obtain ⟨W0, hW0⟩ : ∃ W0, W0 = (w.alloc (.cells (rpA d (.slice a1 d.tr.lat.length c1) (.slice a2 d.tr.mems.length c2) (.slice a3 d.tr.ins.length c3) (.slice a4 d.ports.length c4)) 33)).alloc (.cells (rpA f (.slice a5 f.tr.lat.length c5) (.slice a6 f.tr.mems.length c6) (.slice a7 f.tr.ins.length c7) (.slice a8 f.ports.length c8)) 33) := ⟨_, rfl⟩
  have KB : Hid (∀ W, Quiet W0 W → (W.cell? ⟨w.heap.size, 4, none⟩ = some (.slice a1 d.tr.lat.length c1) ∧ W.cell? ⟨w.heap.size, 5, none⟩ = some (.slice a2 d.tr.mems.length c2) ∧ W.cell? ⟨w.heap.size, 6, none⟩ = some (.slice a3 d.tr.ins.length c3) ∧ W.cell? ⟨w.heap.size, 7, none⟩ = some (.int .i64 d.tr.bad)) ∧ (W.cell? ⟨w.heap.size + 1, 4, none⟩ = some (.slice a5 f.tr.lat.length c5) ∧ W.cell? ⟨w.heap.size + 1, 5, none⟩ = some (.slice a6 f.tr.mems.length c6) ∧ W.cell? ⟨w.heap.size + 1, 6, none⟩ = some (.slice a7 f.tr.ins.length c7) ∧ W.cell? ⟨w.heap.size + 1, 7, none⟩ = some (.int .i64 f.tr.bad))) := Lib.hid (by
    rintro W ⟨n, rfl⟩
    rw [hW0]
    have q1 := (Blk.new w 33 (rpA d (.slice a1 d.tr.lat.length c1) (.slice a2 d.tr.mems.length c2) (.slice a3 d.tr.ins.length c3) (.slice a4 d.ports.length c4))).alloc (.cells (rpA f (.slice a5 f.tr.lat.length c5) (.slice a6 f.tr.mems.length c6) (.slice a7 f.tr.ins.length c7) (.slice a8 f.ports.length c8)) 33)
    have q2 := Blk.new (w.alloc (.cells (rpA d (.slice a1 d.tr.lat.length c1) (.slice a2 d.tr.mems.length c2) (.slice a3 d.tr.ins.length c3) (.slice a4 d.ports.length c4)) 33)) 33 (rpA f (.slice a5 f.tr.lat.length c5) (.slice a6 f.tr.mems.length c6) (.slice a7 f.tr.ins.length c7) (.slice a8 f.ports.length c8))
    have q4 := q2.cell 4
    have q5 := q2.cell 5
    have q6 := q2.cell 6
    have q7 := q2.cell 7
    simp only [World.size_alloc] at q4 q5 q6 q7
    exact ⟨⟨q1.cell 4, q1.cell 5, q1.cell 6, q1.cell 7⟩, q4, q5, q6, q7⟩)
  unfold rpA at hW0
  have HW : Hid (Below w.heap.size w W0) := Lib.hid (by rw [hW0]; exact HB0.out _ _)
  have HQ := Lib.hid hW0
  clear h g hans hW0
  generalize d.verdict = x0 at *
  generalize f.verdict = y0 at *
  generalize d.depth = x1 at *
  generalize f.depth = y1 at *
  generalize d.fault = x2 at *
  generalize f.fault = y2 at *
  generalize d.place = x3 at *
  generalize f.place = y3 at *
  generalize d.spent = x4 at *
  generalize f.spent = y4 at *
  generalize d.calls = x5 at *
  generalize f.calls = y5 at *
  generalize d.conf = x6 at *
  generalize f.conf = y6 at *
  generalize hpo : decide (d.ports = f.ports) = po at *
  have HPO := Lib.hid hpo
  clear hpo
  by_cases e_verdict : x0 = y0
  case neg =>
    have HX : Hid (ans = false) := Lib.hid (HN.out fun h => e_verdict (by simp only [h]))
    have hb1 : (x0 == y0) = false := by rw [beq_eq_false_iff_ne]; exact e_verdict
    have hb2 : (x0 != y0) = true := by rw [bne_iff_ne]; exact e_verdict
    clear e_verdict
    go_enter Tryz.func11, Tryz.ntmps11
    go_wp2
    go_ret
    exact ⟨by rw [HX.out]; rfl, by rw [HQ.out] at HW; exact HW.out⟩
  subst e_verdict
  by_cases e_depth : x1 = y1
  case neg =>
    have HX : Hid (ans = false) := Lib.hid (HN.out fun h => e_depth (by simp only [h]))
    have hb1 : (x1 == y1) = false := by rw [beq_eq_false_iff_ne]; exact e_depth
    have hb2 : (x1 != y1) = true := by rw [bne_iff_ne]; exact e_depth
    clear e_depth
    go_enter Tryz.func11, Tryz.ntmps11
    go_wp2
    go_ret
    exact ⟨by rw [HX.out]; rfl, by rw [HQ.out] at HW; exact HW.out⟩
  subst e_depth
  by_cases e_fault : x2 = y2
  case neg =>
    have HX : Hid (ans = false) := Lib.hid (HN.out fun h => e_fault (by simp only [h]))
    have hb1 : (x2 == y2) = false := by rw [beq_eq_false_iff_ne]; exact e_fault
    have hb2 : (x2 != y2) = true := by rw [bne_iff_ne]; exact e_fault
    clear e_fault
    go_enter Tryz.func11, Tryz.ntmps11
    go_wp2
    go_ret
    exact ⟨by rw [HX.out]; rfl, by rw [HQ.out] at HW; exact HW.out⟩
  subst e_fault
  by_cases e_place : x3 = y3
  case neg =>
    have HX : Hid (ans = false) := Lib.hid (HN.out fun h => e_place (by simp only [h]))
    have hb1 : (x3 == y3) = false := by rw [beq_eq_false_iff_ne]; exact e_place
    have hb2 : (x3 != y3) = true := by rw [bne_iff_ne]; exact e_place
    clear e_place
    go_enter Tryz.func11, Tryz.ntmps11
    go_wp2
    go_ret
    exact ⟨by rw [HX.out]; rfl, by rw [HQ.out] at HW; exact HW.out⟩
  subst e_place
  by_cases e_spent : x4 = y4
  case neg =>
    have HX : Hid (ans = false) := Lib.hid (HN.out fun h => e_spent (by simp only [h]))
    cases x4 <;> cases y4
    all_goals first
      | exact absurd rfl e_spent
      | skip
    all_goals
      clear e_spent
      go_enter Tryz.func11, Tryz.ntmps11
      go_wp2
      go_ret
      exact ⟨by rw [HX.out]; rfl, by rw [HQ.out] at HW; exact HW.out⟩
  subst e_spent
  by_cases e_calls : x5 = y5
  case neg =>
    have HX : Hid (ans = false) := Lib.hid (HN.out fun h => e_calls (by simp only [h]))
    have hb1 : (x5 == y5) = false := by rw [beq_eq_false_iff_ne]; exact e_calls
    have hb2 : (x5 != y5) = true := by rw [bne_iff_ne]; exact e_calls
    clear e_calls
    go_enter Tryz.func11, Tryz.ntmps11
    go_wp2
    go_ret
    exact ⟨by rw [HX.out]; rfl, by rw [HQ.out] at HW; exact HW.out⟩
  subst e_calls
  by_cases e_conf : x6 = y6
  case neg =>
    have HX : Hid (ans = false) := Lib.hid (HN.out fun h => e_conf (by simp only [h]))
    have hb1 : (x6 == y6) = false := by rw [beq_eq_false_iff_ne]; exact e_conf
    have hb2 : (x6 != y6) = true := by rw [bne_iff_ne]; exact e_conf
    clear e_conf
    go_enter Tryz.func11, Tryz.ntmps11
    go_wp2
    go_ret
    exact ⟨by rw [HX.out]; rfl, by rw [HQ.out] at HW; exact HW.out⟩
  subst e_conf
  have E1W := Lib.hid (E1.out W0 HW.out)
  rw [HQ.out] at E1W
  have hbx : ∀ x : Int, (x != x) = false := fun x => by simp
  have hby : (x4 != x4) = false := by simp
  go_enter Tryz.func11, Tryz.ntmps11
  go_wp2_with fail
  refine E1W.out.mono ?_
  rintro e w1 ⟨rfl, hq⟩
  rw [← HQ.out] at hq
  have HQ1 := Lib.hid hq
  obtain ⟨⟨k4, k5, k6, k7⟩, m4, m5, m6, m7⟩ := KB.out _ hq
  have B1 := Lib.hid (HW.out.trans (hq.below.mono HW.out.size))
  clear hq hbx hby
  cases po with
  | false =>
    have HX : Hid (ans = false) := Lib.hid (HN.out fun h => by have := HPO.out; rw [decide_eq_false_iff_not] at this; exact this h.2.2.2.2.2.2.2)
    go_wp2
    go_ret
    exact ⟨by rw [HX.out]; rfl, B1.out⟩
  | true =>
    have HX : Hid (ans = sameT d.tr f.tr) := Lib.hid (HY.out (by refine ⟨?_, ?_, ?_, ?_, ?_, ?_, ?_, of_decide_eq_true HPO.out⟩ <;> trivial))
    have E2W := Lib.hid (E2.out _ B1.out)
    generalize sameT d.tr f.tr = st at *
    go_wp2_with fail
    refine E2W.out.mono ?_
    rintro e w2 ⟨rfl, hb⟩
    have B2 := Lib.hid (B1.out.trans (hb.mono B1.out.size))
    clear hb
    go_wp2
    go_ret
    exact ⟨by rw [HX.out]; rfl, B2.out⟩
set_option maxHeartbeats 16000000 in
set_option maxRecDepth 100000 in
theorem r37_Same {w : World} {d f : RpD} {vl vm vi vp ul um ui up : Value} (h : RpP w d vl vm vi vp) (g : RpP w f ul um ui up) : Calls Tryz.prog 8 #[rpV d vl vm vi vp, rpV f ul um ui up] w (RightPost w (sameR d f)) := by
  have HB0 : Hid (∀ x y, Below w.heap.size w ((w.alloc x).alloc y)) := Lib.hid fun x y => ((Below.refl _ _).alloc (Nat.le_refl _) _).alloc (by simp) _
  have E1 := Lib.hid (fun w' (hb : Below w.heap.size w w') => r01_Same (h.ports.below hb).seq (g.ports.below hb).seq)
  have E2 := Lib.hid (fun w' (hb : Below w.heap.size w w') => r15_Same (h.tr.below hb) (g.tr.below hb))
  unfold trV at E2
  obtain ⟨ans, hans⟩ : ∃ ans, ans = sameR d f := ⟨_, rfl⟩
  rw [← hans]
  have HN : Hid (¬ (d.verdict = f.verdict ∧ d.depth = f.depth ∧ d.fault = f.fault ∧ d.place = f.place ∧ d.spent = f.spent ∧ d.calls = f.calls ∧ d.conf = f.conf ∧ d.ports = f.ports) → ans = false) := Lib.hid fun h => hans.trans (sameR_no h)
  have HY : Hid ((d.verdict = f.verdict ∧ d.depth = f.depth ∧ d.fault = f.fault ∧ d.place = f.place ∧ d.spent = f.spent ∧ d.calls = f.calls ∧ d.conf = f.conf ∧ d.ports = f.ports) → ans = sameT d.tr f.tr) := Lib.hid fun h => by rw [hans]; unfold sameR; rw [decide_eq_true h]; rfl
  obtain ⟨a1, c1, hv1⟩ := h.tr.lat.len
  obtain ⟨a2, c2, hv2, -, -⟩ := h.tr.mems.form
  obtain ⟨a3, c3, hv3, -, -⟩ := h.tr.ins.form
  obtain ⟨a4, c4, hv4, -⟩ := h.ports
  obtain ⟨a5, c5, hu1⟩ := g.tr.lat.len
  obtain ⟨a6, c6, hu2, -, -⟩ := g.tr.mems.form
  obtain ⟨a7, c7, hu3, -, -⟩ := g.tr.ins.form
  obtain ⟨a8, c8, hu4, -⟩ := g.ports
  subst hv1 hv2 hv3 hv4 hu1 hu2 hu3 hu4
  unfold rpV
  obtain ⟨W0, hW0⟩ : ∃ W0, W0 = (w.alloc (.cells (rpA d (.slice a1 d.tr.lat.length c1) (.slice a2 d.tr.mems.length c2) (.slice a3 d.tr.ins.length c3) (.slice a4 d.ports.length c4)) 33)).alloc (.cells (rpA f (.slice a5 f.tr.lat.length c5) (.slice a6 f.tr.mems.length c6) (.slice a7 f.tr.ins.length c7) (.slice a8 f.ports.length c8)) 33) := ⟨_, rfl⟩
  have KB : Hid (∀ W, Quiet W0 W → (W.cell? ⟨w.heap.size, 4, none⟩ = some (.slice a1 d.tr.lat.length c1) ∧ W.cell? ⟨w.heap.size, 5, none⟩ = some (.slice a2 d.tr.mems.length c2) ∧ W.cell? ⟨w.heap.size, 6, none⟩ = some (.slice a3 d.tr.ins.length c3) ∧ W.cell? ⟨w.heap.size, 7, none⟩ = some (.int .i64 d.tr.bad)) ∧ (W.cell? ⟨w.heap.size + 1, 4, none⟩ = some (.slice a5 f.tr.lat.length c5) ∧ W.cell? ⟨w.heap.size + 1, 5, none⟩ = some (.slice a6 f.tr.mems.length c6) ∧ W.cell? ⟨w.heap.size + 1, 6, none⟩ = some (.slice a7 f.tr.ins.length c7) ∧ W.cell? ⟨w.heap.size + 1, 7, none⟩ = some (.int .i64 f.tr.bad))) := Lib.hid (by
    rintro W ⟨n, rfl⟩
    rw [hW0]
    have q1 := (Blk.new w 33 (rpA d (.slice a1 d.tr.lat.length c1) (.slice a2 d.tr.mems.length c2) (.slice a3 d.tr.ins.length c3) (.slice a4 d.ports.length c4))).alloc (.cells (rpA f (.slice a5 f.tr.lat.length c5) (.slice a6 f.tr.mems.length c6) (.slice a7 f.tr.ins.length c7) (.slice a8 f.ports.length c8)) 33)
    have q2 := Blk.new (w.alloc (.cells (rpA d (.slice a1 d.tr.lat.length c1) (.slice a2 d.tr.mems.length c2) (.slice a3 d.tr.ins.length c3) (.slice a4 d.ports.length c4)) 33)) 33 (rpA f (.slice a5 f.tr.lat.length c5) (.slice a6 f.tr.mems.length c6) (.slice a7 f.tr.ins.length c7) (.slice a8 f.ports.length c8))
    have q4 := q2.cell 4
    have q5 := q2.cell 5
    have q6 := q2.cell 6
    have q7 := q2.cell 7
    simp only [World.size_alloc] at q4 q5 q6 q7
    exact ⟨⟨q1.cell 4, q1.cell 5, q1.cell 6, q1.cell 7⟩, q4, q5, q6, q7⟩)
  unfold rpA at hW0
  have HW : Hid (Below w.heap.size w W0) := Lib.hid (by rw [hW0]; exact HB0.out _ _)
  have HQ := Lib.hid hW0
  clear h g hans hW0
  generalize d.verdict = x0 at *
  generalize f.verdict = y0 at *
  generalize d.depth = x1 at *
  generalize f.depth = y1 at *
  generalize d.fault = x2 at *
  generalize f.fault = y2 at *
  generalize d.place = x3 at *
  generalize f.place = y3 at *
  generalize d.spent = x4 at *
  generalize f.spent = y4 at *
  generalize d.calls = x5 at *
  generalize f.calls = y5 at *
  generalize d.conf = x6 at *
  generalize f.conf = y6 at *
  generalize hpo : decide (d.ports = f.ports) = po at *
  have HPO := Lib.hid hpo
  clear hpo
  by_cases e_verdict : x0 = y0
  case neg =>
    have HX : Hid (ans = false) := Lib.hid (HN.out fun h => e_verdict (by simp only [h]))
    have hb1 : (x0 == y0) = false := by rw [beq_eq_false_iff_ne]; exact e_verdict
    have hb2 : (x0 != y0) = true := by rw [bne_iff_ne]; exact e_verdict
    clear e_verdict
    go_enter Tryz.func8, Tryz.ntmps8
    go_wp2
    go_ret
    exact ⟨by rw [HX.out]; rfl, by rw [HQ.out] at HW; exact HW.out⟩
  subst e_verdict
  by_cases e_depth : x1 = y1
  case neg =>
    have HX : Hid (ans = false) := Lib.hid (HN.out fun h => e_depth (by simp only [h]))
    have hb1 : (x1 == y1) = false := by rw [beq_eq_false_iff_ne]; exact e_depth
    have hb2 : (x1 != y1) = true := by rw [bne_iff_ne]; exact e_depth
    clear e_depth
    go_enter Tryz.func8, Tryz.ntmps8
    go_wp2
    go_ret
    exact ⟨by rw [HX.out]; rfl, by rw [HQ.out] at HW; exact HW.out⟩
  subst e_depth
  by_cases e_fault : x2 = y2
  case neg =>
    have HX : Hid (ans = false) := Lib.hid (HN.out fun h => e_fault (by simp only [h]))
    have hb1 : (x2 == y2) = false := by rw [beq_eq_false_iff_ne]; exact e_fault
    have hb2 : (x2 != y2) = true := by rw [bne_iff_ne]; exact e_fault
    clear e_fault
    go_enter Tryz.func8, Tryz.ntmps8
    go_wp2
    go_ret
    exact ⟨by rw [HX.out]; rfl, by rw [HQ.out] at HW; exact HW.out⟩
  subst e_fault
  by_cases e_place : x3 = y3
  case neg =>
    have HX : Hid (ans = false) := Lib.hid (HN.out fun h => e_place (by simp only [h]))
    have hb1 : (x3 == y3) = false := by rw [beq_eq_false_iff_ne]; exact e_place
    have hb2 : (x3 != y3) = true := by rw [bne_iff_ne]; exact e_place
    clear e_place
    go_enter Tryz.func8, Tryz.ntmps8
    go_wp2
    go_ret
    exact ⟨by rw [HX.out]; rfl, by rw [HQ.out] at HW; exact HW.out⟩
  subst e_place
  by_cases e_calls : x5 = y5
  case neg =>
    have HX : Hid (ans = false) := Lib.hid (HN.out fun h => e_calls (by simp only [h]))
    have hb1 : (x5 == y5) = false := by rw [beq_eq_false_iff_ne]; exact e_calls
    have hb2 : (x5 != y5) = true := by rw [bne_iff_ne]; exact e_calls
    clear e_calls
    go_enter Tryz.func8, Tryz.ntmps8
    go_wp2
    go_ret
    exact ⟨by rw [HX.out]; rfl, by rw [HQ.out] at HW; exact HW.out⟩
  subst e_calls
  by_cases e_conf : x6 = y6
  case neg =>
    have HX : Hid (ans = false) := Lib.hid (HN.out fun h => e_conf (by simp only [h]))
    have hb1 : (x6 == y6) = false := by rw [beq_eq_false_iff_ne]; exact e_conf
    have hb2 : (x6 != y6) = true := by rw [bne_iff_ne]; exact e_conf
    clear e_conf
    go_enter Tryz.func8, Tryz.ntmps8
    go_wp2
    go_ret
    exact ⟨by rw [HX.out]; rfl, by rw [HQ.out] at HW; exact HW.out⟩
  subst e_conf
  by_cases e_spent : x4 = y4
  case neg =>
    have HX : Hid (ans = false) := Lib.hid (HN.out fun h => e_spent (by simp only [h]))
    cases x4 <;> cases y4
    all_goals first
      | exact absurd rfl e_spent
      | skip
    all_goals
      clear e_spent
      go_enter Tryz.func8, Tryz.ntmps8
      go_wp2
      go_ret
      exact ⟨by rw [HX.out]; rfl, by rw [HQ.out] at HW; exact HW.out⟩
  subst e_spent
  have E1W := Lib.hid (E1.out W0 HW.out)
  rw [HQ.out] at E1W
  have hbx : ∀ x : Int, (x != x) = false := fun x => by simp
  have hby : (x4 != x4) = false := by simp
  go_enter Tryz.func8, Tryz.ntmps8
  go_wp2_with fail
  refine E1W.out.mono ?_
  rintro e w1 ⟨rfl, hq⟩
  rw [← HQ.out] at hq
  have HQ1 := Lib.hid hq
  obtain ⟨⟨k4, k5, k6, k7⟩, m4, m5, m6, m7⟩ := KB.out _ hq
  have B1 := Lib.hid (HW.out.trans (hq.below.mono HW.out.size))
  clear hq hbx hby
  cases po with
  | false =>
    have HX : Hid (ans = false) := Lib.hid (HN.out fun h => by have := HPO.out; rw [decide_eq_false_iff_not] at this; exact this h.2.2.2.2.2.2.2)
    go_wp2
    go_ret
    exact ⟨by rw [HX.out]; rfl, B1.out⟩
  | true =>
    have HX : Hid (ans = sameT d.tr f.tr) := Lib.hid (HY.out (by refine ⟨?_, ?_, ?_, ?_, ?_, ?_, ?_, of_decide_eq_true HPO.out⟩ <;> trivial))
    have E2W := Lib.hid (E2.out _ B1.out)
    generalize sameT d.tr f.tr = st at *
    go_wp2_with fail
    refine E2W.out.mono ?_
    rintro e w2 ⟨rfl, hb⟩
    have B2 := Lib.hid (B1.out.trans (hb.mono B1.out.size))
    clear hb
    go_wp2
    go_ret
    exact ⟨by rw [HX.out]; rfl, B2.out⟩
end Go.Proofs.YtamgbfkpblpfiaaGreatDoor
