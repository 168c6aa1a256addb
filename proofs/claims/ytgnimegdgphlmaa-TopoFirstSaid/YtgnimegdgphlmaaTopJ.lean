/-
  Chapter 06: light, alive, TopoChecks: walked.
-/
import Derived.Test.YtgnimegdgphlmaaTopC
import Derived.Test.YtgnimegdgphlmaaFrameN
import Derived.Deep.RegionHeld3
namespace Go.Proofs.Ytgnimegdgphlmaa
open Go.ChangeShapes Go.WideShapes Go.ChangeAt Go.RowKit
set_option linter.unusedVariables false
set_option linter.unusedSimpArgs false
attribute [local go_sem ↓] Go.wp_at_zero Go.wp_at_succ
def lightD (d : NetD) : Bool := lightN d && decide (d.ands.length ≤ 100)
set_option maxHeartbeats 1000000 in
theorem w06_light {w : World} {d : NetD} {vi vl vo vb vc vm va : Value} (h : NetP w d vi vl vo vb vc vm va) :
    Calls Try.prog 7 #[netV d vi vl vo vb vc vm va] w fun e w' => e = .returned (.bool (lightD d)) ∧ Below w.heap.size w w' := by
  obtain ⟨ai, ci, h1, -, i1, i2, -⟩ := id h.inp
  obtain ⟨al, cl, h2, l1, l2⟩ := h.lat.form
  obtain ⟨ao, co, h3, -, o1, o2, -⟩ := id h.out
  obtain ⟨ab, cb, h4, -, b1, b2, -⟩ := id h.bad
  obtain ⟨ac, cc, h5, -, c1, c2, -⟩ := id h.con
  obtain ⟨am, cm, h6, m1, m2⟩ := h.mems.form
  obtain ⟨aa, ca, h7, a1, a2⟩ := h.ands.form
  obtain ⟨na, hna⟩ : ∃ n, n = d.ands.length := ⟨_, rfl⟩
  subst h1 h2 h3 h4 h5 h6 h7
  generalize hni : d.inp.length = ni at *
  generalize hnl : d.lat.length = nl at *
  generalize hno : d.out.length = no at *
  generalize hnb : d.bad.length = nb at *
  generalize hnc : d.con.length = nc at *
  generalize hnm : d.mems.length = nm at *
  rw [← hna] at h a1 ⊢
  obtain ⟨wb, hwb⟩ : ∃ wb, wb = w.alloc (.cells #[.int .i64 d.vars, .slice ai ni ci, .slice al nl cl, .slice ao no co, .slice ab nb cb, .slice ac nc cc, .slice am nm cm, .slice aa na ca] 27) := ⟨_, rfl⟩
  have hB1 : Below w.heap.size w wb := by rw [hwb]; exact below_new1 w _
  have HBX : Hid (NBox wb w.heap.size d (.slice ai ni ci) (.slice al nl cl) (.slice ao no co) (.slice ab nb cb) (.slice ac nc cc) (.slice am nm cm) (.slice aa na ca)) := Lib.hid (by rw [hwb]; exact NBox.new w _ _ _ _ _ _ _ _)
  have hli := light_net (h.below hB1)
  have HB1 := Lib.hid hB1
  unfold netV at hli ⊢
  rw [hwb] at hli
  have HLI := Lib.hid hli
  have HW1 := Lib.hid hwb
  have HNA := Lib.hid hna
  unfold maxLen at a2
  clear h hli hwb hB1 hna hni hnl hno hnb hnc hnm i1 i2 l1 l2 o1 o2 b1 b2 c1 c2 m1 m2
  cases hq : lightN d with
  | true =>
    rw [hq] at HLI
    have HQ := Lib.hid hq
    clear hq
    go_enter Try.func7, Try.ntmps7
    go_wp2_with fail
    refine HLI.out.mono ?_
    rintro e w2 ⟨rfl, hb⟩
    rw [← HW1.out] at hb
    have c7 := (HBX.out.later hb).c7
    have HB2 := Lib.hid (HB1.out.trans (hb.mono HB1.out.size))
    clear hb
    go_wp2
    go_ret
    refine ⟨?_, HB2.out⟩
    unfold lightD
    rw [HQ.out, Bool.true_and, ← HNA.out]
    exact Eq.trans (b := Ending.returned (.bool (decide ((na : Int) ≤ 100)))) rfl (ret_b (decide_eq_decide.2 (by omega)))
  | false =>
    rw [hq] at HLI
    have HQ := Lib.hid hq
    clear hq
    go_enter Try.func7, Try.ntmps7
    go_wp2_with fail
    refine HLI.out.mono ?_
    rintro e w2 ⟨rfl, hb⟩
    have HB2 := Lib.hid ((below_new1 w _).trans (hb.mono (by simp)))
    clear hb
    go_wp2
    go_ret
    exact ⟨by unfold lightD; rw [HQ.out]; rfl, HB2.out⟩
/-! ### the two examples -/
def ex1 : NetD := ⟨2, [1], [], [], [], [], [], [(2, 2, 2)]⟩
def ex2 : NetD := ⟨1, [], [], [], [], [], [], [(1, 2, 2)]⟩
theorem ex1_sound : soundN ex1 = 0 := by decide
theorem ex2_sound : soundN ex2 = 0 := by decide
theorem ex1_light : lightN ex1 = true := by decide
theorem ex2_light : lightN ex2 = true := by decide
theorem ex1_lev1 : Lev (nodesN ex1) 1 0 := .leaf 1 (fun i hi => by
  have : i = 0 := by have : (nodesN ex1).length = 1 := rfl; omega
  subst this
  decide)
theorem ex1_lev2 : Lev (nodesN ex1) 2 1 := .node 2 0 (fun _ => 0) (by decide) (by decide) (fun y hy => by
  have hy' : y ∈ [(2 : Int), 2] := hy
  simp at hy'
  subst hy'
  exact ex1_lev1)
theorem ex1_lev0 : Lev (nodesN ex1) 0 0 := .leaf 0 (fun i hi => by
  have : i = 0 := by have : (nodesN ex1).length = 1 := rfl; omega
  subst this
  decide)
theorem ex1_acyc : Acyc (nodesN ex1) 2 := fun v h0 h1 => by
  rcases (show v = 0 ∨ v = 1 ∨ v = 2 by omega) with rfl | rfl | rfl
  · exact ⟨_, ex1_lev0⟩
  · exact ⟨_, ex1_lev1⟩
  · exact ⟨_, ex1_lev2⟩
theorem ex1_check : checkN ex1 = 0 := by
  obtain ⟨V, hs⟩ := soundN_ok ex1_sound
  have hV : V = 2 := by have h1 : (2 : Int) = V := hs.vars; omega
  subst hV
  exact checkN_yes ex1_sound hs ex1_acyc
theorem ex2_check : checkN ex2 = 8 := by
  obtain ⟨V, hs⟩ := soundN_ok ex2_sound
  have hV : V = 1 := by have h1 : (1 : Int) = V := hs.vars; omega
  subst hV
  refine checkN_no ex2_sound hs fun hA => ?_
  obtain ⟨k, hk⟩ := hA 1 (by omega) (by omega)
  obtain ⟨f, hf, he⟩ := hk.inv hs.nodes (i := 0) (by decide) (by decide)
  have hy : (2 : Int) ∈ ((nodesN ex2).getD 0 node0).frm := by decide
  have h1 := hf 2 hy
  have h2 := le_mx (f := f) 2 hy
  have h3 := h1.uniq hs.nodes hk
  omega
theorem seq_nil {α : Type} {w : World} {size : Nat} {R : World → Nat → Nat → α → Prop} {d : α} : Seq w size R d (.slice none 0 0) [] := ⟨none, 0, rfl, Nat.le_refl _, by simp [maxLen], .inl rfl⟩
theorem tri_one (w : World) (a b c : Int) : Seq (w.alloc (.cells #[.int .i64 a, .int .i64 b, .int .i64 c] 59)) 3 TriR tri0 (.slice (some ⟨w.heap.size, 0, none⟩) 1 1) [(a, b, c)] := by
  have hB : Blk (w.alloc (.cells #[.int .i64 a, .int .i64 b, .int .i64 c] 59)) w.heap.size 59 #[.int .i64 a, .int .i64 b, .int .i64 c] := Blk.new w _ _
  refine ⟨_, 1, rfl, Nat.le_refl _, by simp [maxLen], .inr ⟨w.heap.size, 0, rfl, fun j hj => ?_⟩⟩
  have : j = 0 := by simpa using hj
  subst this
  exact ⟨hB.cell 0, hB.cell 1, hB.cell 2⟩
set_option maxHeartbeats 2000000 in
theorem w06_alive (w : World) : Calls Try.prog 8 #[] w fun e w' => e = .returned (.bool true) ∧ Below w.heap.size w w' := by
  have hp1 : NetP ((w.alloc (.cells #[.int .i64 1] 3)).alloc (.cells #[.int .i64 2, .int .i64 2, .int .i64 2] 59)) ex1 (.slice (some ⟨w.heap.size, 0, none⟩) 1 1) (.slice none 0 0) (.slice none 0 0) (.slice none 0 0) (.slice none 0 0) (.slice none 0 0) (.slice (some ⟨w.heap.size + 1, 0, none⟩) 1 1) := by
    have h1 := tri_one (w.alloc (.cells #[.int .i64 1] 3)) 2 2 2
    rw [World.size_alloc] at h1
    exact ⟨(ints_one w 1).below (below_new1 _ _), seq_nil, ints_nil _, ints_nil _, ints_nil _, seq_nil, h1⟩
  have hl := topo_Levels hp1 ex1_light
  have hc : ∀ W : World, Calls Try.prog 9 #[.agg #[.int .i64 1, .slice none 0 0, .slice none 0 0, .slice none 0 0, .slice none 0 0, .slice none 0 0, .slice none 0 0, .slice (some ⟨W.heap.size, 0, none⟩) 1 1]] (W.alloc (.cells #[.int .i64 1, .int .i64 2, .int .i64 2] 59)) (RetF (W.alloc (.cells #[.int .i64 1, .int .i64 2, .int .i64 2] 59)) 8) := fun W => by
    have h2 : NetP (W.alloc (.cells #[.int .i64 1, .int .i64 2, .int .i64 2] 59)) ex2 (.slice none 0 0) (.slice none 0 0) (.slice none 0 0) (.slice none 0 0) (.slice none 0 0) (.slice none 0 0) (.slice (some ⟨W.heap.size, 0, none⟩) 1 1) :=
      ⟨ints_nil _, seq_nil, ints_nil _, ints_nil _, ints_nil _, seq_nil, tri_one W 1 2 2⟩
    have h3 := topo_Check h2 ex2_light
    rw [ex2_check] at h3
    exact h3
  unfold netV at hl
  have HL := Lib.hid hl
  have HC := Lib.hid hc
  clear hl hc hp1
  go_enter Try.func8, Try.ntmps8
  go_wp2_with fail
  refine HL.out.mono ?_
  rintro e w2 ⟨hb, ⟨h1, -⟩ | ⟨-, V, hs, bl, lv, rfl, hv, -, hl⟩⟩
  · exact absurd ex1_check h1
  · have hV : V = 2 := by have h1 : (2 : Int) = V := hs.vars; omega
    subst hV
    have h2 : lv 2 = 1 := (hl 2 (by omega) (by omega)).uniq hs.nodes ex1_lev2
    have c2 : w2.cell? ⟨bl, 2, none⟩ = some (.int .i64 1) := by
      have := hv.cell (i := 2) (by omega)
      rw [this, show lv ((2 : Nat) : Int) = 1 from h2]; rfl
    have HB := Lib.hid ((((Below.refl _ w).alloc (Nat.le_refl _) _).alloc (by simp) _).trans (hb.mono (by simp; omega)))
    clear hb hs hv hl h2
    go_wp2_with (go_at_call 9; refine (HC.out w2).mono ?_; rintro e w3 ⟨rfl, hb3⟩; have HB3 := Lib.hid (HB.out.trans ((below_new1 w2 _).trans (hb3.mono (by simp)) |>.mono HB.out.size)); clear hb3)
    go_ret
    exact ⟨rfl, HB3.out⟩
end Go.Proofs.Ytgnimegdgphlmaa
/-
  Chapter 06: TopoChecks walked.
-/
namespace Go.Proofs.Ytgnimegdgphlmaa
open Go.ChangeShapes Go.WideShapes Go.ChangeAt Go.RowKit
set_option linter.unusedVariables false
set_option linter.unusedSimpArgs false
attribute [local go_sem ↓] Go.wp_at_zero Go.wp_at_succ
theorem lightD_iff {d : NetD} (h : lightD d = true) : lightN d = true ∧ d.ands.length ≤ 100 := by
  unfold lightD at h
  simpa using h
set_option maxHeartbeats 2000000 in
theorem claw_checks {w : World} {d : NetD} {vi vl vo vb vc vm va : Value} (h : NetP w d vi vl vo vb vc vm va) :
    Calls Try.prog 3 #[netV d vi vl vo vb vc vm va] w fun e w' => e = .returned (.bool true) ∧ Below w.heap.size w w' := by
  obtain ⟨ai, ci, h1, -⟩ := id h.inp
  obtain ⟨al, cl, h2, -⟩ := h.lat.form
  obtain ⟨ao, co, h3, -⟩ := id h.out
  obtain ⟨ab, cb, h4, -⟩ := id h.bad
  obtain ⟨ac, cc, h5, -⟩ := id h.con
  obtain ⟨am, cm, h6, -⟩ := h.mems.form
  obtain ⟨aa, ca, h7, -⟩ := h.ands.form
  subst h1 h2 h3 h4 h5 h6 h7
  generalize hni : d.inp.length = ni at *
  generalize hnl : d.lat.length = nl at *
  generalize hno : d.out.length = no at *
  generalize hnb : d.bad.length = nb at *
  generalize hnc : d.con.length = nc at *
  generalize hnm : d.mems.length = nm at *
  generalize hna : d.ands.length = na at *
  obtain ⟨wb, hwb⟩ : ∃ wb, wb = w.alloc (.cells #[.int .i64 d.vars, .slice ai ni ci, .slice al nl cl, .slice ao no co, .slice ab nb cb, .slice ac nc cc, .slice am nm cm, .slice aa na ca] 27) := ⟨_, rfl⟩
  have hB1 : Below w.heap.size w wb := by rw [hwb]; exact below_new1 w _
  have hBX : NBox wb w.heap.size d (.slice ai ni ci) (.slice al nl cl) (.slice ao no co) (.slice ab nb cb) (.slice ac nc cc) (.slice am nm cm) (.slice aa na ca) := by rw [hwb]; exact NBox.new w _ _ _ _ _ _ _ _
  have hP := h.below hB1
  have hli := w06_light hP
  unfold netV at hli ⊢
  rw [hwb] at hli
  have HLI := Lib.hid hli
  have HB1 := Lib.hid hB1
  have HW1 := Lib.hid hwb
  have HBX := Lib.hid hBX
  have HP := Lib.hid hP
  clear h hli hwb hB1 hBX hP hna hni hnl hno hnb hnc hnm
  cases hq : lightD d with
  | false =>
    rw [hq] at HLI
    go_enter Try.func3, Try.ntmps3
    go_wp2_with fail
    refine HLI.out.mono ?_
    rintro e w2 ⟨rfl, hb⟩
    have HB2 := Lib.hid ((below_new1 w _).trans (hb.mono (by simp)))
    clear hb hq HLI
    go_wp2_with (go_at_call 8; refine (w06_alive w2).mono ?_; rintro e w3 ⟨rfl, hb3⟩; have HB3 := Lib.hid (HB2.out.trans (hb3.mono HB2.out.size)); clear hb3)
    go_ret
    exact ⟨rfl, HB3.out⟩
  | true =>
    rw [hq] at HLI
    have HQ := Lib.hid (lightD_iff hq)
    go_enter Try.func3, Try.ntmps3
    go_wp2_with fail
    refine HLI.out.mono ?_
    rintro e w2 ⟨rfl, hb⟩
    rw [← HW1.out] at hb
    have HB2 : Hid (Below w.heap.size w w2) := Lib.hid (HB1.out.trans (hb.mono HB1.out.size))
    have CK : Hid (∀ W, Below w2.heap.size w2 W → NBox W w.heap.size d (.slice ai ni ci) (.slice al nl cl) (.slice ao no co) (.slice ab nb cb) (.slice ac nc cc) (.slice am nm cm) (.slice aa na ca)) := Lib.hid fun W hW => (HBX.out.later hb).later hW
    have hp2 := HP.out.below hb
    have hc : ∀ W, Below w2.heap.size w2 W → Calls Try.prog 9 #[.agg #[.int .i64 d.vars, .slice ai ni ci, .slice al nl cl, .slice ao no co, .slice ab nb cb, .slice ac nc cc, .slice am nm cm, .slice aa na ca]] W fun e w' => e = .returned (.int .i64 (checkN d)) ∧ Below w2.heap.size w2 w' := fun W hW => (topo_Check (hp2.below hW) HQ.out.1).mono fun e w' hh => ⟨hh.1, hW.trans (hh.2.mono hW.size)⟩
    have hr : ∀ W, Below w2.heap.size w2 W → Calls Try.prog 10 #[.agg #[.int .i64 d.vars, .slice ai ni ci, .slice al nl cl, .slice ao no co, .slice ab nb cb, .slice ac nc cc, .slice am nm cm, .slice aa na ca]] W fun e w' => e = .returned (.int .i64 (checkN d)) ∧ Below w2.heap.size w2 w' := fun W hW => (r06_Check (hp2.below hW) HQ.out.1).mono fun e w' hh => ⟨hh.1, hW.trans (hh.2.mono hW.size)⟩
    have ha : ∀ W, Below w2.heap.size w2 W → Calls Try.prog 8 #[] W fun e w' => e = .returned (.bool true) ∧ Below w2.heap.size w2 w' := fun W hW => (w06_alive W).mono fun e w' hh => ⟨hh.1, hW.trans (hh.2.mono hW.size)⟩
    obtain ⟨c0, c1, c2, c3, c4, c5, c6, c7⟩ := (CK.out w2 (Below.refl _ _)).all
    have HC := Lib.hid hc
    have HR := Lib.hid hr
    have HA := Lib.hid ha
    generalize checkN d = kc at *
    clear hb hq HLI hc hr ha hp2
    go_wp2_with fail
    go_region_held3 (fun w' => w'.cell? ⟨w.heap.size, 0, none⟩ = some (.int .i64 d.vars) ∧ w'.cell? ⟨w.heap.size, 1, none⟩ = some (.slice ai ni ci) ∧ w'.cell? ⟨w.heap.size, 2, none⟩ = some (.slice al nl cl) ∧ w'.cell? ⟨w.heap.size, 3, none⟩ = some (.slice ao no co) ∧ w'.cell? ⟨w.heap.size, 4, none⟩ = some (.slice ab nb cb) ∧ w'.cell? ⟨w.heap.size, 5, none⟩ = some (.slice ac nc cc) ∧ w'.cell? ⟨w.heap.size, 6, none⟩ = some (.slice am nm cm) ∧ w'.cell? ⟨w.heap.size, 7, none⟩ = some (.slice aa na ca)) (go_keep) (first
      | (go_at_call 9; refine (HC.out _ (Below.refl _ _).drew).mono ?_; rintro e wa ⟨rfl, hq⟩; have Q1 := Lib.hid hq; obtain ⟨a0, a1, a2, a3, a4, a5, a6, a7⟩ := (CK.out _ hq).all; clear hq)
      | (go_at_call 10; refine (HR.out _ Q1.out).mono ?_; rintro e wd ⟨rfl, hq⟩; have Q2 := Lib.hid hq; obtain ⟨b0, b1, b2, b3, b4, b5, b6, b7⟩ := (CK.out _ hq).all; clear hq)
      | (go_at_call 8; refine (HA.out _ Q2.out).mono ?_; rintro e we ⟨rfl, hq⟩; have Q3 := Lib.hid hq; obtain ⟨e0, e1, e2, e3, e4, e5, e6, e7⟩ := (CK.out _ hq).all; clear hq))
    go_wp2
    go_ret
    exact ⟨by simp, HB2.out.trans (Q3.out.mono HB2.out.size)⟩
end Go.Proofs.Ytgnimegdgphlmaa
