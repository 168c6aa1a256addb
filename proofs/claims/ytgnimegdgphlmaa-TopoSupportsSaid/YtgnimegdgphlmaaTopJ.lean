/-
  Chapter 06: TopoChecks walked.
-/
import Derived.Test.YtgnimegdgphlmaaTopK
import Derived.Test.YtgnimegdgphlmaaFrameN
import Derived.Deep.RegionHeld3
namespace Go.Proofs.Ytgnimegdgphlmaa
open Go.ChangeShapes Go.WideShapes Go.ChangeAt Go.RowKit
set_option linter.unusedVariables false
set_option linter.unusedSimpArgs false
attribute [local go_sem ↓] Go.wp_at_zero Go.wp_at_succ
theorem lightD_iff {d : NetD} (h : lightD d = true) : lightN d = true ∧ d.ands.length ≤ 100 := by
  unfold lightD at h
  simpa using h
set_option maxHeartbeats 2000000 in
theorem claw_checks {w : World} {d : NetD} {vi vl vo vb vc vm va : Value} (h : NetP w d vi vl vo vb vc vm va) :
    Calls Try.prog 3 #[netV d vi vl vo vb vc vm va] w fun e w' => e = .returned (.bool true) ∧ Below w.heap.size w w' := by
  obtain ⟨ai, ci, h1, -⟩ := id h.inp
  obtain ⟨al, cl, h2, -⟩ := h.lat.form
  obtain ⟨ao, co, h3, -⟩ := id h.out
  obtain ⟨ab, cb, h4, -⟩ := id h.bad
  obtain ⟨ac, cc, h5, -⟩ := id h.con
  obtain ⟨am, cm, h6, -⟩ := h.mems.form
  obtain ⟨aa, ca, h7, -⟩ := h.ands.form
  subst h1 h2 h3 h4 h5 h6 h7
  generalize hni : d.inp.length = ni at *
  generalize hnl : d.lat.length = nl at *
  generalize hno : d.out.length = no at *
  generalize hnb : d.bad.length = nb at *
  generalize hnc : d.con.length = nc at *
  generalize hnm : d.mems.length = nm at *
  generalize hna : d.ands.length = na at *
  obtain ⟨wb, hwb⟩ : ∃ wb, wb = w.alloc (.cells #[.int .i64 d.vars, .slice ai ni ci, .slice al nl cl, .slice ao no co, .slice ab nb cb, .slice ac nc cc, .slice am nm cm, .slice aa na ca] 27) := ⟨_, rfl⟩
  have hB1 : Below w.heap.size w wb := by rw [hwb]; exact below_new1 w _
  have hBX : NBox wb w.heap.size d (.slice ai ni ci) (.slice al nl cl) (.slice ao no co) (.slice ab nb cb) (.slice ac nc cc) (.slice am nm cm) (.slice aa na ca) := by rw [hwb]; exact NBox.new w _ _ _ _ _ _ _ _
  have hP := h.below hB1
  have hli := w06_light hP
  unfold netV at hli ⊢
  rw [hwb] at hli
  have HLI := Lib.hid hli
  have HB1 := Lib.hid hB1
  have HW1 := Lib.hid hwb
  have HBX := Lib.hid hBX
  have HP := Lib.hid hP
  clear h hli hwb hB1 hBX hP hna hni hnl hno hnb hnc hnm
  cases hq : lightD d with
  | false =>
    rw [hq] at HLI
    go_enter Try.func3, Try.ntmps3
    go_wp2_with fail
    refine HLI.out.mono ?_
    rintro e w2 ⟨rfl, hb⟩
    have HB2 := Lib.hid ((below_new1 w _).trans (hb.mono (by simp)))
    clear hb hq HLI
    go_wp2_with (go_at_call 8; refine (w06_alive w2).mono ?_; rintro e w3 ⟨rfl, hb3⟩; have HB3 := Lib.hid (HB2.out.trans (hb3.mono HB2.out.size)); clear hb3)
    go_ret
    exact ⟨rfl, HB3.out⟩
  | true =>
    rw [hq] at HLI
    have HQ := Lib.hid (lightD_iff hq)
    go_enter Try.func3, Try.ntmps3
    go_wp2_with fail
    refine HLI.out.mono ?_
    rintro e w2 ⟨rfl, hb⟩
    rw [← HW1.out] at hb
    have HB2 : Hid (Below w.heap.size w w2) := Lib.hid (HB1.out.trans (hb.mono HB1.out.size))
    have CK : Hid (∀ W, Below w2.heap.size w2 W → NBox W w.heap.size d (.slice ai ni ci) (.slice al nl cl) (.slice ao no co) (.slice ab nb cb) (.slice ac nc cc) (.slice am nm cm) (.slice aa na ca)) := Lib.hid fun W hW => (HBX.out.later hb).later hW
    have hp2 := HP.out.below hb
    have hc : ∀ W, Below w2.heap.size w2 W → Calls Try.prog 9 #[.agg #[.int .i64 d.vars, .slice ai ni ci, .slice al nl cl, .slice ao no co, .slice ab nb cb, .slice ac nc cc, .slice am nm cm, .slice aa na ca]] W fun e w' => e = .returned (.int .i64 (checkN d)) ∧ Below w2.heap.size w2 w' := fun W hW => (topo_Check (hp2.below hW) HQ.out.1).mono fun e w' hh => ⟨hh.1, hW.trans (hh.2.mono hW.size)⟩
    have hr : ∀ W, Below w2.heap.size w2 W → Calls Try.prog 10 #[.agg #[.int .i64 d.vars, .slice ai ni ci, .slice al nl cl, .slice ao no co, .slice ab nb cb, .slice ac nc cc, .slice am nm cm, .slice aa na ca]] W fun e w' => e = .returned (.int .i64 (checkN d)) ∧ Below w2.heap.size w2 w' := fun W hW => (r06_Check (hp2.below hW) HQ.out.1).mono fun e w' hh => ⟨hh.1, hW.trans (hh.2.mono hW.size)⟩
    have ha : ∀ W, Below w2.heap.size w2 W → Calls Try.prog 8 #[] W fun e w' => e = .returned (.bool true) ∧ Below w2.heap.size w2 w' := fun W hW => (w06_alive W).mono fun e w' hh => ⟨hh.1, hW.trans (hh.2.mono hW.size)⟩
    obtain ⟨c0, c1, c2, c3, c4, c5, c6, c7⟩ := (CK.out w2 (Below.refl _ _)).all
    have HC := Lib.hid hc
    have HR := Lib.hid hr
    have HA := Lib.hid ha
    generalize checkN d = kc at *
    clear hb hq HLI hc hr ha hp2
    go_wp2_with fail
    go_region_held3 (fun w' => w'.cell? ⟨w.heap.size, 0, none⟩ = some (.int .i64 d.vars) ∧ w'.cell? ⟨w.heap.size, 1, none⟩ = some (.slice ai ni ci) ∧ w'.cell? ⟨w.heap.size, 2, none⟩ = some (.slice al nl cl) ∧ w'.cell? ⟨w.heap.size, 3, none⟩ = some (.slice ao no co) ∧ w'.cell? ⟨w.heap.size, 4, none⟩ = some (.slice ab nb cb) ∧ w'.cell? ⟨w.heap.size, 5, none⟩ = some (.slice ac nc cc) ∧ w'.cell? ⟨w.heap.size, 6, none⟩ = some (.slice am nm cm) ∧ w'.cell? ⟨w.heap.size, 7, none⟩ = some (.slice aa na ca)) (go_keep) (first
      | (go_at_call 9; refine (HC.out _ (Below.refl _ _).drew).mono ?_; rintro e wa ⟨rfl, hq⟩; have Q1 := Lib.hid hq; obtain ⟨a0, a1, a2, a3, a4, a5, a6, a7⟩ := (CK.out _ hq).all; clear hq)
      | (go_at_call 10; refine (HR.out _ Q1.out).mono ?_; rintro e wd ⟨rfl, hq⟩; have Q2 := Lib.hid hq; obtain ⟨b0, b1, b2, b3, b4, b5, b6, b7⟩ := (CK.out _ hq).all; clear hq)
      | (go_at_call 8; refine (HA.out _ Q2.out).mono ?_; rintro e we ⟨rfl, hq⟩; have Q3 := Lib.hid hq; obtain ⟨e0, e1, e2, e3, e4, e5, e6, e7⟩ := (CK.out _ hq).all; clear hq))
    go_wp2
    go_ret
    exact ⟨by simp, HB2.out.trans (Q3.out.mono HB2.out.size)⟩
end Go.Proofs.Ytgnimegdgphlmaa
