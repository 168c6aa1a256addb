/-
  Chapter 06: TopoSupports walked.
-/
import Derived.Test.YtgnimegdgphlmaaR6E
import Derived.Test.YtgnimegdgphlmaaSame
import Derived.Test.YtgnimegdgphlmaaTopJ
namespace Go.Proofs.Ytgnimegdgphlmaa
open Go.ChangeShapes Go.WideShapes Go.ChangeAt Go.RowKit
set_option linter.unusedVariables false
set_option linter.unusedSimpArgs false
attribute [local go_sem ↓] Go.wp_at_zero Go.wp_at_succ
open Classical in
noncomputable def supL (d : NetD) (xs : List Int) : List Int := if GoodN d then lstN (fun v => decide (InSup (nodesN d) d.vars.toNat xs v)) (d.vars.toNat + 1) else []
open Classical in
theorem SupQ.ret {w : World} {d : NetD} {xs : List Int} {e : Ending} {w' : World} (h : SupQ w d xs e w') : RetI w (supL d xs) e w' := by
  rcases h with ⟨hn, hr⟩ | ⟨hg, V, m, hs, hm, hr⟩
  · unfold supL; rw [if_neg hn]; exact hr
  · unfold supL
    rw [if_pos hg]
    have hV : d.vars.toNat = V := by have := hs.vars; omega
    have he : m = fun v => decide (InSup (nodesN d) V xs v) := by
      funext v
      rw [Bool.eq_iff_iff, hm v]
      simp
    rw [hV, ← he]
    exact hr
set_option maxHeartbeats 4000000 in
set_option maxRecDepth 100000 in
theorem claw_supports {w : World} {d : NetD} {vi vl vo vb vc vm va : Value} (h : NetP w d vi vl vo vb vc vm va) {u : Value} {xs : List Int} (hI : Ints w u xs) :
    Calls Try.prog 4 #[netV d vi vl vo vb vc vm va, u] w fun e w' => e = .returned (.bool true) ∧ Below w.heap.size w w' := by
  obtain ⟨ai, ci, h1, -⟩ := id h.inp
  obtain ⟨al, cl, h2, -⟩ := h.lat.form
  obtain ⟨ao, co, h3, -⟩ := id h.out
  obtain ⟨ab, cb, h4, -⟩ := id h.bad
  obtain ⟨ac, cc, h5, -⟩ := id h.con
  obtain ⟨am, cm, h6, -⟩ := h.mems.form
  obtain ⟨aa, ca, h7, -⟩ := h.ands.form
  subst h1 h2 h3 h4 h5 h6 h7
  generalize hni : d.inp.length = ni at *
  generalize hnl : d.lat.length = nl at *
  generalize hno : d.out.length = no at *
  generalize hnb : d.bad.length = nb at *
  generalize hnc : d.con.length = nc at *
  generalize hnm : d.mems.length = nm at *
  generalize hna : d.ands.length = na at *
  obtain ⟨wb, hwb⟩ : ∃ wb, wb = w.alloc (.cells #[.int .i64 d.vars, .slice ai ni ci, .slice al nl cl, .slice ao no co, .slice ab nb cb, .slice ac nc cc, .slice am nm cm, .slice aa na ca] 27) := ⟨_, rfl⟩
  have hB1 : Below w.heap.size w wb := by rw [hwb]; exact below_new1 w _
  have hBX : NBox wb w.heap.size d (.slice ai ni ci) (.slice al nl cl) (.slice ao no co) (.slice ab nb cb) (.slice ac nc cc) (.slice am nm cm) (.slice aa na ca) := by rw [hwb]; exact NBox.new w _ _ _ _ _ _ _ _
  have hP := h.below hB1
  have hli := w06_light hP
  unfold netV at hli ⊢
  rw [hwb] at hli
  obtain ⟨au, cu, rfl, -, x1, x2, -⟩ := id hI
  obtain ⟨nx, hnx⟩ : ∃ n, n = xs.length := ⟨_, rfl⟩
  rw [← hnx] at hI x1 ⊢
  unfold maxLen at x2
  have HI := Lib.hid hI
  have HNX := Lib.hid hnx
  have HLI := Lib.hid hli
  have HB1 := Lib.hid hB1
  have HW1 := Lib.hid hwb
  have HBX := Lib.hid hBX
  have HP := Lib.hid hP
  clear h hli hwb hB1 hBX hP hI hnx hna hni hnl hno hnb hnc hnm
  cases hq : lightD d with
  | false =>
    rw [hq] at HLI
    go_enter Try.func4, Try.ntmps4
    go_wp2_with fail
    refine HLI.out.mono ?_
    rintro e w2 ⟨rfl, hb⟩
    have HB2 := Lib.hid ((below_new1 w _).trans (hb.mono (by simp)))
    clear hb hq HLI
    go_wp2_with (go_at_call 8; refine (w06_alive w2).mono ?_; rintro e w3 ⟨rfl, hb3⟩; have HB3 := Lib.hid (HB2.out.trans (hb3.mono HB2.out.size)); clear hb3)
    go_ret
    exact ⟨rfl, HB3.out⟩
  | true =>
    rw [hq] at HLI
    have HQ := Lib.hid (lightD_iff hq)
    clear hq
    by_cases hlen : (60 : Int) < (nx : Int)
    · go_enter Try.func4, Try.ntmps4
      go_wp2_with fail
      refine HLI.out.mono ?_
      rintro e w2 ⟨rfl, hb⟩
      have HB2 := Lib.hid ((below_new1 w _).trans (hb.mono (by simp)))
      clear hb HLI
      go_wp2_with (go_at_call 8; refine (w06_alive w2).mono ?_; rintro e w3 ⟨rfl, hb3⟩; have HB3 := Lib.hid (HB2.out.trans (hb3.mono HB2.out.size)); clear hb3)
      go_ret
      exact ⟨rfl, HB3.out⟩
    · go_enter Try.func4, Try.ntmps4
      go_wp2_with fail
      refine HLI.out.mono ?_
      rintro e w2 ⟨rfl, hb⟩
      rw [← HW1.out] at hb
      have HB2 : Hid (Below w.heap.size w w2) := Lib.hid (HB1.out.trans (hb.mono HB1.out.size))
      have CK : Hid (∀ W, Below w2.heap.size w2 W → NBox W w.heap.size d (.slice ai ni ci) (.slice al nl cl) (.slice ao no co) (.slice ab nb cb) (.slice ac nc cc) (.slice am nm cm) (.slice aa na ca)) := Lib.hid fun W hW => (HBX.out.later hb).later hW
      have HP2 := Lib.hid (HP.out.below hb)
      have HI2 := Lib.hid (HI.out.below HB2.out)
      clear hb HLI
      go_wp2
      go_loopw [5] (fun c wr => ∃ j : Nat, j ≤ nx ∧ c = .int .i64 j ∧ (∀ x ∈ xs.take j, 0 ≤ x ∧ x ≤ 1099511627776) ∧ wr = w2) (fun c _ => nx - (intOf c).toNat)
      case atStart => exact ⟨0, Nat.zero_le _, rfl, (fun x hx => by simp at hx), rfl⟩
      case round =>
        obtain ⟨j, hj, rfl, hall, rfl⟩ := hrel
        have HALL := Lib.hid hall
        clear hall
        by_cases hlt : (j : Int) < (nx : Int)
        · have hjn : j < xs.length := by have := HNX.out; omega
          obtain ⟨-, hii⟩ := ints_hii HI2.out
          obtain ⟨b, off, rfl, hcs⟩ := hii.resolve_left (fun e => by rw [e] at hjn; simp at hjn)
          have q := hcs j hjn
          have hts := take_snocI hjn
          obtain ⟨y, hy⟩ : ∃ y, y = xs.getD j 0 := ⟨_, rfl⟩
          rw [← hy] at q hts
          have HTS := Lib.hid hts
          clear hcs hii hts hy hjn
          by_cases hy0 : y < 0
          · go_wp2_with (go_at_call 8; refine (w06_alive _).mono ?_; rintro e w3 ⟨rfl, hb3⟩; have HB3 := Lib.hid (HB2.out.trans (hb3.mono HB2.out.size)); clear hb3)
            repeat rw [Exit.noGoto_ret]
            go_ret
            exact ⟨rfl, HB3.out⟩
          · by_cases hy1 : 1099511627776 < y
            · go_wp2_with (go_at_call 8; refine (w06_alive _).mono ?_; rintro e w3 ⟨rfl, hb3⟩; have HB3 := Lib.hid (HB2.out.trans (hb3.mono HB2.out.size)); clear hb3)
              repeat rw [Exit.noGoto_ret]
              go_ret
              exact ⟨rfl, HB3.out⟩
            · go_wp2
              go_roundw
              case rel =>
                refine ⟨j + 1, by omega, by go_num, fun x hx => ?_, by first | rfl | trivial⟩
                rw [HTS.out] at hx
                rcases List.mem_append.1 hx with h1 | h1
                · exact HALL.out x h1
                · simp at h1; subst h1; omega
              case measure => simp [intOf]; omega
        · obtain rfl : j = nx := by omega
          have hfull : xs.take j = xs := List.take_of_length_le (by have := HNX.out; omega)
          rw [hfull] at HALL
          have hxr : ∀ x ∈ xs, 0 ≤ x ∧ x ≤ 2305843009213693952 := fun x hx => by have := HALL.out x hx; omega
          have hxl : xs.length ≤ 1000 := by have := HNX.out; omega
          obtain ⟨L, hL⟩ : ∃ L, L = supL d xs := ⟨_, rfl⟩
          have hc : ∀ W, Below wr.heap.size wr W → Calls Try.prog 12 #[.agg #[.int .i64 d.vars, .slice ai ni ci, .slice al nl cl, .slice ao no co, .slice ab nb cb, .slice ac nc cc, .slice am nm cm, .slice aa na ca], .slice au j cu] W (RetI W L) := fun W hW => (topo_Support (HP2.out.below hW) HQ.out.1 (HI2.out.below hW) hxr hxl).mono fun e w' hh => by rw [hL]; exact hh.ret
          have hr : ∀ W, Below wr.heap.size wr W → Calls Try.prog 13 #[.agg #[.int .i64 d.vars, .slice ai ni ci, .slice al nl cl, .slice ao no co, .slice ab nb cb, .slice ac nc cc, .slice am nm cm, .slice aa na ca], .slice au j cu] W (RetI W L) := fun W hW => (r06_Support (HP2.out.below hW) HQ.out.1 (HI2.out.below hW) hxr hxl).mono fun e w' hh => by rw [hL]; exact hh.ret
          obtain ⟨c0, c1, c2, c3, c4, c5, c6, c7⟩ := (CK.out wr (Below.refl _ _)).all
          have HC := Lib.hid hc
          have HR := Lib.hid hr
          clear hc hr hL hxr hxl hfull
          go_wp2
          go_region_held3 (fun w' => w'.cell? ⟨w.heap.size, 0, none⟩ = some (.int .i64 d.vars) ∧ w'.cell? ⟨w.heap.size, 1, none⟩ = some (.slice ai ni ci) ∧ w'.cell? ⟨w.heap.size, 2, none⟩ = some (.slice al nl cl) ∧ w'.cell? ⟨w.heap.size, 3, none⟩ = some (.slice ao no co) ∧ w'.cell? ⟨w.heap.size, 4, none⟩ = some (.slice ab nb cb) ∧ w'.cell? ⟨w.heap.size, 5, none⟩ = some (.slice ac nc cc) ∧ w'.cell? ⟨w.heap.size, 6, none⟩ = some (.slice am nm cm) ∧ w'.cell? ⟨w.heap.size, 7, none⟩ = some (.slice aa na ca)) (go_keep) (first
            | (go_at_call 12; refine (HC.out _ (Below.refl _ _).drew).mono ?_; rintro e wa ⟨p1, rfl, hp1⟩; have P1 := Lib.hid hp1; have Q1 := Lib.hid (((Below.refl _ wr).drew).trans hp1.2.1); obtain ⟨a0, a1, a2, a3, a4, a5, a6, a7⟩ := (CK.out _ Q1.out).all; clear hp1)
            | (go_at_call 13; refine (HR.out _ Q1.out).mono ?_; rintro e wd ⟨p2, rfl, hp2⟩; have P2 := Lib.hid hp2; have Q2 := Lib.hid (Q1.out.trans (hp2.2.1.mono Q1.out.size)); obtain ⟨b0, b1, b2, b3, b4, b5, b6, b7⟩ := (CK.out _ Q2.out).all; clear hp2)
            | (go_at_call 11; refine (r01_Same (P1.out.below P2.out.2.1).ints P2.out.ints).mono ?_; rintro e we ⟨rfl, ne, rfl⟩; rw [sameB_self]; have Q3 := Lib.hid (Q2.out.trans ((below_drewN (Below.refl _ wd) ne).mono Q2.out.size)); obtain ⟨d0, d1, d2, d3, d4, d5, d6, d7⟩ := (CK.out _ Q3.out).all)
            | (go_at_call 8; refine (w06_alive _).mono ?_; rintro e wf ⟨rfl, hq⟩; have Q4 := Lib.hid (Q3.out.trans (hq.mono Q3.out.size)); obtain ⟨e0, e1, e2, e3, e4, e5, e6, e7⟩ := (CK.out _ Q4.out).all; clear hq))
          go_wp2
          go_ret
          exact ⟨by simp, HB2.out.trans (Q4.out.mono HB2.out.size)⟩
end Go.Proofs.Ytgnimegdgphlmaa
