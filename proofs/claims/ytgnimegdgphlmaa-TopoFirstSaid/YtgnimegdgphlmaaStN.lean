/-
  Chapter 06: TopoFirst walked.
-/
import Derived.Test.YtgnimegdgphlmaaStK
import Derived.Deep.CutBlock
import Derived.Deep.DeepCutAuto
namespace Go.Proofs.Ytgnimegdgphlmaa
open Go.ChangeShapes Go.WideShapes Go.ChangeAt Go.RowKit
set_option linter.unusedVariables false
set_option linter.unusedSimpArgs false
attribute [local go_sem ↓] Go.wp_at_zero Go.wp_at_succ
/-- The row of what is there. -/
def TW (bt V : Nat) (w6 : World) (W : World) (m : Int → Bool) : Prop := VBlk W bt 4 (V + 1) (fun i => .bool (m i)) ∧ Chg (fun k => k = bt) w6 W
theorem TW.set_ {bt V : Nat} {w6 W : World} {m : Int → Bool} (h : TW bt V w6 W m) (k : Nat) : TW bt V w6 (W.setCell ⟨bt, k, none⟩ (.bool true)) (fun v => if v = (k : Int) then true else m v) := by
  refine ⟨(h.1.set_ k _).ext (fun i _ => ?_), h.2.setCell (p := ⟨bt, k, none⟩) (.inl rfl) _⟩
  by_cases e : i = k
  · simp [e]
  · have e2 : ¬ (i : Int) = (k : Int) := by omega
    simp [e, e2]
theorem TW.below {bt V : Nat} {w6 W W' : World} {m : Int → Bool} (h : TW bt V w6 W m) (hb : Below W.heap.size W W') : TW bt V w6 W' m := ⟨h.1.later hb, h.2.trans (Chg.of_below (S := fun k => k = bt) hb) (fun i hi => .inl hi)⟩
/-- What a node reads and tells, laid in two slices. -/
def FT (bt V : Nat) (w6 : World) (m : Int → Bool) (fs ts : List Int) (f t : Value) (wx : World) : Prop := Ints wx f fs ∧ Ints wx t ts ∧ TW bt V w6 wx m ∧ ∀ b, t.ownBlock = some b → b = bt → False
set_option maxHeartbeats 16000000 in
set_option maxRecDepth 100000 in
theorem claw_first {w : World} {d : NetD} {vi vl vo vb vc vm va : Value} (h : NetP w d vi vl vo vb vc vm va) :
    Calls Try.prog 6 #[netV d vi vl vo vb vc vm va] w fun e w' => e = .returned (.bool true) ∧ Below w.heap.size w w' := by
  obtain ⟨ai, ci, h1, -⟩ := id h.inp
  obtain ⟨al, cl, h2, -⟩ := h.lat.form
  obtain ⟨ao, co, h3, -⟩ := id h.out
  obtain ⟨ab, cb, h4, -⟩ := id h.bad
  obtain ⟨ac, cc, h5, -⟩ := id h.con
  obtain ⟨am, cm, h6, -⟩ := h.mems.form
  obtain ⟨aa, ca, h7, -⟩ := h.ands.form
  subst h1 h2 h3 h4 h5 h6 h7
  generalize hni : d.inp.length = ni at *
  generalize hnl : d.lat.length = nl at *
  generalize hno : d.out.length = no at *
  generalize hnb : d.bad.length = nb at *
  generalize hnc : d.con.length = nc at *
  generalize hnm : d.mems.length = nm at *
  generalize hna : d.ands.length = na at *
  obtain ⟨wb, hwb⟩ : ∃ wb, wb = w.alloc (.cells #[.int .i64 d.vars, .slice ai ni ci, .slice al nl cl, .slice ao no co, .slice ab nb cb, .slice ac nc cc, .slice am nm cm, .slice aa na ca] 27) := ⟨_, rfl⟩
  have hB1 : Below w.heap.size w wb := by rw [hwb]; exact below_new1 w _
  have hBX : NBox wb w.heap.size d (.slice ai ni ci) (.slice al nl cl) (.slice ao no co) (.slice ab nb cb) (.slice ac nc cc) (.slice am nm cm) (.slice aa na ca) := by rw [hwb]; exact NBox.new w _ _ _ _ _ _ _ _
  have hP := h.below hB1
  have hli := w06_light hP
  unfold netV at hli ⊢
  rw [hwb] at hli
  have HLI := Lib.hid hli
  have HB1 := Lib.hid hB1
  have HW1 := Lib.hid hwb
  have HBX := Lib.hid hBX
  have HP := Lib.hid hP
  have HNI := Lib.hid hni
  have HNL := Lib.hid hnl
  have HNM := Lib.hid hnm
  have HNA := Lib.hid hna
  clear h hli hwb hB1 hBX hP hna hni hnl hno hnb hnc hnm
  cases hq : lightD d with
  | false =>
    rw [hq] at HLI
    go_enter Try.func6, Try.ntmps6
    go_wp2_with fail
    refine HLI.out.mono ?_
    rintro e w2 ⟨rfl, hb⟩
    have HB2 := Lib.hid ((below_new1 w _).trans (hb.mono (by simp)))
    clear hb hq HLI
    go_wp2_with (go_at_call 8; refine (w06_alive w2).mono ?_; rintro e w3 ⟨rfl, hb3⟩; have HB3 := Lib.hid (HB2.out.trans (hb3.mono HB2.out.size)); clear hb3)
    go_ret
    exact ⟨rfl, HB3.out⟩
  | true =>
    rw [hq] at HLI
    have HQ := Lib.hid (lightD_iff hq)
    clear hq
    go_enter Try.func6, Try.ntmps6
    go_wp2_with fail
    refine HLI.out.mono ?_
    rintro e w2 ⟨rfl, hb⟩
    rw [← HW1.out] at hb
    have HB2 : Hid (Below w.heap.size w w2) := Lib.hid (HB1.out.trans (hb.mono HB1.out.size))
    have CK : Hid (∀ W, Below w2.heap.size w2 W → NBox W w.heap.size d (.slice ai ni ci) (.slice al nl cl) (.slice ao no co) (.slice ab nb cb) (.slice ac nc cc) (.slice am nm cm) (.slice aa na ca)) := Lib.hid fun W hW => (HBX.out.later hb).later hW
    have HP2 := Lib.hid (HP.out.below hb)
    have H1 : Hid (Calls Try.prog 9 #[.agg #[.int .i64 d.vars, .slice ai ni ci, .slice al nl cl, .slice ao no co, .slice ab nb cb, .slice ac nc cc, .slice am nm cm, .slice aa na ca]] w2 (RetF w2 (checkN d))) := Lib.hid (topo_Check HP2.out HQ.out.1)
    have H2 : Hid (∀ W, Below w2.heap.size w2 W → Calls Try.prog 16 #[.agg #[.int .i64 d.vars, .slice ai ni ci, .slice al nl cl, .slice ao no co, .slice ab nb cb, .slice ac nc cc, .slice am nm cm, .slice aa na ca]] W (OrdTU W d)) := Lib.hid fun W hW => (topo_Order (HP2.out.below hW) HQ.out.1).mono fun e w' hh => hh.u
    have H3 : Hid (∀ W, Below w2.heap.size w2 W → Calls Try.prog 18 #[.agg #[.int .i64 d.vars, .slice ai ni ci, .slice al nl cl, .slice ao no co, .slice ab nb cb, .slice ac nc cc, .slice am nm cm, .slice aa na ca]] W (RetL W.heap.size W (nodesN d))) := Lib.hid fun W hW => r06_Nodes (HP2.out.below hW) (Below.refl _ _) HQ.out.1
    obtain ⟨c0, c1, c2, c3, c4, c5, c6, c7⟩ := (CK.out w2 (Below.refl _ _)).all
    obtain ⟨f, hf⟩ : ∃ f, f = checkN d := ⟨_, rfl⟩
    rw [← hf] at H1
    have HF0 := Lib.hid hf
    clear hb HLI hf
    by_cases hc : f = 0
    · have HC : Hid (checkN d = 0) := Lib.hid (by rw [← HF0.out]; exact hc)
      have hb0 : (f != 0) = false := by rw [bne_eq_false_iff_eq]; exact hc
      clear hc
      go_wp2_with fail
      refine H1.out.mono ?_
      rintro e w3 ⟨rfl, b1⟩
      have B1 := Lib.hid b1
      clear c0 c1 c2 c3 c4 c5 c6 c7 b1
      obtain ⟨c0, c1, c2, c3, c4, c5, c6, c7⟩ := (CK.out w3 B1.out).all
      go_wp2_with fail
      refine (H2.out _ B1.out).mono ?_
      rintro e w4 ⟨v3, rfl, t3, b2⟩
      rw [goodB_yes HC.out]
      have B2 := Lib.hid (B1.out.trans (b2.mono B1.out.size))
      have T3 := Lib.hid t3.1
      obtain ⟨A3, cap3, rfl, z31, z32⟩ := row3_form t3.1
      clear c0 c1 c2 c3 c4 c5 c6 c7 t3 b2
      obtain ⟨c0, c1, c2, c3, c4, c5, c6, c7⟩ := (CK.out w4 B2.out).all
      go_wp2_with fail
      refine (H3.out _ B2.out).mono ?_
      rintro e w5 ⟨v4, us, rfl, t4⟩
      have b3 := t4.low
      have B3 := Lib.hid (B2.out.trans (b3.mono B2.out.size))
      obtain ⟨A4, cap4, rfl, z41, z42⟩ := t4.form
      have T3' := Lib.hid (T3.out.chg (S := fun _ => False) (Chg.of_below b3) (fun _ _ h => h))
      clear c0 c1 c2 c3 c4 c5 c6 c7 t4 b3 T3
      obtain ⟨c0, c1, c2, c3, c4, c5, c6, c7⟩ := (CK.out w5 B3.out).all
      obtain ⟨-, V, hs, -⟩ := good_iff.1 HC.out
      have hV := hs.lim
      have hdv := hs.vars
      rw [hdv] at c0
      have HS := Lib.hid hs
      have HDV := Lib.hid hdv
      obtain ⟨n, hn⟩ : ∃ n, n = (ordD d).length := ⟨_, rfl⟩
      have hnn : (nodesN d).length = n := by rw [hn]; exact (ordD_good HC.out).1.symm
      have hn9 : n ≤ 2016 := by rw [hn]; exact (ordD_len d).1
      have HN := Lib.hid hn
      rw [← hn] at T3' z31
      rw [hnn] at z41
      rw [← hn, hnn]
      have hni9 : ni ≤ 2000 := by
        have h1 := hs.defs.len
        have h2 := HNI.out
        unfold definedN at h1
        simp only [List.length_append] at h1
        omega
      have hnl9 : nl ≤ 2000 := by
        have h1 := hs.defs.len
        have h2 := HNL.out
        unfold definedN at h1
        simp only [List.length_append, List.length_map] at h1
        omega
      have hmk := fun W => run_makeN (P := Try.prog) 48 4 (.bool false) 1 1 Try.underlying48 infoB .i64 .i64 (V + 1) (V + 1) (Nat.le_refl _) (by omega) (by omega) W
      rw [show ((V + 1 : Nat) : Int) = (V : Int) + 1 by omega] at hmk
      clear hs hdv hn hnn H1 H2 H3
      have hvb := VBlk.made1 w5 4 (.bool false) (V + 1) (f := fun i => .bool ((fun _ : Int => false) (i : Int))) (fun i _ => rfl)
      have k0 := hvb.cell (show 0 < V + 1 by omega)
      have k1 := hvb.frozen 0
      have hz : (0 : Int) < (V : Int) + 1 := by omega
      have HVB := Lib.hid hvb
      obtain ⟨bt, hbt⟩ : ∃ bt, bt = w5.heap.size := ⟨_, rfl⟩
      have HBT := Lib.hid hbt
      clear hvb hbt
      go_wp2
      clear hmk k0 k1 c0 c1 c2 c3 c4 c5 c6 c7
      have hws : (w5.alloc (.cells (madeCells #[.bool false] (V + 1)) 4)).setCell ⟨w5.heap.size, 0, none⟩ (.bool true) = w5.alloc (.cells ((madeCells #[.bool false] (V + 1)).setIfInBounds 0 (.bool true)) 4) := by simp [go_sem]
      obtain ⟨w6, hw6⟩ : ∃ w6, w6 = (w5.alloc (.cells (madeCells #[.bool false] (V + 1)) 4)).setCell ⟨w5.heap.size, 0, none⟩ (.bool true) := ⟨_, rfl⟩
      rw [← hws, ← hw6, ← HBT.out]
      clear hws
      have HT0 : Hid (TW bt V w6 w6 (fun v => if v = 0 then true else false)) := Lib.hid ⟨by
        rw [hw6, HBT.out]
        refine (HVB.out.set_ 0 (.bool true)).ext (fun i _ => ?_)
        by_cases e : i = 0 <;> simp [e], Chg.refl _ _⟩
      have hB6 : Below w5.heap.size w5 w6 := by rw [hw6]; exact (below_new1 _ _).setCell (Nat.le_refl _) _
      have LOW : Hid (∀ W, Chg (fun k => k = bt) w6 W → Below w2.heap.size w2 W) := Lib.hid fun W hc => by
        have h1 := B3.out.trans (hB6.mono B3.out.size)
        exact h1.trans (hc.below h1.size (fun k hk => by rw [hk, HBT.out]; exact B3.out.size))
      have TROW : Hid (∀ W, Chg (fun k => k = bt) w6 W → Row W 44 3 (.slice A3 n cap3) n ((ordD d).flatMap nodeC)) := Lib.hid fun W hc => by
        have h1 := T3'.out.lt
        refine (T3'.out.chg (S := fun _ => False) (Chg.of_below hB6) (fun _ _ h => h)).chg hc fun g hg e => ?_
        have := h1 g hg
        rw [e, HBT.out] at this
        omega
      have HWB : Hid (w2.heap.size ≤ bt) := Lib.hid (by rw [HBT.out]; exact B3.out.size)
      clear hw6 hB6 HVB T3'
      go_wp2
      go_loopw [6] (fun c wr => ∃ j : Nat, ∃ m : Int → Bool, j ≤ ni ∧ c = .int .i64 j ∧ TW bt V w6 wr m ∧ m 0 = true ∧ ∀ v ∈ d.inp.take j, m v = true) (fun c _ => ni - (intOf c).toNat)
      case atStart => exact ⟨0, _, Nat.zero_le _, rfl, HT0.out, by simp, fun v hv => by simp at hv⟩
      case round =>
        obtain ⟨j1, m1, hj1, rfl, htw1, hm01, hmi1⟩ := hrel
        have HTW1 := Lib.hid htw1
        have HM01 := Lib.hid hm01
        have HMI1 := Lib.hid hmi1
        have hlow := LOW.out wr htw1.2
        obtain ⟨c0, c1, c2, c3, c4, c5, c6, c7⟩ := (CK.out wr hlow).all
        clear HT0 htw1 hm01 hmi1 c0 c2 c3 c4 c5 c6 c7
        by_cases hlt1 : (j1 : Int) < (ni : Int)
        · have hjn : j1 < d.inp.length := by have := HNI.out; omega
          have hI := (HP2.out.below hlow).inp
          obtain ⟨-, hii⟩ := ints_hii hI
          obtain ⟨b, off, rfl, hcs⟩ := hii.resolve_left (fun e => by rw [e] at hjn; simp at hjn)
          have q := hcs j1 hjn
          have hym := mem_getD 0 hjn
          have htk := take_snocI hjn
          obtain ⟨y, hy⟩ : ∃ y, y = d.inp.getD j1 0 := ⟨_, rfl⟩
          rw [← hy] at q hym htk
          have hyr := HS.out.defs.rng y (by unfold definedN; simp [hym])
          obtain ⟨yn, rfl⟩ : ∃ yn : Nat, y = yn := ⟨y.toNat, by omega⟩
          have hynV : yn < V + 1 := by omega
          have hynV2 : (yn : Int) < (V : Int) + 1 := by omega
          have cb := HTW1.out.1.cell hynV
          have cf := HTW1.out.1.frozen yn
          have HTK := Lib.hid htk
          have HNW := Lib.hid (HTW1.out.set_ yn)
          clear hcs hii hy hjn htk hym hyr hI hlow
          go_wp2
          go_roundw
          case rel =>
            refine ⟨j1 + 1, _, by omega, by go_num, HNW.out, ?_, fun v hv => ?_⟩
            · show (if (0 : Int) = (yn : Int) then true else m1 0) = true
              split
              · rfl
              · exact HM01.out
            · rw [HTK.out, List.mem_append] at hv
              show (if v = (yn : Int) then true else m1 v) = true
              split
              · rfl
              · rcases hv with hv | hv
                · exact HMI1.out v hv
                · simp at hv; contradiction
          case measure => simp [intOf]; omega
        · obtain rfl : j1 = ni := by omega
          have hfull : d.inp.take j1 = d.inp := List.take_of_length_le (by have := HNI.out; omega)
          rw [hfull] at HMI1
          obtain ⟨wo, rfl⟩ : ∃ wo : World, wo = wr := ⟨_, rfl⟩
          clear hfull hlow
          go_wp2
          go_loopw [7] (fun c wr => ∃ j : Nat, ∃ m : Int → Bool, j ≤ nl ∧ c = .int .i64 j ∧ TW bt V w6 wr m ∧ m 0 = true ∧ (∀ v ∈ d.inp, m v = true) ∧ ∀ t ∈ d.lat.take j, m t.1 = true) (fun c _ => nl - (intOf c).toNat)
          case atStart => exact ⟨0, m1, Nat.zero_le _, rfl, HTW1.out, HM01.out, HMI1.out, fun v hv => by simp at hv⟩
          case round =>
            obtain ⟨j2, m2, hj2, rfl, htw2, hm02, hmi2, hml2⟩ := hrel
            clear HTW1 HM01 HMI1
            have HTW2 := Lib.hid htw2
            have HM02 := Lib.hid hm02
            have HMI2 := Lib.hid hmi2
            have HML2 := Lib.hid hml2
            have hlow := LOW.out wr htw2.2
            obtain ⟨c0, c1, c2, c3, c4, c5, c6, c7⟩ := (CK.out wr hlow).all
            clear htw2 hm02 hmi2 hml2 c0 c1 c3 c4 c5 c6 c7
            by_cases hlt2 : (j2 : Int) < (nl : Int)
            · have hjn : j2 < d.lat.length := by have := HNL.out; omega
              obtain ⟨b, off, cap', e9, q, -, -⟩ := (HP2.out.below hlow).lat.at_ hjn
              injection e9 with e91 e92 e93
              subst e91
              have htk := take_succ_D tri0 hjn
              have hym : (d.lat.getD j2 tri0) ∈ d.lat := getD_mem hjn
              obtain ⟨t, ht⟩ : ∃ t, t = d.lat.getD j2 tri0 := ⟨_, rfl⟩
              rw [← ht] at q hym htk
              obtain ⟨y, hy⟩ : ∃ y, y = t.1 := ⟨_, rfl⟩
              rw [← hy] at q
              have hyr := HS.out.defs.rng y (by unfold definedN; rw [hy]; simp only [List.mem_append, List.mem_map]; exact .inl (.inl (.inr ⟨t, hym, rfl⟩)))
              obtain ⟨yn, rfl⟩ : ∃ yn : Nat, y = yn := ⟨y.toNat, by omega⟩
              have hynV : yn < V + 1 := by omega
              have hynV2 : (yn : Int) < (V : Int) + 1 := by omega
              have cb := HTW2.out.1.cell hynV
              have cf := HTW2.out.1.frozen yn
              have HTK := Lib.hid htk
              have HY := Lib.hid hy
              have HNW := Lib.hid (HTW2.out.set_ yn)
              clear hy hjn htk hym hyr hlow ht e92 e93
              go_wp2
              go_roundw
              case rel =>
                refine ⟨j2 + 1, _, by omega, by go_num, HNW.out, ?_, fun v hv => ?_, fun u hu => ?_⟩
                · show (if (0 : Int) = (yn : Int) then true else m2 0) = true
                  split
                  · rfl
                  · exact HM02.out
                · show (if v = (yn : Int) then true else m2 v) = true
                  split
                  · rfl
                  · exact HMI2.out v hv
                · rw [HTK.out, List.mem_append] at hu
                  show (if u.1 = (yn : Int) then true else m2 u.1) = true
                  split
                  · rfl
                  · rename_i hne
                    rcases hu with hu | hu
                    · exact HML2.out u hu
                    · simp at hu
                      rw [hu, ← HY.out] at hne
                      exact absurd rfl hne
              case measure => simp [intOf]; omega
            · obtain rfl : j2 = nl := by omega
              have hfull : d.lat.take j2 = d.lat := List.take_of_length_le (by have := HNL.out; omega)
              rw [hfull] at HML2
              obtain ⟨wo2, rfl⟩ : ∃ wo2 : World, wo2 = wr := ⟨_, rfl⟩
              have HTH : Hid (There d ((ordD d).take 0) m2) := Lib.hid ⟨HM02.out, HMI2.out, HML2.out, fun x hx => by simp at hx⟩
              clear hfull hlow
              go_wp2
              go_loopw [8, 9, 10, 11, 12] (fun c _ _ _ _ wr => ∃ j : Nat, ∃ m : Int → Bool, j ≤ n ∧ c = .int .i64 j ∧ TW bt V w6 wr m ∧ There d ((ordD d).take j) m) (fun c _ _ _ _ _ => n - (intOf c).toNat)
              case atStart => exact ⟨0, m2, Nat.zero_le _, rfl, HTW2.out, HTH.out⟩
              case round =>
                obtain ⟨j, m, hj, rfl, htw, hth⟩ := hrel
                clear HTW2 HTH
                have HTW := Lib.hid htw
                have HTH := Lib.hid hth
                have hlow := LOW.out wr htw.2
                have hrow := TROW.out wr htw.2
                clear htw hth
                obtain ⟨wo3, rfl⟩ : ∃ wo3 : World, wo3 = wr := ⟨_, rfl⟩
                by_cases hlt : (j : Int) < (n : Int)
                · have hjn : j < (ordD d).length := by have := HN.out; omega
                  obtain ⟨g, cp, e3, q0, q1, q2⟩ := row3_node (ls := ordD d) (by have := hrow; rw [HN.out] at this; exact this) hjn
                  injection e3 with e31 e32 e33
                  subst e31
                  obtain ⟨x, hx⟩ : ∃ x, x = (ordD d).getD j node0 := ⟨_, rfl⟩
                  have hxm : x ∈ nodesN d := by rw [hx]; exact (ordD_len d).2 _ (getD_mem hjn)
                  obtain ⟨fs, hfs⟩ : ∃ fs, fs = x.frm := ⟨_, rfl⟩
                  obtain ⟨ts, hts⟩ : ∃ ts, ts = x.vars := ⟨_, rfl⟩
                  have HHAS : Hid (∀ y ∈ fs, m (y / 2) = true) := Lib.hid fun y hy => HTH.out.has HC.out hjn (by rw [← hx, ← hfs]; exact hy)
                  have HFR : Hid (∀ y ∈ fs, 0 ≤ y ∧ y ≤ 2 * (V : Int) + 1) := Lib.hid fun y hy => by
                    obtain ⟨i, hi, e⟩ := getD_idx (d := node0) hxm
                    exact HS.out.nodes.frng i hi y (by rw [e, ← hfs]; exact hy)
                  have HTR : Hid (∀ y ∈ ts, 1 ≤ y ∧ y ≤ (V : Int)) := Lib.hid fun y hy => by
                    obtain ⟨i, hi, e⟩ := getD_idx (d := node0) hxm
                    exact HS.out.nodes.vrng i hi y (by rw [e, ← hts]; exact hy)
                  have HNEXT : Hid (∀ m2 : Int → Bool, (∀ v, m v = true → m2 v = true) → (∀ v ∈ ts, m2 v = true) → There d ((ordD d).take (j + 1)) m2) := Lib.hid fun m2 a b => HTH.out.next hjn a (by rw [← hx, ← hts]; exact b)
                  rw [← hx] at q0 q1 q2
                  have hxn := isNode_mem hxm
                  obtain ⟨w7, hw7⟩ : ∃ w7, w7 = (wo3.alloc (.cells #[] 3)).alloc (.cells #[] 3) := ⟨_, rfl⟩
                  have hb7 : Below wo3.heap.size wo3 w7 := by rw [hw7]; exact ((Below.refl _ wo3).alloc (Nat.le_refl _) _).alloc (by simp) _
                  have hlow7 := hlow.trans (hb7.mono hlow.size)
                  have HTW7 := Lib.hid (HTW.out.below hb7)
                  replace q0 := cell_below q0 hb7
                  replace q1 := cell_below q1 hb7
                  replace q2 := cell_below q2 hb7
                  obtain ⟨-, -, -, -, -, -, c6, c7⟩ := (CK.out w7 hlow7).all
                  have HL7 := Lib.hid hlow7
                  have HBO : Hid (bt < w7.heap.size) := Lib.hid HTW7.out.1.lt
                  clear hlow hrow hjn hxm hx e32 e33 hb7
                  obtain ⟨rb, hrb⟩ : ∃ rb, rb = x.read := ⟨_, rfl⟩
                  rw [← hrb] at q0
                  have HW7 := Lib.hid hw7
                  rw [hw7] at q0
                  have HXN := Lib.hid hxn
                  have HFX := Lib.hid hfs
                  have HTX := Lib.hid hts
                  have HRB := Lib.hid hrb
                  have HC67 := Lib.hid (show _ ∧ _ ∧ _ ∧ _ from ⟨c6, c7, q1, q2⟩)
                  clear hw7 hxn hfs hts hrb c6 c7 q1 q2 hlow7
                  go_upto_if 84 with (fail)
                  rw [← HW7.out]
                  clear q0
                  go_cut [9, 10] (fun f t wx => FT bt V w6 m fs ts f t wx)
                  case first =>
                    have hlow7 := HL7.out
                    have hfs := HFX.out
                    have hts := HTX.out
                    have hrb := HRB.out
                    obtain ⟨c6, c7, q1, q2⟩ := HC67.out
                    rcases HXN.out with ⟨hp, he⟩ | ⟨hmm, hp, he⟩
                    · obtain ⟨b, off, cap', hva, h0, h1, h2⟩ := (HP2.out.below hlow7).ands.at_ hp
                      injection hva with hv1 hv2 hv3
                      subst hv1
                      obtain ⟨y, hy⟩ : ∃ y, y = d.ands.getD x.pos tri0 := ⟨_, rfl⟩
                      rw [← hy] at h0 h1 h2
                      obtain ⟨y1, y2, y3⟩ := y
                      have hfs' : fs = [y2, y3] := by rw [hfs, he, ← hy]; rfl
                      have hts' : ts = [y1] := by rw [hts, he, ← hy]; rfl
                      have hxr : x.read = false := by rw [he]; rfl
                      rw [hxr] at hrb
                      subst hrb
                      have hpn : (x.pos : Int) < (na : Int) := by have := HNA.out; omega
                      have hna9 : na ≤ 2000 := by have := HNA.out; have := HS.out.ands; omega
                      generalize x.pos = p at *
                      have KA : Hid (∀ W, Below w7.heap.size w7 W → W.cell? ⟨w.heap.size, 7, none⟩ = some (.slice (some ⟨b, off, none⟩) na ca) ∧ W.cell? ⟨g, j * 3 + 2, none⟩ = some (.int .i64 (p : Int)) ∧ W.cell? ⟨b, off + p * 3, none⟩ = some (.int .i64 y1) ∧ W.cell? ⟨b, off + p * 3 + 1, none⟩ = some (.int .i64 y2) ∧ W.cell? ⟨b, off + p * 3 + 2, none⟩ = some (.int .i64 y3)) := Lib.hid fun W hb => ⟨cell_below c7 hb, cell_below q2 hb, cell_below h0 hb, cell_below h1 hb, cell_below h2 hb⟩
                      have HFS' := Lib.hid hfs'
                      have HTS' := Lib.hid hts'
                      clear hp he hy hfs hts hxr hv2 hv3 h0 h1 h2 c6 c7 q1 q2 hlow7 hfs' hts'
                      go_wp2
                      obtain ⟨a7, n2, h0, h1, h2⟩ := KA.out w7 (Below.refl _ _)
                      go_region
                      go_wp2
                      clear a7 n2 h0 h1 h2
                      obtain ⟨w8, hw8⟩ : ∃ w8, w8 = (w7.alloc (.cells #[.int .i64 y2, .int .i64 y3] 3)).drew := ⟨_, rfl⟩
                      rw [← hw8]
                      have hB8 : Below w7.heap.size w7 w8 := by rw [hw8]; exact (below_new1 _ _).drew
                      have hI8 : Ints w8 (.slice (some ⟨w7.heap.size, 0, none⟩) 2 2) [y2, y3] := by rw [hw8]; exact ints_two w7 y2 y3
                      obtain ⟨a7, n2, h0, h1, h2⟩ := KA.out w8 hB8
                      have HB8 := Lib.hid hB8
                      have HI8 := Lib.hid hI8
                      clear hw8 hB8 hI8
                      go_region
                      go_wp2
                      clear a7 n2 h0 h1 h2
                      obtain ⟨w9, hw9⟩ : ∃ w9, w9 = (w8.alloc (.cells #[.int .i64 y1] 3)).drew := ⟨_, rfl⟩
                      rw [← hw9]
                      have hB9 : Below w8.heap.size w8 w9 := by rw [hw9]; exact (below_new1 _ _).drew
                      have HTI : Hid (Ints w9 (.slice (some ⟨w8.heap.size, 0, none⟩) 1 1) ts) := Lib.hid (by rw [HTS'.out, hw9]; exact ints_one w8 y1)
                      have HFI : Hid (Ints w9 (.slice (some ⟨w7.heap.size, 0, none⟩) 2 2) fs) := Lib.hid (by rw [HFS'.out]; exact HI8.out.below hB9)
                      have HTW9 := Lib.hid ((HTW7.out.below HB8.out).below hB9)
                      have HTF : Hid (∀ b, (Value.slice (some ⟨w8.heap.size, 0, none⟩) 1 1).ownBlock = some b → b = bt → False) := Lib.hid fun b hb e => by
                        injection hb with hb
                        have := HB8.out.size
                        have := HBO.out
                        simp at hb
                        omega
                      have HFS : Hid (fs.length = 2) := Lib.hid (by rw [HFS'.out]; rfl)
                      have HTS : Hid (ts.length = 1) := Lib.hid (by rw [HTS'.out]; rfl)
                      clear hw9 hB9
                      go_wp2
                      go_meet
                      exact ⟨HFI.out, HTI.out, HTW9.out, HTF.out⟩
                    · obtain ⟨b, off, cap', hvm, hmem⟩ := (HP2.out.below hlow7).mems.at_ hmm
                      injection hvm with hv1 hv2 hv3
                      subst hv1
                      obtain ⟨mm, hmme⟩ : ∃ mm, mm = d.mems.getD x.mem mem0 := ⟨_, rfl⟩
                      have hlm := liM_parts ((lightN_iff HQ.out.1).2 x.mem hmm)
                      rw [← hmme] at hmem hlm hp
                      obtain ⟨u1, u2, y0, y1, y2, y3, y4, hmv⟩ := hmem.val
                      obtain ⟨ra, rc, nr, wa, wc, nw, hag, hnr, hnw, r1, r2, s1, s2, HSR, -⟩ := hmv.open_
                      injection hag with hag
                      simp only [Array.mk.injEq, List.cons.injEq, true_and, and_true] at hag
                      obtain ⟨rfl, rfl⟩ := hag
                      obtain ⟨b2, off2, cap2, he2, -, u, hu1, hu2⟩ := HSR.out.at_ hp
                      injection he2 with e1 e2 e3
                      subst e1
                      have hxr : x.read = true := by rw [he]; rfl
                      have hfs' : fs = (mm.rd.getD x.pos rd0).2 := by rw [hfs, he, hmme]; rfl
                      have hts' : ts = dataM (mm.rd.getD x.pos rd0).1 mm.word := by rw [hts, he, hmme]; rfl
                      have hlr := of_decide_eq_true (hlm.2.1 x.pos hp)
                      have HD : Hid (∀ W, Below w7.heap.size w7 W → Calls Try.prog 19 #[.agg #[.int .i64 mm.addr, .int .i64 mm.word, .bool mm.any, .slice (some ⟨b2, off2, none⟩) nr rc, .slice wa nw wc], .int .i64 x.pos] W (RetI W ts)) := Lib.hid fun W hW => by
                        rw [hts']
                        exact r05_Data (hmv.below hW) hlm.1 hp ⟨hlr.2.2, hlr.2.1⟩
                      rw [← hfs'] at hu2
                      obtain ⟨nf, hnf⟩ : ∃ nf, nf = fs.length := ⟨_, rfl⟩
                      obtain ⟨ua, ucap, hue, -, hnf8, hnf9, -⟩ := id hu2
                      rw [← hnf] at hue hnf8
                      unfold maxLen at hnf9
                      subst hue
                      have HFS : Hid (fs.length = nf) := Lib.hid hnf.symm
                      rw [hxr] at hrb
                      subst hrb
                      have hm4 : nm ≤ 4 := by have := HNM.out; have := HS.out.mems; omega
                      have hmn : (x.mem : Int) < (nm : Int) := by have := HNM.out; omega
                      have hr6 : nr ≤ 6 := by have := of_decide_eq_true hlm.1; omega
                      have hpn : (x.pos : Int) < (nr : Int) := by omega
                      generalize x.mem = mi at *
                      generalize x.pos = p at *
                      have HU := Lib.hid hu2
                      have KA : Hid (w7.cell? ⟨w.heap.size, 6, none⟩ = some (.slice (some ⟨b, off, none⟩) nm cm) ∧ w7.cell? ⟨g, j * 3 + 1, none⟩ = some (.int .i64 (mi : Int)) ∧ w7.cell? ⟨g, j * 3 + 2, none⟩ = some (.int .i64 (p : Int))) := Lib.hid ⟨c6, q1, q2⟩
                      clear hp he hfs hts hxr hv2 hv3 c6 c7 q1 q2 hlow7 hfs' hts' hmem hlm hmv hmme hlr hnf hu2 e2 e3 HSR hmm hnr hnw s1 s2 r1 r2
                      go_wp2
                      obtain ⟨c6, q1, q2⟩ := KA.out
                      go_quiet (fail)
                      go_wp2
                      go_region_with (go_at_call 19; refine (HD.out _ ((below_drewN (Below.refl _ w7) _).drew)).mono ?_; rintro e w9 ⟨u10, rfl, ho5⟩; have HO5 := Lib.hid ho5; clear ho5)
                      all_goals
                        clear c6 q1 q2 y0 y1 y2 y3 y4 hu1
                        have hB9 : Below w7.heap.size w7 w9 := ((below_drewN (Below.refl _ w7) _).drew).trans HO5.out.2.1
                        obtain ⟨A10, cap10, rfl, hnt8, hnt9⟩ := HO5.out.form
                        unfold maxLen at hnt9
                        obtain ⟨nt, hnt⟩ : ∃ nt, nt = ts.length := ⟨_, rfl⟩
                        have HTS : Hid (ts.length = nt) := Lib.hid hnt.symm
                        have HTI : Hid (Ints w9 (.slice A10 nt cap10) ts) := Lib.hid (by rw [hnt]; exact HO5.out.ints)
                        have HFI := Lib.hid (HU.out.below hB9)
                        have HTW9 := Lib.hid (HTW7.out.below hB9)
                        have HTF : Hid (∀ b, (Value.slice A10 nt cap10).ownBlock = some b → b = bt → False) := Lib.hid fun b hb e => by
                          have h1 := HO5.out.2.2 b (by rw [← hnt]; exact hb)
                          have h2 := HBO.out
                          have h3 : w7.heap.size ≤ b := h1
                          omega
                        rw [← hnt]
                        rw [← hnt] at hnt8
                        clear hnt hB9
                        go_wp2
                        go_meet
                        exact ⟨HFI.out, HTI.out, HTW9.out, HTF.out⟩
                  case rest =>
                    obtain ⟨hfi, hti, htw9, htf⟩ := hcut
                    obtain ⟨A1, k1, hA1, -, hn1, hm1, -⟩ := id hfi
                    obtain ⟨A2, k2, hA2, -, hn2, hm2, -⟩ := id hti
                    obtain ⟨nf, hnf⟩ : ∃ nf, nf = fs.length := ⟨_, rfl⟩
                    obtain ⟨nt, hnt⟩ : ∃ nt, nt = ts.length := ⟨_, rfl⟩
                    rw [← hnf] at hA1 hn1
                    rw [← hnt] at hA2 hn2
                    subst hA1 hA2
                    unfold maxLen at hm1 hm2
                    have HFS : Hid (fs.length = nf) := Lib.hid hnf.symm
                    have HTS : Hid (ts.length = nt) := Lib.hid hnt.symm
                    have HFI := Lib.hid hfi
                    have HTI := Lib.hid hti
                    have HTW9 := Lib.hid htw9
                    have HTF := Lib.hid htf
                    obtain ⟨w9, rfl⟩ : ∃ w9 : World, w9 = wc := ⟨_, rfl⟩
                    clear hfi hti htw9 htf hnf hnt HXN HFX HTX HRB HC67 HL7
                    go_wp2
                    go_loopw [11] (fun c wx => ∃ k : Nat, k ≤ nf ∧ c = .int .i64 k ∧ wx = w9) (fun c _ => nf - (intOf c).toNat)
                    case atStart => exact ⟨0, Nat.zero_le _, rfl, rfl⟩
                    case round =>
                      obtain ⟨k, hk, rfl, hwx⟩ := hrel
                      subst hwx
                      obtain ⟨wx, rfl⟩ : ∃ wx : World, wx = wr := ⟨_, rfl⟩
                      by_cases hltk : (k : Int) < (nf : Int)
                      · have hkn : k < fs.length := by have := HFS.out; omega
                        obtain ⟨-, hii⟩ := ints_hii HFI.out
                        obtain ⟨b9, off9, e9, hcs⟩ := hii.resolve_left (fun e => by rw [e] at hkn; simp at hkn)
                        subst e9
                        have q := hcs k hkn
                        have hym := mem_getD 0 hkn
                        obtain ⟨y, hy⟩ : ∃ y, y = fs.getD k 0 := ⟨_, rfl⟩
                        rw [← hy] at q hym
                        have hyr := HFR.out y hym
                        have hmy := HHAS.out y hym
                        obtain ⟨yn, hyn⟩ : ∃ yn : Nat, y / 2 = yn := ⟨(y / 2).toNat, by omega⟩
                        have hvar := r01Var y wx (by omega) (by omega)
                        rw [hyn] at hvar hmy
                        have hynV : yn < V + 1 := by omega
                        have hynV2 : (yn : Int) < (V : Int) + 1 := by omega
                        have cb := HTW9.out.1.cell hynV
                        rw [hmy] at cb
                        have HVAR := Lib.hid hvar
                        clear hcs hii hy hkn hvar hym hyr hmy hyn
                        go_wp2_with (go_at_call 20; refine HVAR.out.mono ?_; rintro e w' ⟨rfl, rfl⟩)
                        go_roundw
                        case rel => exact ⟨k + 1, by omega, by go_num, by first | rfl | trivial⟩
                        case measure => simp [intOf]; omega
                      · obtain rfl : k = nf := by omega
                        go_wp2
                        go_loopw [12] (fun c wy => ∃ k2 : Nat, ∃ m2 : Int → Bool, k2 ≤ nt ∧ c = .int .i64 k2 ∧ TW bt V w6 wy m2 ∧ (∀ v, m v = true → m2 v = true) ∧ (∀ v ∈ ts.take k2, m2 v = true) ∧ Chg (fun k => k = bt) wx wy) (fun c _ => nt - (intOf c).toNat)
                        case atStart => exact ⟨0, m, Nat.zero_le _, rfl, HTW9.out, fun _ h => h, fun v hv => by simp at hv, Chg.refl _ _⟩
                        case round =>
                          obtain ⟨k2, m2, hk2, rfl, htw2, hm2, hts2, hch⟩ := hrel
                          have HTW2 := Lib.hid htw2
                          have HM2 := Lib.hid hm2
                          have HTS2 := Lib.hid hts2
                          have HCH := Lib.hid hch
                          clear htw2 hm2 hts2 hch
                          by_cases hlt2 : (k2 : Int) < (nt : Int)
                          · have hkn : k2 < ts.length := by have := HTS.out; omega
                            have hI2 := ints_keep HTI.out HCH.out (fun hne b hb e => HTF.out b hb e)
                            obtain ⟨-, hii⟩ := ints_hii hI2
                            obtain ⟨b9, off9, e9, hcs⟩ := hii.resolve_left (fun e => by rw [e] at hkn; simp at hkn)
                            subst e9
                            have q := hcs k2 hkn
                            have hym := mem_getD 0 hkn
                            have htk := take_snocI hkn
                            obtain ⟨y, hy⟩ : ∃ y, y = ts.getD k2 0 := ⟨_, rfl⟩
                            rw [← hy] at q hym htk
                            have hyr := HTR.out y hym
                            obtain ⟨yn, rfl⟩ : ∃ yn : Nat, y = yn := ⟨y.toNat, by omega⟩
                            have hynV : yn < V + 1 := by omega
                            have hynV2 : (yn : Int) < (V : Int) + 1 := by omega
                            have cb := HTW2.out.1.cell hynV
                            have cf := HTW2.out.1.frozen yn
                            have HTK := Lib.hid htk
                            have HNW := Lib.hid (HTW2.out.set_ yn)
                            have HCW := Lib.hid (HCH.out.setCell (p := ⟨bt, yn, none⟩) (.inl rfl) (.bool true))
                            clear hcs hii hy hkn htk hym hyr hI2
                            go_wp2
                            go_roundw
                            case rel =>
                              refine ⟨k2 + 1, _, by omega, by go_num, HNW.out, fun v hv => ?_, fun v hv => ?_, HCW.out⟩
                              · show (if v = (yn : Int) then true else m2 v) = true
                                split
                                · rfl
                                · exact HM2.out v hv
                              · rw [HTK.out, List.mem_append] at hv
                                show (if v = (yn : Int) then true else m2 v) = true
                                split
                                · rfl
                                · rcases hv with hv | hv
                                  · exact HTS2.out v hv
                                  · simp at hv; contradiction
                            case measure => simp [intOf]; omega
                          · obtain rfl : k2 = nt := by omega
                            have hfull : ts.take k2 = ts := List.take_of_length_le (by have := HTS.out; omega)
                            have HF2 := Lib.hid (HNEXT.out m2 HM2.out (by rw [hfull] at HTS2; exact HTS2.out))
                            clear hfull
                            go_wp2
                            go_roundw
                            case rel => exact ⟨j + 1, m2, by omega, by go_num, HTW2.out, HF2.out⟩
                            case measure => simp [intOf]; omega
                · have HLOW := Lib.hid hlow
                  clear hlow hrow
                  go_wp2_with (go_at_call 8; refine (w06_alive _).mono ?_; rintro e wz ⟨rfl, hbz⟩; have HF := Lib.hid (HB2.out.trans (HLOW.out.mono HB2.out.size) |>.trans (hbz.mono (HB2.out.trans (HLOW.out.mono HB2.out.size)).size)); clear hbz)
                  go_ret
                  exact ⟨rfl, HF.out⟩
    · have hb0 : (f != 0) = true := by rw [bne_iff_ne]; exact hc
      clear hc
      go_wp2_with fail
      refine H1.out.mono ?_
      rintro e w3 ⟨rfl, b1⟩
      have HB3 := Lib.hid (HB2.out.trans (b1.mono HB2.out.size))
      clear b1 c0 c1 c2 c3 c4 c5 c6 c7
      go_wp2_with (go_at_call 8; refine (w06_alive _).mono ?_; rintro e w4 ⟨rfl, hb4⟩; have HB4 := Lib.hid (HB3.out.trans (hb4.mono HB3.out.size)); clear hb4)
      go_ret
      exact ⟨rfl, HB4.out⟩
end Go.Proofs.Ytgnimegdgphlmaa
