/-
  Reports: Light with what it tells, Print in one form, the length of a light report's text.
-/
import Derived.Test.YtamgbfkpblpfiaaGreatDoorFrameRz
import Derived.Test.YtamgbfkpblpfiaaGreatDoorRqA
import Derived.Test.YtamgbfkpblpfiaaGreatDoorTpY
import Derived.Test.YtamgbfkpblpfiaaGreatDoorRpH
import Derived.Test.YtamgbfkpblpfiaaGreatDoorRqT
namespace Go.Proofs.YtamgbfkpblpfiaaGreatDoor
open Go.ChangeShapes Go.WideShapes Go.ChangeAt Go.RowKit
set_option linter.unusedVariables false
set_option linter.unusedSimpArgs false
def rqT (d : RpD) : List UInt8 := if rightR d then rpT d else []
def rqF (d : RpD) : Int := if rightR d then 0 else 14
theorem report_Print {w : World} {d : RpD} {vl vm vi vp : Value} (h : RpP w d vl vm vi vp) (ht : Tab w) : Calls Tryz.prog 10 #[rpV d vl vm vi vp] w fun e w' => e = .returned (.tuple #[.string (bs (rqT d)), .int .i64 (rqF d)]) ∧ Below w.heap.size w w' := by
  unfold rqT rqF
  cases hd : rightR d
  · exact report_Print_no h hd
  · exact report_Print_yes h hd ht
def LightRQ (w : World) (d : RpD) (e : Ending) (w' : World) : Prop := (∃ b : Bool, e = .returned (.bool b) ∧ (b = true → LightB d.tr ∧ d.ports.length ≤ 100)) ∧ Below w.heap.size w w'
set_option maxHeartbeats 1000000 in
theorem rlightB_ {w : World} {d : RpD} {vl vm vi vp : Value} (h : RpP w d vl vm vi vp) : Calls Tryz.prog 9 #[rpV d vl vm vi vp] w (LightRQ w d) := by
  have HB0 : Hid (∀ x, Below w.heap.size w (w.alloc x)) := Lib.hid fun x => (Below.refl _ _).alloc (Nat.le_refl _) _
  have HL := Lib.hid (fun x => lightB_ (h.tr.below (HB0.out x)))
  obtain ⟨a1, c1, hv1⟩ := h.tr.lat.len
  obtain ⟨a2, c2, hv2, -, -⟩ := h.tr.mems.form
  obtain ⟨a3, c3, hv3, -, -⟩ := h.tr.ins.form
  obtain ⟨a4, c4, hv4, -⟩ := h.ports
  subst hv1 hv2 hv3 hv4
  have hbx := RBx.new w (rpA d (.slice a1 d.tr.lat.length c1) (.slice a2 d.tr.mems.length c2) (.slice a3 d.tr.ins.length c3) (.slice a4 d.ports.length c4))
  unfold rpV
  unfold trV at HL
  unfold rpA at hbx
  have HX := Lib.hid hbx
  obtain ⟨np, hnp⟩ : ∃ n, n = d.ports.length := ⟨_, rfl⟩
  have HNP := Lib.hid hnp
  rw [← hnp] at HX ⊢
  clear h hbx hnp
  go_enter Tryz.func9, Tryz.ntmps9
  go_wp2_with fail
  refine (HL.out _).mono ?_
  rintro e w1 ⟨⟨b, rfl, hbt⟩, hb⟩
  have hx := HX.out.below hb
  have k11 := (load_agg12 hx.1).2.2.2.2.2.2.2.2.2.2.2
  have HB := Lib.hid hx.2
  have HBT := Lib.hid hbt
  clear hb hx hbt
  cases b with
  | false =>
    go_wp2
    go_ret
    exact ⟨⟨_, rfl, fun h => (by cases h)⟩, HB.out⟩
  | true =>
    have HF : Hid (LightRQ w d (.returned (.bool (decide ((np : Int) ≤ 100)))) w1) := Lib.hid ⟨⟨_, rfl, fun h => ⟨HBT.out rfl, by rw [← HNP.out]; have := of_decide_eq_true h; omega⟩⟩, HB.out⟩
    go_wp2
    go_ret
    exact HF.out
theorem pWs_len {ps : List Int} (h : ∀ x ∈ ps, 0 ≤ x ∧ x < 64) : ((pW ps).flatMap wordT).length ≤ 3 * ps.length + 2 := by
  have key : ∀ l : List Int, (∀ x ∈ l, 0 ≤ x ∧ x < 64) → ((l.map decT).flatMap wordT).length ≤ 3 * l.length := by
    intro l
    induction l with
    | nil => intro _; simp
    | cons x l ih =>
      intro hl
      have h1 := ih (fun y hy => hl y (List.mem_cons_of_mem _ hy))
      obtain ⟨a, b⟩ := hl x (List.mem_cons_self ..)
      have h2 : ∀ k : Nat, k < 64 → (Lib.decDigits k).length ≤ 2 := fun k hk => dlen 1 k (by omega)
      have h3 := h2 x.toNat (by omega)
      have h4 : (decT x).length ≤ 2 := h3
      rw [List.map_cons, List.flatMap_cons, List.length_append, List.length_cons]
      have h5 : (wordT (decT x)).length = (decT x).length + 1 := rfl
      omega
  unfold pW
  split
  · simp [wordT]
  · have := key ps h
    omega
theorem rp_len {d : RpD} (hL : LightB d.tr) (hr : rightR d = true) (hw : ∀ m ∈ d.tr.mems, ∀ p ∈ m, wf p.1 ∧ wf p.2) : (rpT d).length ≤ 46000 := by
  obtain ⟨q1, ⟨q2, q2'⟩, ⟨q3, q3'⟩, ⟨q4, q4'⟩, ⟨q5, q5'⟩, q6, q7⟩ := rightR_parts hr
  have hp := print_len45 hL q1 hw
  have hv := wordV_len d.verdict
  have hf := nameV_len d.fault
  have hpw := pWs_len (getD_all (P := fun x => 0 ≤ x ∧ x < 64) q7)
  have hs : (spT d.spent).length ≤ 3 := by cases d.spent <;> decide
  have hd : ∀ x : Int, 0 ≤ x → x ≤ 1099511627776 → (decT x).length ≤ 20 := fun x h0 h1 => dlen 19 x.toNat (Nat.lt_of_le_of_lt (show x.toNat ≤ 1099511627776 by omega) (by decide))
  have d1 := hd _ q2 q2'
  have d2 := hd _ q3 q3'
  have d3 := hd _ q4 q4'
  have d4 := hd _ q5 q5'
  unfold rpT lineT
  simp only [List.length_append, List.flatMap_cons, List.flatMap_nil, List.length_cons, List.length_nil, wordT]
  split
  · omega
  · simp only [List.length_nil]; omega
end Go.Proofs.YtamgbfkpblpfiaaGreatDoor
/-
  The law ReportBack, walked.
-/
namespace Go.Proofs.YtamgbfkpblpfiaaGreatDoor
open Go.ChangeShapes Go.WideShapes Go.ChangeAt Go.RowKit
set_option linter.unusedVariables false
set_option linter.unusedSimpArgs false
theorem ces_wf' {w : World} {v : Value} {ms : List CS} (h : Ces w v ms) : ∀ m ∈ ms, ∀ p ∈ m, wf p.1 ∧ wf p.2 := by
  intro m hm
  obtain ⟨k, hk, rfl⟩ := List.mem_iff_getElem.1 hm
  obtain ⟨b, off, cap, -, u, -, hp⟩ := h.at_ hk
  have := pairs_wf hp
  rwa [List.getD_eq_getElem?_getD, List.getElem?_eq_getElem hk] at this
/-- What is parsed of a text, and printed. -/
theorem rqT_parse {l : List UInt8} {d : RpD} (h : parseR l = .ok d) : rqT d = l ∧ rqF d = 0 := by
  obtain ⟨h1, h2, -⟩ := rp_parse h
  unfold rqT rqF
  rw [if_pos h1, if_pos h1]
  exact ⟨h2, rfl⟩
/-- A report in a new block, in any later world. -/
theorem rp_new {w1 : World} {v0 v1 v2 v3 v4 v5 v6 v7 v8 v9 v10 v11 : Value} {w2 : World} (h : w2 = w1.alloc (.cells #[v0, v1, v2, v3, v4, v5, v6, v7, v8, v9, v10, v11] 33)) : Below w1.heap.size w1 w2 ∧ ∀ W, Below w2.heap.size w2 W → W.cell? ⟨w1.heap.size, 0, none⟩ = some v0 ∧ W.cell? ⟨w1.heap.size, 1, none⟩ = some v1 ∧ W.cell? ⟨w1.heap.size, 2, none⟩ = some v2 ∧ W.cell? ⟨w1.heap.size, 3, none⟩ = some v3 ∧ W.cell? ⟨w1.heap.size, 4, none⟩ = some v4 ∧ W.cell? ⟨w1.heap.size, 5, none⟩ = some v5 ∧ W.cell? ⟨w1.heap.size, 6, none⟩ = some v6 ∧ W.cell? ⟨w1.heap.size, 7, none⟩ = some v7 ∧ W.cell? ⟨w1.heap.size, 8, none⟩ = some v8 ∧ W.cell? ⟨w1.heap.size, 9, none⟩ = some v9 ∧ W.cell? ⟨w1.heap.size, 10, none⟩ = some v10 ∧ W.cell? ⟨w1.heap.size, 11, none⟩ = some v11 := by
  have hk : Blk w2 w1.heap.size 33 #[v0, v1, v2, v3, v4, v5, v6, v7, v8, v9, v10, v11] := by rw [h]; exact Blk.new w1 _ _
  exact ⟨by rw [h]; exact (Below.refl _ w1).alloc (Nat.le_refl _) _, fun W hW => load_agg12 (hk.below hW hk.lt)⟩
set_option maxHeartbeats 8000000 in
set_option maxRecDepth 100000 in
theorem claw_rback {w : World} (ht : Tab w) (hL : Laid w) (hm : MaxL w) {d : RpD} {vl vm vi vp : Value} (h : RpP w d vl vm vi vp) (s : ByteArray) (hs : s.size ≤ 9223372036854775807) :
    Calls Tryz.prog 4 #[rpV d vl vm vi vp, .string s] w fun e w' => e = .returned (.bool true) ∧ Below w.heap.size w w' := by
  have hwf := ces_wf' h.tr.mems
  obtain ⟨W0, hW0⟩ : ∃ W0, W0 = w.alloc (.cells (rpA d vl vm vi vp) 33) := ⟨_, rfl⟩
  unfold rpA at hW0
  obtain ⟨hb0, hcell⟩ := rp_new hW0
  have HB0 := Lib.hid hb0
  have h0 := h.below hb0
  have t0 := ht.below hb0
  have l0 := hL.below hb0
  have m0 := hm.below hb0
  have HLT := Lib.hid (rlightB_ h0)
  have HAL := Lib.hid (fun W (hW : Below W0.heap.size W0 W) => alive_ (t0.below hW))
  have HPR := Lib.hid (fun W (hW : Below W0.heap.size W0 W) => report_Print (h0.below hW) (t0.below hW))
  have HPA := Lib.hid (fun W (hW : Below W0.heap.size W0 W) (l : List UInt8) (hl : l.length ≤ 50000) => report_Parse (m0.below hW) (l0.below hW) hl)
  have HSM := Lib.hid (fun W (hW : Below W0.heap.size W0 W) ul um ui up (g : RpP W d ul um ui up) => report_Same g (h0.below hW))
  have HP2 := Lib.hid (fun W (hW : Below W0.heap.size W0 W) (e : RpD) ul um ui up (g : RpP W e ul um ui up) => report_Print g (t0.below hW))
  have HWF := Lib.hid hwf
  have H0 : Hid (Below W0.heap.size W0 W0) := Lib.hid (Below.refl _ _)
  obtain ⟨a1, c1, hv1⟩ := h.tr.lat.len
  obtain ⟨a2, c2, hv2, -, -⟩ := h.tr.mems.form
  obtain ⟨a3, c3, hv3, -, -⟩ := h.tr.ins.form
  obtain ⟨a4, c4, hv4, -⟩ := h.ports
  have HFIN : Hid (∀ W, Below W0.heap.size W0 W → Below w.heap.size w W) := Lib.hid fun W hW => HB0.out.trans (hW.mono HB0.out.size)
  obtain ⟨l, hll⟩ : ∃ l, l = s.data.toList := ⟨_, rfl⟩
  have hlsz : l.length = s.size := by rw [hll, Array.length_toList]; rfl
  have hsb : bs l = s := by rw [hll]; exact bs_data' s
  have HSB := Lib.hid hsb
  have HLSZ := Lib.hid hlsz
  unfold rpV at *
  subst hv1 hv2 hv3 hv4
  obtain ⟨n1, hn1⟩ : ∃ n, n = d.tr.lat.length := ⟨_, rfl⟩
  obtain ⟨n2, hn2⟩ : ∃ n, n = d.tr.mems.length := ⟨_, rfl⟩
  obtain ⟨n3, hn3⟩ : ∃ n, n = d.tr.ins.length := ⟨_, rfl⟩
  obtain ⟨n4, hn4⟩ : ∃ n, n = d.ports.length := ⟨_, rfl⟩
  rw [← hn1, ← hn2, ← hn3, ← hn4] at hW0 hcell HLT HPR HSM ⊢
  have HC0 := Lib.hid hcell
  have HW0 := Lib.hid hW0
  have HN := Lib.hid (show _ ∧ _ ∧ _ ∧ _ from ⟨hn1, hn2, hn3, hn4⟩)
  clear hwf hb0 hcell h0 t0 l0 m0 h ht hL hm hW0 hll hlsz hsb hn1 hn2 hn3 hn4
  obtain ⟨k0, k1, k2, k3, k4, k5, k6, k7, k8, k9, k10, k11⟩ := HC0.out _ H0.out
  go_enter Tryz.func4, Tryz.ntmps4
  go_wp2_with fail
  rw [← HW0.out]
  refine HLT.out.mono ?_
  rintro e w1 ⟨⟨b1, rfl, hlb⟩, q1⟩
  have HLB := Lib.hid hlb
  have B1 := Lib.hid q1
  clear q1 hlb k0 k1 k2 k3 k4 k5 k6 k7 k8 k9 k10 k11
  by_cases hgo : b1 = true ∧ ¬ (2000 : Int) < (s.size : Int)
  · obtain ⟨rfl, hsz⟩ := hgo
    obtain ⟨k0, k1, k2, k3, k4, k5, k6, k7, k8, k9, k10, k11⟩ := HC0.out _ B1.out
    go_wp2_with fail
    refine (HPR.out _ B1.out).mono ?_
    rintro e w2 ⟨rfl, q2⟩
    have B2 := Lib.hid (B1.out.trans (q2.mono B1.out.size))
    clear q2 k0 k1 k2 k3 k4 k5 k6 k7 k8 k9 k10 k11
    -- the second half, from any later world
    have HSEC : Hid (∀ W, Below W0.heap.size W0 W → Calls Tryz.prog 6 #[.string s] W (ParseRQ W (parseR l))) := Lib.hid fun W hW => by
      have := HPA.out W hW l (by have := HLSZ.out; omega)
      rw [HSB.out] at this
      exact this
    have HEQ : Hid (∀ d2, parseR l = .ok d2 → bs (rqT d2) = s ∧ rqF d2 = 0) := Lib.hid fun d2 h2 => by
      obtain ⟨e1, e2⟩ := rqT_parse h2
      rw [e1]
      exact ⟨HSB.out, e2⟩
    obtain ⟨P, hP⟩ : ∃ P, P = parseR l := ⟨_, rfl⟩
    rw [← hP] at HSEC HEQ
    clear hP
    by_cases hr : rightR d = true
    · have HP1 : Hid (rqT d = rpT d ∧ rqF d = 0) := Lib.hid (by unfold rqT rqF; rw [if_pos hr, if_pos hr]; exact ⟨rfl, rfl⟩)
      have HL1 := Lib.hid (rp_len (HLB.out (by trivial)).1 hr HWF.out)
      have HB1 := Lib.hid (parse_rp hr HWF.out)
      have HQ1 : Hid (Calls Tryz.prog 6 #[.string (bs (rqT d))] w2 (ParseRQ w2 (.ok d))) := Lib.hid (by
        have := HPA.out w2 B2.out (rpT d) (by have := HL1.out; omega)
        rw [HB1.out] at this
        rw [HP1.out.1]
        exact this)
      rw [HP1.out.2]
      obtain ⟨pa, hpa⟩ : ∃ x, x = bs (rqT d) := ⟨_, rfl⟩
      rw [← hpa] at HQ1 ⊢
      clear hr hpa
      go_wp2_with fail
      refine HQ1.out.mono ?_
      rintro e w3 ⟨hb3, ul, um, ui, up, rfl, hT3⟩
      replace hT3 : RpP w3 d ul um ui up := hT3
      have B3 := Lib.hid (B2.out.trans (hb3.mono B2.out.size))
      have hS3 := fun W (hW : Below w3.heap.size w3 W) => HSM.out W (B3.out.trans (hW.mono B3.out.size)) ul um ui up (hT3.below hW)
      obtain ⟨y1, z1, rfl⟩ := hT3.tr.lat.len
      obtain ⟨y2, z2, rfl, -, -⟩ := hT3.tr.mems.form
      obtain ⟨y3, z3, rfl, -, -⟩ := hT3.tr.ins.form
      obtain ⟨y4, z4, rfl, -⟩ := hT3.ports
      simp only [resRD, resRN, resRF]
      unfold rpV
      obtain ⟨e1, e2, e3, e4⟩ := HN.out
      rw [← e1, ← e2, ← e3, ← e4] at hS3 ⊢
      have HS3 := Lib.hid hS3
      clear hT3 hb3 hS3 e1 e2 e3 e4
      obtain ⟨w4, hw4⟩ : ∃ w4, w4 = w3.alloc (.cells #[.int .i64 d.verdict, .int .i64 d.depth, .int .i64 d.fault, .int .i64 d.place, .slice y1 n1 z1, .slice y2 n2 z2, .slice y3 n3 z3, .int .i64 d.tr.bad, .int .i64 d.calls, .int .i64 d.conf, .bool d.spent, .slice y4 n4 z4] 33) := ⟨_, rfl⟩
      obtain ⟨q4, hc4⟩ := rp_new hw4
      have B4 := Lib.hid (B3.out.trans (q4.mono B3.out.size))
      obtain ⟨k0, k1, k2, k3, k4, k5, k6, k7, k8, k9, k10, k11⟩ := hc4 _ (Below.refl _ _)
      obtain ⟨m0, m1, m2, m3, m4, m5, m6, m7, m8, m9, m10, m11⟩ := HC0.out _ B4.out
      have HS4 := Lib.hid (HS3.out _ q4)
      rw [sameR_self] at HS4
      have HW4 := Lib.hid hw4
      rw [hw4] at k0 k1 k2 k3 k4 k5 k6 k7 k8 k9 k10 k11 m0 m1 m2 m3 m4 m5 m6 m7 m8 m9 m10 m11
      clear q4 hc4 hw4
      go_wp2_with fail
      rw [← HW4.out]
      refine HS4.out.mono ?_
      rintro e w4' ⟨rfl, q5⟩
      have B4' := Lib.hid (B4.out.trans (q5.mono B4.out.size))
      clear q5 k0 k1 k2 k3 k4 k5 k6 k7 k8 k9 k10 k11 m0 m1 m2 m3 m4 m5 m6 m7 m8 m9 m10 m11
      go_wp2_with fail
      refine (HSEC.out _ B4'.out).mono ?_
      rintro e w5 ⟨hb5, xl, xm, xi, xp, rfl, hT5⟩
      have B5 := Lib.hid (B4'.out.trans (hb5.mono B4'.out.size))
      clear hb5
      cases P with
      | bad n =>
        replace hT5 : RpP w5 rpZ xl xm xi xp := hT5
        obtain ⟨y1, z1, rfl⟩ := hT5.tr.lat.len
        obtain ⟨y2, z2, rfl, -, -⟩ := hT5.tr.mems.form
        obtain ⟨y3, z3, rfl, -, -⟩ := hT5.tr.ins.form
        obtain ⟨y4, z4, rfl, -⟩ := hT5.ports
        simp only [resRD, resRN, resRF, rpV, rpZ, tr0, List.length_nil]
        obtain ⟨w6, hw6⟩ : ∃ w6, w6 = w5.alloc (.cells #[.int .i64 0, .int .i64 0, .int .i64 0, .int .i64 0, .slice y1 0 z1, .slice y2 0 z2, .slice y3 0 z3, .int .i64 0, .int .i64 0, .int .i64 0, .bool false, .slice y4 0 z4] 33) := ⟨_, rfl⟩
        obtain ⟨q6, -⟩ := rp_new hw6
        have B6 := Lib.hid (B5.out.trans (q6.mono B5.out.size))
        have HW6 := Lib.hid hw6
        have HA6 := Lib.hid (HAL.out _ B6.out)
        clear hT5 q6 hw6
        go_wp2_with fail
        rw [← HW6.out]
        refine HA6.out.mono ?_
        rintro e w7 ⟨rfl, q7⟩
        have B7 := Lib.hid (HFIN.out _ (B6.out.trans (q7.mono B6.out.size)))
        clear q7
        go_wp2
        go_ret
        exact ⟨rfl, B7.out⟩
      | ill =>
        replace hT5 : RpP w5 rpZ xl xm xi xp := hT5
        obtain ⟨y1, z1, rfl⟩ := hT5.tr.lat.len
        obtain ⟨y2, z2, rfl, -, -⟩ := hT5.tr.mems.form
        obtain ⟨y3, z3, rfl, -, -⟩ := hT5.tr.ins.form
        obtain ⟨y4, z4, rfl, -⟩ := hT5.ports
        simp only [resRD, resRN, resRF, rpV, rpZ, tr0, List.length_nil]
        obtain ⟨w6, hw6⟩ : ∃ w6, w6 = w5.alloc (.cells #[.int .i64 0, .int .i64 0, .int .i64 0, .int .i64 0, .slice y1 0 z1, .slice y2 0 z2, .slice y3 0 z3, .int .i64 0, .int .i64 0, .int .i64 0, .bool false, .slice y4 0 z4] 33) := ⟨_, rfl⟩
        obtain ⟨q6, -⟩ := rp_new hw6
        have B6 := Lib.hid (B5.out.trans (q6.mono B5.out.size))
        have HW6 := Lib.hid hw6
        have HA6 := Lib.hid (HAL.out _ B6.out)
        clear hT5 q6 hw6
        go_wp2_with fail
        rw [← HW6.out]
        refine HA6.out.mono ?_
        rintro e w7 ⟨rfl, q7⟩
        have B7 := Lib.hid (HFIN.out _ (B6.out.trans (q7.mono B6.out.size)))
        clear q7
        go_wp2
        go_ret
        exact ⟨rfl, B7.out⟩
      | ok d2 =>
        replace hT5 : RpP w5 d2 xl xm xi xp := hT5
        obtain ⟨e1, e2⟩ := HEQ.out d2 rfl
        have hP5 := fun W (hW : Below w5.heap.size w5 W) => HP2.out W (B5.out.trans (hW.mono B5.out.size)) d2 xl xm xi xp (hT5.below hW)
        rw [e1, e2] at hP5
        obtain ⟨y1, z1, rfl⟩ := hT5.tr.lat.len
        obtain ⟨y2, z2, rfl, -, -⟩ := hT5.tr.mems.form
        obtain ⟨y3, z3, rfl, -, -⟩ := hT5.tr.ins.form
        obtain ⟨y4, z4, rfl, -⟩ := hT5.ports
        simp only [resRD, resRN, resRF]
        (try unfold rpV at hP5)
        unfold rpV
        have HP5 := Lib.hid hP5
        clear hT5 e1 e2 hP5 HEQ HSEC
        generalize d2.tr.lat.length = m1 at *
        generalize d2.tr.mems.length = m2 at *
        generalize d2.tr.ins.length = m3 at *
        generalize d2.ports.length = m4 at *
        obtain ⟨w6, hw6⟩ : ∃ w6, w6 = w5.alloc (.cells #[.int .i64 d2.verdict, .int .i64 d2.depth, .int .i64 d2.fault, .int .i64 d2.place, .slice y1 m1 z1, .slice y2 m2 z2, .slice y3 m3 z3, .int .i64 d2.tr.bad, .int .i64 d2.calls, .int .i64 d2.conf, .bool d2.spent, .slice y4 m4 z4] 33) := ⟨_, rfl⟩
        obtain ⟨q6, -⟩ := rp_new hw6
        have B6 := Lib.hid (B5.out.trans (q6.mono B5.out.size))
        have HW6 := Lib.hid hw6
        have HP6 := Lib.hid (HP5.out _ q6)
        clear q6 hw6
        go_wp2_with fail
        rw [← HW6.out]
        refine HP6.out.mono ?_
        rintro e w7 ⟨rfl, q7⟩
        have B7 := Lib.hid (B6.out.trans (q7.mono B6.out.size))
        have HA7 := Lib.hid (HAL.out _ B7.out)
        have hss : (s.toList == s.toList) = true := beq_self_eq_true _
        clear q7
        go_wp2_with fail
        refine HA7.out.mono ?_
        rintro e w8 ⟨rfl, q8⟩
        have B8 := Lib.hid (HFIN.out _ (B7.out.trans (q8.mono B7.out.size)))
        clear q8
        go_wp2
        go_ret
        exact ⟨rfl, B8.out⟩
    · have HP1 : Hid (rqF d = 14) := Lib.hid (by unfold rqF; rw [if_neg hr])
      rw [HP1.out]
      obtain ⟨pa, hpa⟩ : ∃ x, x = bs (rqT d) := ⟨_, rfl⟩
      rw [← hpa]
      clear hr hpa
      go_wp2_with fail
      refine (HSEC.out _ B2.out).mono ?_
      rintro e w5 ⟨hb5, xl, xm, xi, xp, rfl, hT5⟩
      have B5 := Lib.hid (B2.out.trans (hb5.mono B2.out.size))
      clear hb5
      cases P with
      | bad n =>
        replace hT5 : RpP w5 rpZ xl xm xi xp := hT5
        obtain ⟨y1, z1, rfl⟩ := hT5.tr.lat.len
        obtain ⟨y2, z2, rfl, -, -⟩ := hT5.tr.mems.form
        obtain ⟨y3, z3, rfl, -, -⟩ := hT5.tr.ins.form
        obtain ⟨y4, z4, rfl, -⟩ := hT5.ports
        simp only [resRD, resRN, resRF, rpV, rpZ, tr0, List.length_nil]
        obtain ⟨w6, hw6⟩ : ∃ w6, w6 = w5.alloc (.cells #[.int .i64 0, .int .i64 0, .int .i64 0, .int .i64 0, .slice y1 0 z1, .slice y2 0 z2, .slice y3 0 z3, .int .i64 0, .int .i64 0, .int .i64 0, .bool false, .slice y4 0 z4] 33) := ⟨_, rfl⟩
        obtain ⟨q6, -⟩ := rp_new hw6
        have B6 := Lib.hid (B5.out.trans (q6.mono B5.out.size))
        have HW6 := Lib.hid hw6
        have HA6 := Lib.hid (HAL.out _ B6.out)
        clear hT5 q6 hw6
        go_wp2_with fail
        rw [← HW6.out]
        refine HA6.out.mono ?_
        rintro e w7 ⟨rfl, q7⟩
        have B7 := Lib.hid (HFIN.out _ (B6.out.trans (q7.mono B6.out.size)))
        clear q7
        go_wp2
        go_ret
        exact ⟨rfl, B7.out⟩
      | ill =>
        replace hT5 : RpP w5 rpZ xl xm xi xp := hT5
        obtain ⟨y1, z1, rfl⟩ := hT5.tr.lat.len
        obtain ⟨y2, z2, rfl, -, -⟩ := hT5.tr.mems.form
        obtain ⟨y3, z3, rfl, -, -⟩ := hT5.tr.ins.form
        obtain ⟨y4, z4, rfl, -⟩ := hT5.ports
        simp only [resRD, resRN, resRF, rpV, rpZ, tr0, List.length_nil]
        obtain ⟨w6, hw6⟩ : ∃ w6, w6 = w5.alloc (.cells #[.int .i64 0, .int .i64 0, .int .i64 0, .int .i64 0, .slice y1 0 z1, .slice y2 0 z2, .slice y3 0 z3, .int .i64 0, .int .i64 0, .int .i64 0, .bool false, .slice y4 0 z4] 33) := ⟨_, rfl⟩
        obtain ⟨q6, -⟩ := rp_new hw6
        have B6 := Lib.hid (B5.out.trans (q6.mono B5.out.size))
        have HW6 := Lib.hid hw6
        have HA6 := Lib.hid (HAL.out _ B6.out)
        clear hT5 q6 hw6
        go_wp2_with fail
        rw [← HW6.out]
        refine HA6.out.mono ?_
        rintro e w7 ⟨rfl, q7⟩
        have B7 := Lib.hid (HFIN.out _ (B6.out.trans (q7.mono B6.out.size)))
        clear q7
        go_wp2
        go_ret
        exact ⟨rfl, B7.out⟩
      | ok d2 =>
        replace hT5 : RpP w5 d2 xl xm xi xp := hT5
        obtain ⟨e1, e2⟩ := HEQ.out d2 rfl
        have hP5 := fun W (hW : Below w5.heap.size w5 W) => HP2.out W (B5.out.trans (hW.mono B5.out.size)) d2 xl xm xi xp (hT5.below hW)
        rw [e1, e2] at hP5
        obtain ⟨y1, z1, rfl⟩ := hT5.tr.lat.len
        obtain ⟨y2, z2, rfl, -, -⟩ := hT5.tr.mems.form
        obtain ⟨y3, z3, rfl, -, -⟩ := hT5.tr.ins.form
        obtain ⟨y4, z4, rfl, -⟩ := hT5.ports
        simp only [resRD, resRN, resRF]
        (try unfold rpV at hP5)
        unfold rpV
        have HP5 := Lib.hid hP5
        clear hT5 e1 e2 hP5 HEQ HSEC
        generalize d2.tr.lat.length = m1 at *
        generalize d2.tr.mems.length = m2 at *
        generalize d2.tr.ins.length = m3 at *
        generalize d2.ports.length = m4 at *
        obtain ⟨w6, hw6⟩ : ∃ w6, w6 = w5.alloc (.cells #[.int .i64 d2.verdict, .int .i64 d2.depth, .int .i64 d2.fault, .int .i64 d2.place, .slice y1 m1 z1, .slice y2 m2 z2, .slice y3 m3 z3, .int .i64 d2.tr.bad, .int .i64 d2.calls, .int .i64 d2.conf, .bool d2.spent, .slice y4 m4 z4] 33) := ⟨_, rfl⟩
        obtain ⟨q6, -⟩ := rp_new hw6
        have B6 := Lib.hid (B5.out.trans (q6.mono B5.out.size))
        have HW6 := Lib.hid hw6
        have HP6 := Lib.hid (HP5.out _ q6)
        clear q6 hw6
        go_wp2_with fail
        rw [← HW6.out]
        refine HP6.out.mono ?_
        rintro e w7 ⟨rfl, q7⟩
        have B7 := Lib.hid (B6.out.trans (q7.mono B6.out.size))
        have HA7 := Lib.hid (HAL.out _ B7.out)
        have hss : (s.toList == s.toList) = true := beq_self_eq_true _
        clear q7
        go_wp2_with fail
        refine HA7.out.mono ?_
        rintro e w8 ⟨rfl, q8⟩
        have B8 := Lib.hid (HFIN.out _ (B7.out.trans (q8.mono B7.out.size)))
        clear q8
        go_wp2
        go_ret
        exact ⟨rfl, B8.out⟩
  · have hor : b1 = false ∨ (b1 = true ∧ (2000 : Int) < (s.size : Int)) := by
      cases b1 with
      | false => exact .inl rfl
      | true => exact .inr ⟨rfl, Classical.byContradiction fun h => hgo ⟨by trivial, h⟩⟩
    clear hgo
    have HA1 := Lib.hid (HAL.out _ B1.out)
    rcases hor with rfl | ⟨rfl, hsz⟩
    all_goals
      go_wp2_with fail
      refine HA1.out.mono ?_
      rintro e w2 ⟨rfl, q2⟩
      have B2 := Lib.hid (HFIN.out _ (B1.out.trans (q2.mono B1.out.size)))
      clear q2
      go_wp2
      go_ret
      exact ⟨rfl, B2.out⟩
end Go.Proofs.YtamgbfkpblpfiaaGreatDoor
