/-
  The law TraceBack, walked.
-/
import Derived.Test.YtibinmabdidecaaGreatDoorTpV
import Derived.Test.YtibinmabdidecaaGreatDoorTpY
import Derived.Test.YtibinmabdidecaaGreatDoorTpA
import Derived.Test.YtibinmabdidecaaGreatDoorFrameT
namespace Go.Proofs.YtibinmabdidecaaGreatDoor
open Go.ChangeShapes Go.WideShapes Go.ChangeAt Go.RowKit
set_option linter.unusedVariables false
set_option linter.unusedSimpArgs false
theorem sameT_self (d : TrD) : sameT d d = true := by unfold sameT; simp
theorem bs_data (s : ByteArray) : bs s.data.toList = s := by
  apply ByteArray.ext
  simp [bs]
theorem ces_wf {w : World} {v : Value} {ms : List CS} (h : Ces w v ms) : ∀ m ∈ ms, ∀ p ∈ m, wf p.1 ∧ wf p.2 := by
  intro m hm
  obtain ⟨k, hk, rfl⟩ := List.mem_iff_getElem.1 hm
  obtain ⟨b, off, cap, -, u, -, hp⟩ := h.at_ hk
  have := pairs_wf hp
  rwa [List.getD_eq_getElem?_getD, List.getElem?_eq_getElem hk] at this
/-- What is parsed of a text, and printed. -/
theorem prT_parse {l : List UInt8} {d : TrD} (h : parseT l = .ok d) : prT d = l ∧ prF d = 0 := by
  obtain ⟨h1, h2, -⟩ := print_parse h
  unfold prT prF
  rw [if_pos h1, if_pos h1]
  exact ⟨h2, rfl⟩
/-- A witness in a new block, in any later world. -/
theorem tr_new {w1 : World} {v0 v1 v2 v3 : Value} {w2 : World} (h : w2 = w1.alloc (.cells #[v0, v1, v2, v3] 29)) : Below w1.heap.size w1 w2 ∧ ∀ W, Below w2.heap.size w2 W → W.cell? ⟨w1.heap.size, 0, none⟩ = some v0 ∧ W.cell? ⟨w1.heap.size, 1, none⟩ = some v1 ∧ W.cell? ⟨w1.heap.size, 2, none⟩ = some v2 ∧ W.cell? ⟨w1.heap.size, 3, none⟩ = some v3 := by
  have hk : Blk w2 w1.heap.size 29 #[v0, v1, v2, v3] := by rw [h]; exact Blk.new w1 _ _
  exact ⟨by rw [h]; exact (Below.refl _ w1).alloc (Nat.le_refl _) _, fun W hW => ((hk.below hW hk.lt).all4).1⟩
set_option maxHeartbeats 4000000 in
set_option maxRecDepth 100000 in
/-- The second half of the law: a text is parsed, and printed. -/
theorem claw_tback {w : World} (ht : Tab w) (hL : Laid w) (hm : MaxL w) {d : TrD} {vl vm vi : Value} (h : TrP w d vl vm vi) (s : ByteArray) (hs : s.size ≤ 9223372036854775807) :
    Calls Tryz.prog 4 #[trV d vl vm vi, .string s] w fun e w' => e = .returned (.bool true) ∧ Below w.heap.size w w' := by
  have hwf := ces_wf h.mems
  obtain ⟨W0, hW0⟩ : ∃ W0, W0 = w.alloc (.cells #[vl, vm, vi, .int .i64 d.bad] 29) := ⟨_, rfl⟩
  obtain ⟨hb0, hcell⟩ := tr_new hW0
  have HB0 := Lib.hid hb0
  have HC0 := Lib.hid hcell
  have h0 := h.below hb0
  have t0 := ht.below hb0
  have l0 := hL.below hb0
  have m0 := hm.below hb0
  have HLT := Lib.hid (lightB_ h0)
  have HAL := Lib.hid (fun W (hW : Below W0.heap.size W0 W) => alive_ (t0.below hW))
  have HPR := Lib.hid (fun W (hW : Below W0.heap.size W0 W) => trace_Print (h0.below hW) (t0.below hW))
  have HPA := Lib.hid (fun W (hW : Below W0.heap.size W0 W) (l : List UInt8) (hl : l.length ≤ 50000) => trace_Parse (m0.below hW) (l0.below hW) hl)
  have HSM := Lib.hid (fun W (hW : Below W0.heap.size W0 W) ul um ui (g : TrP W d ul um ui) => trace_Same g (h0.below hW))
  have HP2 := Lib.hid (fun W (hW : Below W0.heap.size W0 W) (e : TrD) ul um ui (g : TrP W e ul um ui) => trace_Print g (t0.below hW))
  have HWF := Lib.hid hwf
  have H0 : Hid (Below W0.heap.size W0 W0) := Lib.hid (Below.refl _ _)
  have HW0 := Lib.hid hW0
  obtain ⟨a1, c1, hv1⟩ := h.lat.len
  obtain ⟨a2, c2, hv2, -, -⟩ := h.mems.form
  obtain ⟨a3, c3, hv3, -, -⟩ := h.ins.form
  have HFIN : Hid (∀ W, Below W0.heap.size W0 W → Below w.heap.size w W) := Lib.hid fun W hW => HB0.out.trans (hW.mono HB0.out.size)
  obtain ⟨l, hll⟩ : ∃ l, l = s.data.toList := ⟨_, rfl⟩
  have hlsz : l.length = s.size := by rw [hll, Array.length_toList]; rfl
  have hsb : bs l = s := by rw [hll]; exact bs_data s
  have HSB := Lib.hid hsb
  have HLSZ := Lib.hid hlsz
  unfold trV at *
  subst hv1 hv2 hv3
  generalize hn1 : d.lat.length = n1 at *
  generalize hn2 : d.mems.length = n2 at *
  generalize hn3 : d.ins.length = n3 at *
  generalize hbd : d.bad = bd at *
  have HN := Lib.hid (show _ ∧ _ ∧ _ ∧ _ from ⟨hn1, hn2, hn3, hbd⟩)
  clear hwf hb0 hcell h0 t0 l0 m0 h ht hL hm hW0 hll hlsz hsb hn1 hn2 hn3 hbd
  obtain ⟨k0, k1, k2, k3⟩ := HC0.out _ H0.out
  go_enter Tryz.func4, Tryz.ntmps4
  go_wp2_with fail
  rw [← HW0.out]
  refine HLT.out.mono ?_
  rintro e w1 ⟨⟨b1, rfl, hlb⟩, q1⟩
  have HLB := Lib.hid hlb
  have B1 := Lib.hid q1
  clear q1 hlb k0 k1 k2 k3
  by_cases hgo : b1 = true ∧ ¬ (2000 : Int) < (s.size : Int)
  · obtain ⟨rfl, hsz⟩ := hgo
    obtain ⟨k0, k1, k2, k3⟩ := HC0.out _ B1.out
    go_wp2_with fail
    refine (HPR.out _ B1.out).mono ?_
    rintro e w2 ⟨rfl, q2⟩
    have B2 := Lib.hid (B1.out.trans (q2.mono B1.out.size))
    clear q2 k0 k1 k2 k3
    -- the second half, from any later world
    have HSEC : Hid (∀ W, Below W0.heap.size W0 W → Calls Tryz.prog 6 #[.string s] W (ParseQ W (parseT l))) := Lib.hid fun W hW => by
      have := HPA.out W hW l (by have := HLSZ.out; omega)
      rw [HSB.out] at this
      exact this
    have HEQ : Hid (∀ d2, parseT l = .ok d2 → bs (prT d2) = s ∧ prF d2 = 0) := Lib.hid fun d2 h2 => by
      obtain ⟨e1, e2⟩ := prT_parse h2
      rw [e1]
      exact ⟨HSB.out, e2⟩
    obtain ⟨P, hP⟩ : ∃ P, P = parseT l := ⟨_, rfl⟩
    rw [← hP] at HSEC HEQ
    clear hP
    by_cases hr : rightT d = true
    · have HP1 : Hid (bs (prT d) = bs (printT d) ∧ prF d = 0) := Lib.hid (by unfold prT prF; rw [if_pos hr, if_pos hr]; exact ⟨rfl, rfl⟩)
      have HL1 := Lib.hid (print_len (HLB.out (by trivial)) hr HWF.out)
      have HB1 := Lib.hid (parse_print hr HWF.out)
      have HQ1 : Hid (Calls Tryz.prog 6 #[.string (bs (prT d))] w2 (ParseQ w2 (.ok d))) := Lib.hid (by
        have := HPA.out w2 B2.out (printT d) HL1.out
        rw [HB1.out] at this
        rw [HP1.out.1]
        exact this)
      rw [HP1.out.2]
      obtain ⟨pa, hpa⟩ : ∃ x, x = bs (prT d) := ⟨_, rfl⟩
      rw [← hpa] at HQ1 ⊢
      clear hr hpa
      go_wp2_with fail
      refine HQ1.out.mono ?_
      rintro e w3 ⟨hb3, ul, um, ui, rfl, hT3⟩
      obtain ⟨y1, z1, rfl⟩ := hT3.lat.len
      obtain ⟨y2, z2, rfl, -, -⟩ := hT3.mems.form
      obtain ⟨y3, z3, rfl, -, -⟩ := hT3.ins.form
      have B3 := Lib.hid (B2.out.trans (hb3.mono B2.out.size))
      have hT3' : TrP w3 d _ _ _ := hT3
      have hS3 := fun W (hW : Below w3.heap.size w3 W) => HSM.out W (B3.out.trans (hW.mono B3.out.size)) _ _ _ (hT3'.below hW)
      rw [sameT_self] at hS3
      have HS3 := Lib.hid hS3
      simp only [resD, resN, resF, trV]
      (try unfold trV at HS3)
      (try simp only [resD] at HS3)
      obtain ⟨g1, g2, g3, g4⟩ := HN.out
      simp only [g1, g2, g3, g4] at HS3 ⊢
      obtain ⟨w4, hw4⟩ : ∃ w4, w4 = w3.alloc (.cells #[.slice y1 n1 z1, .slice y2 n2 z2, .slice y3 n3 z3, .int .i64 bd] 29) := ⟨_, rfl⟩
      obtain ⟨q4, hc4⟩ := tr_new hw4
      have B4 := Lib.hid (B3.out.trans (q4.mono B3.out.size))
      obtain ⟨k0, k1, k2, k3⟩ := HC0.out _ B4.out
      obtain ⟨m0, m1, m2, m3⟩ := hc4 _ (Below.refl _ _)
      have HW4 := Lib.hid hw4
      have HS4 := Lib.hid (HS3.out _ q4)
      rw [hw4] at k0 k1 k2 k3 m0 m1 m2 m3
      clear hT3 hb3 hT3' hS3 g1 g2 g3 g4 q4 hc4 hw4
      go_wp2_with fail
      rw [← HW4.out]
      refine HS4.out.mono ?_
      rintro e w4b ⟨rfl, q4b⟩
      have B4b := Lib.hid (B4.out.trans (q4b.mono B4.out.size))
      clear q4b k0 k1 k2 k3 m0 m1 m2 m3
      go_wp2_with fail
      refine (HSEC.out _ B4b.out).mono ?_
      rintro e w5 ⟨hb5, xl, xm, xi, rfl, hT5⟩
      have B5 := Lib.hid (B4b.out.trans (hb5.mono B4b.out.size))
      clear hb5
      cases P with
      | bad n =>
        replace hT5 : TrP w5 ⟨[], [], [], 0⟩ xl xm xi := hT5
        obtain ⟨y1, z1, rfl⟩ := hT5.lat.len
        obtain ⟨y2, z2, rfl, -, -⟩ := hT5.mems.form
        obtain ⟨y3, z3, rfl, -, -⟩ := hT5.ins.form
        simp only [resD, resN, resF, trV, List.length_nil]
        obtain ⟨w6, hw6⟩ : ∃ w6, w6 = w5.alloc (.cells #[.slice y1 0 z1, .slice y2 0 z2, .slice y3 0 z3, .int .i64 0] 29) := ⟨_, rfl⟩
        obtain ⟨q6, -⟩ := tr_new hw6
        have B6 := Lib.hid (B5.out.trans (q6.mono B5.out.size))
        have HW6 := Lib.hid hw6
        have HA6 := Lib.hid (HAL.out _ B6.out)
        clear hT5 q6 hw6
        go_wp2_with fail
        rw [← HW6.out]
        refine HA6.out.mono ?_
        rintro e w7 ⟨rfl, q7⟩
        have B7 := Lib.hid (HFIN.out _ (B6.out.trans (q7.mono B6.out.size)))
        clear q7
        go_wp2
        go_ret
        exact ⟨rfl, B7.out⟩
      | ill =>
        replace hT5 : TrP w5 ⟨[], [], [], 0⟩ xl xm xi := hT5
        obtain ⟨y1, z1, rfl⟩ := hT5.lat.len
        obtain ⟨y2, z2, rfl, -, -⟩ := hT5.mems.form
        obtain ⟨y3, z3, rfl, -, -⟩ := hT5.ins.form
        simp only [resD, resN, resF, trV, List.length_nil]
        obtain ⟨w6, hw6⟩ : ∃ w6, w6 = w5.alloc (.cells #[.slice y1 0 z1, .slice y2 0 z2, .slice y3 0 z3, .int .i64 0] 29) := ⟨_, rfl⟩
        obtain ⟨q6, -⟩ := tr_new hw6
        have B6 := Lib.hid (B5.out.trans (q6.mono B5.out.size))
        have HW6 := Lib.hid hw6
        have HA6 := Lib.hid (HAL.out _ B6.out)
        clear hT5 q6 hw6
        go_wp2_with fail
        rw [← HW6.out]
        refine HA6.out.mono ?_
        rintro e w7 ⟨rfl, q7⟩
        have B7 := Lib.hid (HFIN.out _ (B6.out.trans (q7.mono B6.out.size)))
        clear q7
        go_wp2
        go_ret
        exact ⟨rfl, B7.out⟩
      | ok d2 =>
        replace hT5 : TrP w5 d2 xl xm xi := hT5
        obtain ⟨e1, e2⟩ := HEQ.out d2 rfl
        have hP5 := fun W (hW : Below w5.heap.size w5 W) => HP2.out W (B5.out.trans (hW.mono B5.out.size)) d2 xl xm xi (hT5.below hW)
        rw [e1, e2] at hP5
        have HP5 := Lib.hid hP5
        obtain ⟨y1, z1, rfl⟩ := hT5.lat.len
        obtain ⟨y2, z2, rfl, -, -⟩ := hT5.mems.form
        obtain ⟨y3, z3, rfl, -, -⟩ := hT5.ins.form
        simp only [resD, resN, resF, trV]
        (try unfold trV at HP5)
        clear hT5 e1 e2 hP5 HEQ HSEC
        generalize d2.lat.length = m1 at *
        generalize d2.mems.length = m2 at *
        generalize d2.ins.length = m3 at *
        generalize d2.bad = bd2 at *
        obtain ⟨w6, hw6⟩ : ∃ w6, w6 = w5.alloc (.cells #[.slice y1 m1 z1, .slice y2 m2 z2, .slice y3 m3 z3, .int .i64 bd2] 29) := ⟨_, rfl⟩
        obtain ⟨q6, -⟩ := tr_new hw6
        have B6 := Lib.hid (B5.out.trans (q6.mono B5.out.size))
        have HW6 := Lib.hid hw6
        have HP6 := Lib.hid (HP5.out _ q6)
        clear q6 hw6
        go_wp2_with fail
        rw [← HW6.out]
        refine HP6.out.mono ?_
        rintro e w7 ⟨rfl, q7⟩
        have B7 := Lib.hid (B6.out.trans (q7.mono B6.out.size))
        have HA7 := Lib.hid (HAL.out _ B7.out)
        have hss : (s.toList == s.toList) = true := beq_self_eq_true _
        clear q7
        go_wp2_with fail
        refine HA7.out.mono ?_
        rintro e w8 ⟨rfl, q8⟩
        have B8 := Lib.hid (HFIN.out _ (B7.out.trans (q8.mono B7.out.size)))
        clear q8
        go_wp2
        go_ret
        exact ⟨rfl, B8.out⟩
    · have HP1 : Hid (prF d = 14) := Lib.hid (by unfold prF; rw [if_neg hr])
      rw [HP1.out]
      obtain ⟨pa, hpa⟩ : ∃ x, x = bs (prT d) := ⟨_, rfl⟩
      rw [← hpa]
      clear hr hpa
      go_wp2_with fail
      refine (HSEC.out _ B2.out).mono ?_
      rintro e w5 ⟨hb5, xl, xm, xi, rfl, hT5⟩
      have B5 := Lib.hid (B2.out.trans (hb5.mono B2.out.size))
      clear hb5
      cases P with
      | bad n =>
        replace hT5 : TrP w5 ⟨[], [], [], 0⟩ xl xm xi := hT5
        obtain ⟨y1, z1, rfl⟩ := hT5.lat.len
        obtain ⟨y2, z2, rfl, -, -⟩ := hT5.mems.form
        obtain ⟨y3, z3, rfl, -, -⟩ := hT5.ins.form
        simp only [resD, resN, resF, trV, List.length_nil]
        obtain ⟨w6, hw6⟩ : ∃ w6, w6 = w5.alloc (.cells #[.slice y1 0 z1, .slice y2 0 z2, .slice y3 0 z3, .int .i64 0] 29) := ⟨_, rfl⟩
        obtain ⟨q6, -⟩ := tr_new hw6
        have B6 := Lib.hid (B5.out.trans (q6.mono B5.out.size))
        have HW6 := Lib.hid hw6
        have HA6 := Lib.hid (HAL.out _ B6.out)
        clear hT5 q6 hw6
        go_wp2_with fail
        rw [← HW6.out]
        refine HA6.out.mono ?_
        rintro e w7 ⟨rfl, q7⟩
        have B7 := Lib.hid (HFIN.out _ (B6.out.trans (q7.mono B6.out.size)))
        clear q7
        go_wp2
        go_ret
        exact ⟨rfl, B7.out⟩
      | ill =>
        replace hT5 : TrP w5 ⟨[], [], [], 0⟩ xl xm xi := hT5
        obtain ⟨y1, z1, rfl⟩ := hT5.lat.len
        obtain ⟨y2, z2, rfl, -, -⟩ := hT5.mems.form
        obtain ⟨y3, z3, rfl, -, -⟩ := hT5.ins.form
        simp only [resD, resN, resF, trV, List.length_nil]
        obtain ⟨w6, hw6⟩ : ∃ w6, w6 = w5.alloc (.cells #[.slice y1 0 z1, .slice y2 0 z2, .slice y3 0 z3, .int .i64 0] 29) := ⟨_, rfl⟩
        obtain ⟨q6, -⟩ := tr_new hw6
        have B6 := Lib.hid (B5.out.trans (q6.mono B5.out.size))
        have HW6 := Lib.hid hw6
        have HA6 := Lib.hid (HAL.out _ B6.out)
        clear hT5 q6 hw6
        go_wp2_with fail
        rw [← HW6.out]
        refine HA6.out.mono ?_
        rintro e w7 ⟨rfl, q7⟩
        have B7 := Lib.hid (HFIN.out _ (B6.out.trans (q7.mono B6.out.size)))
        clear q7
        go_wp2
        go_ret
        exact ⟨rfl, B7.out⟩
      | ok d2 =>
        replace hT5 : TrP w5 d2 xl xm xi := hT5
        obtain ⟨e1, e2⟩ := HEQ.out d2 rfl
        have hP5 := fun W (hW : Below w5.heap.size w5 W) => HP2.out W (B5.out.trans (hW.mono B5.out.size)) d2 xl xm xi (hT5.below hW)
        rw [e1, e2] at hP5
        have HP5 := Lib.hid hP5
        obtain ⟨y1, z1, rfl⟩ := hT5.lat.len
        obtain ⟨y2, z2, rfl, -, -⟩ := hT5.mems.form
        obtain ⟨y3, z3, rfl, -, -⟩ := hT5.ins.form
        simp only [resD, resN, resF, trV]
        (try unfold trV at HP5)
        clear hT5 e1 e2 hP5 HEQ HSEC
        generalize d2.lat.length = m1 at *
        generalize d2.mems.length = m2 at *
        generalize d2.ins.length = m3 at *
        generalize d2.bad = bd2 at *
        obtain ⟨w6, hw6⟩ : ∃ w6, w6 = w5.alloc (.cells #[.slice y1 m1 z1, .slice y2 m2 z2, .slice y3 m3 z3, .int .i64 bd2] 29) := ⟨_, rfl⟩
        obtain ⟨q6, -⟩ := tr_new hw6
        have B6 := Lib.hid (B5.out.trans (q6.mono B5.out.size))
        have HW6 := Lib.hid hw6
        have HP6 := Lib.hid (HP5.out _ q6)
        clear q6 hw6
        go_wp2_with fail
        rw [← HW6.out]
        refine HP6.out.mono ?_
        rintro e w7 ⟨rfl, q7⟩
        have B7 := Lib.hid (B6.out.trans (q7.mono B6.out.size))
        have HA7 := Lib.hid (HAL.out _ B7.out)
        have hss : (s.toList == s.toList) = true := beq_self_eq_true _
        clear q7
        go_wp2_with fail
        refine HA7.out.mono ?_
        rintro e w8 ⟨rfl, q8⟩
        have B8 := Lib.hid (HFIN.out _ (B7.out.trans (q8.mono B7.out.size)))
        clear q8
        go_wp2
        go_ret
        exact ⟨rfl, B8.out⟩
  · have hor : b1 = false ∨ (b1 = true ∧ (2000 : Int) < (s.size : Int)) := by
      cases b1 with
      | false => exact .inl rfl
      | true => exact .inr ⟨rfl, Classical.byContradiction fun h => hgo ⟨by trivial, h⟩⟩
    clear hgo
    have HA1 := Lib.hid (HAL.out _ B1.out)
    rcases hor with rfl | ⟨rfl, hsz⟩
    all_goals
      go_wp2_with fail
      refine HA1.out.mono ?_
      rintro e w2 ⟨rfl, q2⟩
      have B2 := Lib.hid (HFIN.out _ (B1.out.trans (q2.mono B1.out.size)))
      clear q2
      go_wp2
      go_ret
      exact ⟨rfl, B2.out⟩
end Go.Proofs.YtibinmabdidecaaGreatDoor
