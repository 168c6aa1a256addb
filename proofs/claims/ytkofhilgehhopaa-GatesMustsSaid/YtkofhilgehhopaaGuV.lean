/-
  Package gates: All, walked for any literals that may be.
-/
import Derived.Test.YtkofhilgehhopaaGuU
import Derived.Test.YtkofhilgehhopaaGuC
namespace Go.Proofs.Ytkofhilgehhopaa
open Go Go.ChangeShapes Go.WideShapes Go.ChangeAt Go.RowKit Go.Maps
set_option linter.unusedVariables false
set_option linter.unusedSimpArgs false
attribute [local go_sem ↓] Go.wp_at_zero Go.wp_at_succ
theorem sortN (w : World) : Calls Try.prog 36 #[.slice none 0 0] w fun e w' => e = .returned (.tuple #[]) ∧ w = w' := (AnyM.slices_Sort_int_none Try.sortA none 0 w).mono fun e w' h => ⟨h.1, h.2.symm⟩
theorem compN (w : World) : Calls Try.prog 38 #[.slice none 0 0] w fun e w' => e = .returned (.slice none 0 0) ∧ w = w' := (Any.slices_Compact_int_empty Try.compI none 0 w).mono fun e w' h => ⟨h.1, h.2.symm⟩
theorem idxN (fv : Value) (w : World) : Calls Try.prog 65 #[.slice none 0 0, fv] w fun e w' => e = .returned (.int .i64 (-1)) ∧ w = w' := by
  go_enter Try.func65, Try.ntmps65
  go_wp2
  go_loopw [8] (fun i wr => i = .int .i64 0 ∧ wr = w) (fun _ _ => 0)
  case atStart => exact ⟨rfl, rfl⟩
  case round =>
    obtain ⟨rfl, rfl⟩ := hrel
    go_wp2
    go_ret
    exact ⟨rfl, rfl⟩
theorem delN (fv : Value) (w : World) : Calls Try.prog 37 #[.slice none 0 0, fv] w fun e w' => e = .returned (.slice none 0 0) ∧ w = w' := by
  go_enter Try.func37, Try.ntmps37
  go_wp2_with ((go_at_call 65; refine (idxN _ _).mono ?_; rintro e w' ⟨rfl, rfl⟩))
  go_ret
  exact ⟨rfl, rfl⟩
section
variable {fp : Nat → Prop} {B : Nat} {w : World} {g f m : Nat} {S : GS}
set_option maxHeartbeats 8000000 in
set_option maxRecDepth 100000 in
theorem All_ (h : GMem fp B w g f m S) (hB : B ≤ w.heap.size) (hr : Room S) {v : Value} {l : List Int} (hi : Ints w v l) (hl : ∀ x ∈ l, okL S.n x) (hlen : l.length ≤ 100) :
    Calls Try.prog 13 #[.pointer (some ⟨g, 0, none⟩), v] w fun e w' => e = .returned (.int .i64 (allS l S).1) ∧ GLeft fp B w g f m (allS l S).2 w' := by
  have h0 := h
  obtain ⟨D, hrep, hG⟩ := h
  have hf := fine_ hG hi
  rw [show l.any (badG (S.n : Int)) = false by
    rw [← Bool.not_eq_true, List.any_eq_true]
    rintro ⟨x, hx, e⟩
    rw [badG_ok (by have := hr.n; omega) (hl x hx)] at e; cases e] at hf
  have hfl := hG.fo.lt'
  have hml := hG.mp.lt
  have HF := Lib.hid hf
  have H0 := Lib.hid h0
  have HB := Lib.hid hB
  have HFL := Lib.hid hfl
  have HML := Lib.hid hml
  have HRM := Lib.hid hr
  have HL := Lib.hid hl
  have HI := Lib.hid hi
  have HLEN := Lib.hid hlen
  clear h0 hrep hG hf hfl hml hB hr hl hi hlen
  go_enter Try.func13, Try.ntmps13
  go_wp2_with fail
  refine HF.out.mono ?_
  rintro e w1 ⟨rfl, hb⟩
  have HC := Lib.hid (slices_Clone (HI.out.below hb) (by have := HLEN.out; omega))
  have HB1 := Lib.hid hb
  clear hb
  go_wp2_with fail
  refine HC.out.mono ?_
  rintro e w2 ⟨u, rfl, hp⟩
  have hb2 : Below w.heap.size w w2 := HB1.out.trans (hp.2.2.mono HB1.out.size)
  have hbx : Below w.heap.size w (w2.alloc (.cells #[u] 32)) := hb2.alloc hb2.size _
  rcases hp.1.form with ⟨rfl, hl0, -⟩ | ⟨gc, cap, rfl, hc1, hc2, hc3, -⟩
  · have hl0 : l = [] := List.eq_nil_of_length_eq_zero hl0
    have HE : Hid (allS l S = (1, S)) := Lib.hid (by rw [hl0]; rfl)
    have HBX := Lib.hid hbx
    clear hl0 hp hb2 hbx
    go_wp2_with (first
      | (go_at_call 36; refine (sortN _).mono ?_; rintro e w' ⟨rfl, rfl⟩)
      | (go_at_call 38; refine (compN _).mono ?_; rintro e w' ⟨rfl, rfl⟩)
      | (go_at_call 37; refine (delN _ _).mono ?_; rintro e w' ⟨rfl, rfl⟩)
      | (go_at_call 42; refine (cfun_none _ _ _ _).mono ?_; rintro e w' ⟨rfl, rfl⟩))
    go_ret
    exact ⟨by rw [HE.out]; rfl, by rw [HE.out]; exact GLeft.same H0.out HBX.out HB.out⟩
  · have hg2 : w1.heap.size ≤ gc := hp.2.1 gc rfl
    have hr2 : RowI (w2.alloc (.cells #[.slice (some ⟨gc, 0, none⟩) l.length cap] 32)) gc cap l := Row.alloc hp.1 _
    have hc0 : Blk (w2.alloc (.cells #[.slice (some ⟨gc, 0, none⟩) l.length cap] 32)) w2.heap.size 32 #[.slice (some ⟨gc, 0, none⟩) l.length cap] := Blk.new _ _ _
    obtain ⟨bx, hbxe⟩ : ∃ bx, bx = w2.heap.size := ⟨_, rfl⟩
    rw [← hbxe] at hc0
    have hlo : w.heap.size ≤ gc ∧ gc < bx := ⟨Nat.le_trans HB1.out.size hg2, by omega⟩
    obtain ⟨W3, hW3⟩ : ∃ W3, W3 = w2.alloc (.cells #[.slice (some ⟨gc, 0, none⟩) l.length cap] 32) := ⟨_, rfl⟩
    rw [← hW3] at hr2 hc0 hbx
    have b3 := hc0.cell 0
    have HS := Lib.hid (sortC hr2 (by have := HLEN.out; omega))
    have HC0 := Lib.hid hc0
    have HB3 := Lib.hid hbx
    have HLO := Lib.hid hlo
    have HBXE := Lib.hid hbxe
    obtain ⟨q, hq⟩ : ∃ q, q = l.length := ⟨_, rfl⟩
    rw [← hq] at hW3 b3 HS HC0
    have HQ := Lib.hid hq
    have HW3 := Lib.hid hW3
    clear hp hb2 hbx hc1 hc2 hc3 hg2 hr2 hc0 hbxe hlo hq hW3
    rw [← HQ.out]
    go_wp2_with fail
    rw [← HW3.out, ← HBXE.out]
    refine HS.out.mono ?_
    rintro e W4 ⟨rfl, hr4, hc4⟩
    have hk4 := HC0.out.chg hc4 (by have := HLO.out; omega)
    have hb4 : Below w.heap.size w W4 := HB3.out.trans (hc4.below HB3.out.size (fun i hi => by have := HLO.out.1; omega))
    have hcm := compC hr4 (by rw [List.length_mergeSort]; have := HLEN.out; omega)
    rw [List.length_mergeSort, ← HQ.out, compact_sort] at hcm
    have HCM := Lib.hid hcm
    have b4 := hk4.cell 0
    have HK4 := Lib.hid hk4
    have HB4 := Lib.hid hb4
    clear hr4 hc4 hk4 hb4 hcm b3
    go_wp2_with fail
    refine HCM.out.mono ?_
    rintro e W5 ⟨rfl, hr5, hc5⟩
    have hk5 := HK4.out.chg hc5 (by have := HLO.out; omega)
    have hb5 : Below w.heap.size w W5 := HB4.out.trans (hc5.below HB4.out.size (fun i hi => by have := HLO.out.1; omega))
    have hde := delC hr5 (by have := length_sortR l; have := HLEN.out; omega)
    rw [show (sortR l).filter (fun x => !(x == 1)) = canonL l from rfl] at hde
    have HDE := Lib.hid hde
    have HK5 := Lib.hid hk5
    have HB5 := Lib.hid hb5
    obtain ⟨q2, hq2⟩ : ∃ q2, q2 = (sortR l).length := ⟨_, rfl⟩
    rw [← hq2] at HDE ⊢
    clear hr5 hc5 hk5 hb5 hde hq2 b4
    go_wp2_with fail
    refine HDE.out.mono ?_
    rintro e W6 ⟨rfl, hr6, hc6⟩
    have hk6 := HK5.out.chg hc6 (by have := HLO.out; omega)
    have hb6 : Below w.heap.size w W6 := HB5.out.trans (hc6.below HB5.out.size (fun i hi => by have := HLO.out.1; omega))
    obtain ⟨c, hc⟩ : ∃ c, c = canonL l := ⟨_, rfl⟩
    obtain ⟨q3, hq3⟩ : ∃ q3, q3 = c.length := ⟨_, rfl⟩
    rw [← hc] at hr6 ⊢
    rw [← hq3]
    have hk7 := hk6.set_ 0 (.slice (some ⟨gc, 0, none⟩) q3 cap)
    have hc7 : Chg (fun y => y = bx) W6 (W6.setCell ⟨bx, 0, none⟩ (.slice (some ⟨gc, 0, none⟩) q3 cap)) := (Chg.refl (fun y => y = bx) W6).setCell (p := ⟨bx, 0, none⟩) (.inl rfl) _
    have hr7 : RowI (W6.setCell ⟨bx, 0, none⟩ (.slice (some ⟨gc, 0, none⟩) q3 cap)) gc cap c := Row.chg hr6 hc7 (fun b hb e => by
      have hb : some gc = some b := hb
      injection hb with hb
      have := HLO.out.2
      omega)
    have hb7 : Below w.heap.size w (W6.setCell ⟨bx, 0, none⟩ (.slice (some ⟨gc, 0, none⟩) q3 cap)) := hb6.trans (hc7.below hb6.size (fun i hi => by have := HLO.out; omega))
    obtain ⟨W7, hW7⟩ : ∃ W7, W7 = W6.setCell ⟨bx, 0, none⟩ (.slice (some ⟨gc, 0, none⟩) q3 cap) := ⟨_, rfl⟩
    rw [← hW7] at hk7 hr7 hb7
    have hk7 : Blk W7 bx 32 #[.slice (some ⟨gc, 0, none⟩) q3 cap] := by simpa using hk7
    have hcl : ∀ x ∈ c, okL S.n x := fun x hx => HL.out x (mem_canonL.1 (by rw [← hc]; exact hx)).1
    have hc9 : c.length ≤ 100 := by rw [hc]; exact Nat.le_trans (canonL_len l) HLEN.out
    have b7 := hk7.cell 0
    have hop := opp_any hr7 (by omega) (by rw [b7, hq3]; rfl)
    rw [oppW_any (n := S.n) (by have := HRM.out.n; omega) hcl, ← hq3] at hop
    have HOP := Lib.hid hop
    have b6 := hk6.cell 0
    have f6 := hk6.frozen 0
    have l6 := hk6.lt
    have HK7 := Lib.hid hk7
    have HR7 := Lib.hid hr7
    have HB7 := Lib.hid hb7
    have HW7 := Lib.hid hW7
    have HCC := Lib.hid hc
    have HQ3 := Lib.hid hq3
    have HCL := Lib.hid hcl
    have HC9 := Lib.hid hc9
    obtain ⟨r, hrr⟩ : ∃ r, r = c.any (oppB c) := ⟨_, rfl⟩
    rw [← hrr] at HOP
    have HRR := Lib.hid hrr
    clear hr6 hc6 hk6 hb6 hk7 hr7 hb7 hc7 hW7 hc hq3 hcl hc9 b7 hop hrr
    go_wp2_with fail
    rw [← HW7.out]
    refine HOP.out.mono ?_
    rintro e W8 ⟨rfl, hq8⟩
    have hb78 := hq8.below
    have hb8 : Below w.heap.size w W8 := HB7.out.trans (hb78.mono HB7.out.size)
    have hk8 := HK7.out.below hb78 HK7.out.lt
    have hr8 : RowI W8 gc cap c := Row.chg (S := fun _ => False) HR7.out (Chg.of_below hb78) (fun _ _ e => e)
    have b8 := hk8.cell 0
    have HK8 := Lib.hid hk8
    have HR8 := Lib.hid hr8
    have HB8 := Lib.hid hb8
    have HLE : Hid (∀ z, allS l S = (z, S) → GLeft fp B w g f m (allS l S).2 W8) := Lib.hid fun z e => by rw [e]; exact GLeft.same H0.out hb8 HB.out
    clear hq8 hb78 hb8 hk8 hr8 hk7 b6 f6 l6
    cases r with
    | true =>
      have HE : Hid (allS l S = (-1, S)) := Lib.hid (by unfold allS; rw [← HCC.out, if_pos HRR.out.symm])
      go_wp2_with fail
      go_ret
      exact ⟨by rw [HE.out]; rfl, HLE.out _ HE.out⟩
    | false =>
      have hrf : ¬ (c.any (oppB c) = true) := by rw [← HRR.out]; decide
      have HRF := Lib.hid hrf
      clear hrf
      rcases (show q3 = 0 ∨ q3 = 1 ∨ 2 ≤ q3 by omega) with h3 | h3 | h3
      · have HE : Hid (allS l S = (1, S)) := Lib.hid (by unfold allS; rw [← HCC.out, if_neg HRF.out, if_pos (List.eq_nil_of_length_eq_zero (by rw [← HQ3.out]; exact h3))])
        subst h3
        go_wp2_with fail
        go_ret
        exact ⟨by rw [HE.out]; rfl, HLE.out _ HE.out⟩
      · have HE : Hid (allS l S = (c.getD 0 0, S)) := Lib.hid (by
          unfold allS
          rw [← HCC.out, if_neg HRF.out, if_neg (fun e => by have := HQ3.out; rw [e, h3] at this; cases this), if_pos (by rw [← HQ3.out]; exact h3)])
        have c8 : W8.cell? ⟨gc, 0, none⟩ = some (.int .i64 (c.getD 0 0)) := by
          rcases HR8.out.form with ⟨e, -⟩ | ⟨g', cap', e, -, -, -, hc⟩
          · cases e
          · injection e with e1 e2 e3
            injection e1 with e1
            injection e1 with e1
            subst e1
            have hl1 : 0 < c.length := by rw [← HQ3.out]; omega
            rw [(hc 0 (by simpa using hl1)).1]
            simp [List.getD, hl1, iv]
        obtain ⟨y, hy⟩ : ∃ y, y = c.getD 0 0 := ⟨_, rfl⟩
        rw [← hy] at c8 HE
        subst h3
        clear hy
        go_wp2_with fail
        go_ret
        exact ⟨by rw [HE.out]; rfl, HLE.out _ HE.out⟩
      · have HE : Hid (allS l S = gateS ⟨3, 0, 0, 0, textB c⟩ (allCls c) S) := Lib.hid (by
          unfold allS
          rw [← HCC.out, if_neg HRF.out, if_neg (fun e => by have := HQ3.out; rw [e] at this; simp at this; omega), if_neg (by rw [← HQ3.out]; omega)])
        have HTX := Lib.hid (text_ HR8.out.ints (by have := HC9.out; omega) (fun x hx => by have := HCL.out x hx; have := HRM.out.n; unfold okL at *; unfold in32; omega))
        rw [← HQ3.out] at HTX
        have d0 : ((q3 : Int) == 0) = false := by rw [beq_eq_false_iff_ne]; omega
        have d1 : ((q3 : Int) == 1) = false := by rw [beq_eq_false_iff_ne]; omega
        have H3 := Lib.hid h3
        clear h3
        go_wp2_with fail
        refine HTX.out.mono ?_
        rintro e W9 ⟨rfl, hb9⟩
        have hb09 : Below w.heap.size w W9 := HB8.out.trans (hb9.mono HB8.out.size)
        have hk9 := HK8.out.below hb9 HK8.out.lt
        have hr9 : RowI W9 gc cap c := Row.chg (S := fun _ => False) HR8.out (Chg.of_below hb9) (fun _ _ e => e)
        have hpc : BoxG fp W9 m bx (.slice (some ⟨gc, 0, none⟩) c.length cap) := ⟨by rw [hk9.cell 0, HQ3.out]; rfl, fun e => by have := HFL.out _ e; have := HLO.out; omega, by have := HML.out; have := HLO.out; omega⟩
        have hrc : RowG fp W9 m (.slice (some ⟨gc, 0, none⟩) c.length cap) c := ⟨hr9, fun b hb => by
          have hb : some gc = some b := hb
          injection hb with hb
          subst hb
          exact ⟨fun e => by have := HFL.out _ e; have := HLO.out; omega, by have := HML.out; have := HLO.out; omega⟩⟩
        have hn := HRM.out.n
        have hga := gate_L (H0.out.below hb09) ⟨3, 0, 0, 0, textB c⟩ ⟨by unfold wf64'; dsimp only; omega, by unfold wf64'; dsimp only; omega, by unfold wf64'; dsimp only; omega, by unfold wf64'; dsimp only; omega, by dsimp only; rw [textB_len]; have := HC9.out; omega⟩ (Nat.le_trans HB.out hb09.size) hn HRM.out.tb (pa := bx) (allCls c)
          (fun fp1 w1' D1 hc hs hG1 hx1 hB1' => all_put hG1 hx1 (hpc.chg hc hs) (hrc.chg hc hs) hB1' (by rw [← HQ3.out]; exact H3.out) HC9.out ⟨by have := HRM.out.cl; omega, by omega, by omega⟩ ⟨by omega, by omega⟩
            (fun x hx => by have := HCL.out x hx; unfold okL at *; omega))
        have HGA := Lib.hid hga
        have HB9 := Lib.hid hb09
        unfold GKey.v keyC at HGA
        dsimp only at HGA
        obtain ⟨tx, htx⟩ : ∃ tx : ByteArray, tx = ⟨(textB c).toArray⟩ := ⟨_, rfl⟩
        rw [← htx] at HGA ⊢
        clear hb9 hb09 hk9 hr9 hpc hrc hn hga htx b8
        go_wp2_with fail
        refine HGA.out.mono ?_
        rintro e w9 ⟨rfl, hL⟩
        have HP := Lib.hid (GLeft.pre HB9.out HB.out hL)
        clear hL
        go_wp2
        go_ret
        exact ⟨by rw [HE.out]; rfl, by rw [HE.out]; exact HP.out⟩
end
end Go.Proofs.Ytkofhilgehhopaa
