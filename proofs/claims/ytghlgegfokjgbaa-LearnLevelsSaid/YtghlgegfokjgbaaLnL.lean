/-
  Chapter 23's law: copied, walked.
-/
import Derived.Test.YtghlgegfokjgbaaLnI

namespace Go.Proofs.Ytghlgegfokjgbaa
open Go.ChangeShapes Go.WideShapes Go.ChangeAt Go.RowKit
set_option linter.unusedVariables false
set_option linter.unusedSimpArgs false
attribute [local go_sem ↓] Go.wp_at_zero Go.wp_at_succ
/-- What copied leaves. -/
def CopiedQ2 (w : World) (t : TS) (e : Ending) (w' : World) : Prop := ∃ cb a vL, e = .returned (.pointer (some ⟨cb, 0, none⟩)) ∧ Cop w' cb a (.int .i64 (t.lv.length : Nat)) vL (itemsOf t) ∧ Below w.heap.size w w'
set_option maxHeartbeats 8000000 in
set_option maxRecDepth 100000 in
theorem copied2_ {B : Nat} {w0 w : World} {r : Nat → Nat} {wb t : Nat} {S : WS} (h : LW B w0 w r wb t S) (ht : TI S.t) :
    Calls Try.prog 9 #[.pointer (some ⟨t, 0, none⟩)] w (CopiedQ2 w S.t) := by
  have HDE := Lib.hid h.depth
  have HTI := Lib.hid ht
  obtain ⟨dp, hdp⟩ : ∃ dp, dp = S.t.lv.length := ⟨_, rfl⟩
  rw [← hdp] at HDE
  obtain ⟨w1, hw1⟩ : ∃ w1, w1 = w.alloc (.cells #[.int .i64 12, .slice none 0 0, .int .i64 dp] 49) := ⟨_, rfl⟩
  have hA : Below w.heap.size w w1 := by rw [hw1]; exact (Below.refl _ _).alloc (Nat.le_refl _) _
  have hcb : Blk w1 w.heap.size 49 #[.int .i64 12, .slice none 0 0, .int .i64 dp] := by rw [hw1]; exact Blk.new w _ _
  obtain ⟨cb, hcbe⟩ : ∃ cb, cb = w.heap.size := ⟨_, rfl⟩
  have hW1 := h.below hA
  have hrcb : r cb = 0 := h.at_.hi cb (by omega)
  have HBW := Lib.hid h.hB
  have HLT := Lib.hid (hW1.lits (by have := ht.len; omega))
  have HW1 := Lib.hid hW1
  rw [← hcbe] at hcb
  have HCB := Lib.hid hcb
  have HRC := Lib.hid hrcb
  have HA := Lib.hid hA
  have HCE := Lib.hid hcbe
  have HW1E := Lib.hid hw1
  have HDP := Lib.hid hdp
  clear h ht hdp hA hcb hW1 hrcb hcbe hw1
  go_enter Try.func9, Try.ntmps9
  go_wp2_with ((go_at_call 22; refine (HDE.out).mono ?_; rintro e w' ⟨rfl, rfl⟩))
  rw [← HW1E.out, ← HCE.out]
  refine HLT.out.mono ?_
  rintro e wL ⟨lv, rfl, hcp⟩
  obtain ⟨n, hn⟩ : ∃ n, n = S.t.l.length := ⟨_, rfl⟩
  obtain ⟨la, lc, hlv⟩ := ints_form hcp.1.ints
  rw [← hn] at hlv
  subst hlv
  have hn9 : n ≤ 9 := by rw [hn]; exact HTI.out.len
  have hbL := hcp.2.2
  have hI : Ints wL (.slice la n lc) S.t.l := hcp.1.ints
  have hlown : ∀ g, (Value.slice la n lc).ownBlock = some g → w1.heap.size ≤ g := hcp.2.1
  have hcl1 : cb < w1.heap.size := HCB.out.lt
  have HWL := Lib.hid (HW1.out.below hbL)
  have HI : Hid (CopR wL cb (.int .i64 12) (.int .i64 dp) [] wL) := Lib.hid ⟨.slice none 0 0, ⟨HCB.out.below hbL hcl1, World.ownsRow_nil _ _ _ _, fun g hg => by simp [Value.ownBlock] at hg⟩, fun g hg => by simp [Value.ownBlock] at hg, Chg.refl _ _⟩
  have HIN := Lib.hid hI
  have HLO := Lib.hid hlown
  have HBL := Lib.hid hbL
  have HN := Lib.hid hn
  have HCL := Lib.hid hcl1
  clear hcp hn hbL hI hlown hcl1
  go_wp2_with fail
  go_loopw [5, 6] (fun i _ wr => ∃ k : Nat, k ≤ n ∧ i = .int .i64 k ∧ CopR wL cb (.int .i64 12) (.int .i64 dp) ((itemsOf S.t).take k) wr) (fun i _ _ => n - (intOf i).toNat)
  case atStart => exact ⟨0, Nat.zero_le _, rfl, HI.out⟩
  case round =>
    obtain ⟨k, hk, rfl, vL, hC, hg, hc⟩ := hrel
    by_cases hlt : (k : Int) < (n : Int)
    · have hkn : k < S.t.l.length := by have := HN.out; omega
      obtain ⟨x, hx⟩ : ∃ x, x = S.t.l.getD k 0 := ⟨_, rfl⟩
      have hx9 : lit9 x := by rw [hx]; exact HTI.out.li _ (mem_getD hkn)
      have hW : LW B w0 wr r wb t S := ⟨HWL.out.at_.chg hc (fun b hb e => hb (by rw [e]; exact HRC.out)), HWL.out.old.trans (hc.below HWL.out.hB (fun i hi => by have := HWL.out.hB; have := HCE.out; have := HBW.out; omega)), Nat.le_trans HWL.out.hB hc.size⟩
      have hIr : Ints wr (.slice la n lc) S.t.l := HIN.out.chg hc (fun g hg e => by have := HLO.out g hg; have := HCL.out; omega)
      obtain ⟨_, _, hle, -, -, -, hcell0⟩ := hIr
      injection hle with e1 e2 e3
      subst e1
      obtain ⟨b, off, rfl, hcell⟩ := ints_cells hcell0 hkn
      rw [← hx] at hcell
      have q1 := hcell wr (Below.refl _ _)
      have HLV := Lib.hid (fun W (hb : Below wr.heap.size wr W) => ((hW.below hb).level (absI x)).mono (fun e w' ⟨h1, h2⟩ => (⟨h1, hb.trans (h2.mono hb.size)⟩ : e = Ending.returned (.int .i64 (S.t.level (absI x))) ∧ Below wr.heap.size wr w')))
      have HRE := Lib.hid (fun W (hb : Below wr.heap.size wr W) => ((hW.below hb).reason (absI x)).mono (fun e w' ⟨h1, h2⟩ => (⟨h1, hb.trans (h2.mono hb.size)⟩ : e = Ending.returned (.int .i64 (S.t.reason (absI x))) ∧ Below wr.heap.size wr w')))
      obtain ⟨lev, hlev⟩ : ∃ lev, lev = S.t.level (absI x) := ⟨_, rfl⟩
      obtain ⟨rea, hrea⟩ : ∃ rea, rea = S.t.reason (absI x) := ⟨_, rfl⟩
      rw [← hlev] at HLV
      rw [← hrea] at HRE
      have HAB := Lib.hid (r17_Abs x hx9.small)
      have hlk : ((itemsOf S.t).take k).length = k := by rw [List.length_take]; unfold itemsOf; rw [List.length_map]; omega
      have htk : (itemsOf S.t).take (k + 1) = (itemsOf S.t).take k ++ [(x, lev, rea)] := by
        rw [List.take_succ_eq_append_getElem (by unfold itemsOf; rw [List.length_map]; exact hkn)]
        congr 2
        unfold itemsOf
        rw [List.getElem_map, hlev, hrea, hx, getD_mem' hkn]
      obtain ⟨va, vc, hvf, -, -⟩ := hC.l.formI
      rw [hlk] at hvf
      subst hvf
      have HCC : Hid (∀ W, Below wr.heap.size wr W → W.cell? ⟨cb, 1, none⟩ = some (.slice va k vc) ∧ W.frozen? ⟨cb, 1, none⟩ = false ∧ cb < W.heap.size ∧ W.cell? ⟨b, off + k, none⟩ = some (.int .i64 x)) := Lib.hid fun W hb => by
        have h1 := (hC.below hb).b
        exact ⟨h1.cell 1, h1.frozen 1, h1.lt, hcell W hb⟩
      have HRO : Hid (∀ W, Below wr.heap.size wr W → Row W 53 3 (.slice va k vc) k (((itemsOf S.t).take k).flatMap itC)) := Lib.hid fun W hb => by
        have := (hC.below hb).l
        rwa [hlk] at this
      obtain ⟨its, hits⟩ : ∃ its, its = (itemsOf S.t).take k := ⟨_, rfl⟩
      rw [← hits] at HRO hC htk hlk
      have HST : Hid (∀ W v' wB, Below wr.heap.size wr W → AppPost (W.alloc (.cells #[.int .i64 x, .int .i64 lev, .int .i64 rea] 53)) 53 3 (.slice va k vc) (k + 1) (its.flatMap itC ++ [.int .i64 x, .int .i64 lev, .int .i64 rea]) v' wB → CopR wL cb (.int .i64 12) (.int .i64 dp) ((itemsOf S.t).take (k + 1)) (wB.setCell ⟨cb, 1, none⟩ v') ∧ wB.cell? ⟨cb, 1, none⟩ = some (.slice va k vc) ∧ wB.frozen? ⟨cb, 1, none⟩ = false ∧ cb < wB.heap.size) := Lib.hid fun W v' wB hb hp => by
        refine ⟨?_, cop_cells (hC.below (hb.alloc hb.size _)) hp⟩
        rw [htk]
        exact cop_step (x := (x, lev, rea)) hC hg hc hb hlk.symm hp
      have b0 : Below wr.heap.size wr wr := Below.refl _ _
      have b1 : Below wr.heap.size wr wr.drew := b0.drew
      obtain ⟨z1, z2, z3, z4⟩ := HCC.out wr.drew b1
      have sx := hx9.small
      clear hx hx9 hW hcell0 hcell hlev hrea hlk htk hC hg hc hits hkn e2 e3 sx
      go_wp2_with ((go_at_call 21; refine (HAB.out _).mono ?_; rintro e w' ⟨rfl, rfl⟩))
      go_region_law (first
        | (go_simp; go_at_call 18; refine (HLV.out _ (by assumption)).mono ?_; rintro e wX ⟨rfl, bX⟩; obtain ⟨y1, y2, y3, y4⟩ := HCC.out wX bX)
        | (go_simp; go_at_call 24; refine (HRE.out _ (by assumption)).mono ?_; rintro e wY ⟨rfl, bY⟩; obtain ⟨x1, x2, x3, x4⟩ := HCC.out wY bY)
        | (refine step_app rfl (.tmp 28) (.tmp 40) _ rfl 53 (.agg #[.int .i64 0, .int .i64 0, .int .i64 0]) 3 24 Try.underlying47 infoIT rfl (by decide) (.slice va k vc) k (its.flatMap itC) ?hs ?ho wX.heap.size 0 1 1 [.int .i64 x, .int .i64 lev, .int .i64 rea] ?hx rfl ?hn ?h1 ?c1 ?c2 ?_
           case hs => ((try simp only [List.getElem_toArray, List.getElem_cons_succ, List.getElem_cons_zero]); (repeat rw [eval_put_ne _ _ _ _ (by decide)]); first | (with_reducible refine eval_put_eq _ _ _ ?_; simp [put_size]; done) | rfl)
           case hx => ((try simp only [List.getElem_toArray, List.getElem_cons_succ, List.getElem_cons_zero]); (repeat rw [eval_put_ne _ _ _ _ (by decide)]); first | (with_reducible refine eval_put_eq _ _ _ ?_; simp [put_size]; done) | rfl)
           case ho => exact (HRO.out _ (by assumption)).alloc _
           case hn => (intro j u hu; rw [Nat.zero_add]; refine ((Blk.new _ _ _).cell j).trans ?_; simpa using hu)
           case h1 => intro u hu; simp at hu; rcases hu with rfl | rfl | rfl <;> rfl
           case c1 => unfold maxLen; omega
           case c2 => omega
           intro v3 wB hpF
           obtain ⟨ao, co, rfl⟩ : ∃ ao co, v3 = .slice ao (k + 1) co := by
             obtain ⟨p1, -, -⟩ := hpF
             rcases p1.form with ⟨rfl, e0, -⟩ | ⟨g, cap, rfl, -⟩
             · omega
             · exact ⟨_, _, rfl⟩
           obtain ⟨hfin, kB, fB, sB⟩ := HST.out _ _ wB (by assumption) hpF
           have HFI := Lib.hid hfin
           clear hfin hpF)
        | (refine step_app rfl (.tmp 28) (.tmp 40) _ rfl 53 (.agg #[.int .i64 0, .int .i64 0, .int .i64 0]) 3 24 Try.underlying47 infoIT rfl (by decide) (.slice va k vc) k (its.flatMap itC) ?hsb ?hob wY.heap.size 0 1 1 [.int .i64 x, .int .i64 lev, .int .i64 rea] ?hxb rfl ?hnb ?h1b ?c1b ?c2b ?_
           case hsb => ((try simp only [List.getElem_toArray, List.getElem_cons_succ, List.getElem_cons_zero]); (repeat rw [eval_put_ne _ _ _ _ (by decide)]); first | (with_reducible refine eval_put_eq _ _ _ ?_; simp [put_size]; done) | rfl)
           case hxb => ((try simp only [List.getElem_toArray, List.getElem_cons_succ, List.getElem_cons_zero]); (repeat rw [eval_put_ne _ _ _ _ (by decide)]); first | (with_reducible refine eval_put_eq _ _ _ ?_; simp [put_size]; done) | rfl)
           case hob => exact (HRO.out _ (by assumption)).alloc _
           case hnb => (intro j u hu; rw [Nat.zero_add]; refine ((Blk.new _ _ _).cell j).trans ?_; simpa using hu)
           case h1b => intro u hu; simp at hu; rcases hu with rfl | rfl | rfl <;> rfl
           case c1b => unfold maxLen; omega
           case c2b => omega
           intro v3 wB hpF
           obtain ⟨ao, co, rfl⟩ : ∃ ao co, v3 = .slice ao (k + 1) co := by
             obtain ⟨p1, -, -⟩ := hpF
             rcases p1.form with ⟨rfl, e0, -⟩ | ⟨g, cap, rfl, -⟩
             · omega
             · exact ⟨_, _, rfl⟩
           obtain ⟨hfin, kB, fB, sB⟩ := HST.out _ _ wB (by assumption) hpF
           have HFI := Lib.hid hfin
           clear hfin hpF))
      all_goals
        go_wp2_with fail
        go_roundw
        case rel => exact ⟨k + 1, by omega, by go_num, HFI.out⟩
        case measure => simp [intOf]; omega
    · have HF : Hid (Cop wr cb (.int .i64 12) (.int .i64 dp) vL (itemsOf S.t)) := Lib.hid (by
        have e : (itemsOf S.t).take k = itemsOf S.t := List.take_of_length_le (by unfold itemsOf; rw [List.length_map]; have := HN.out; omega)
        rw [e] at hC; exact hC)
      have HB2 : Hid (Below w.heap.size w wr) := Lib.hid ((HA.out.trans (HBL.out.mono HA.out.size)).trans (hc.below (by have := HA.out.size; have := HBL.out.size; omega) (fun i hi => by have := HCE.out; omega)))
      clear hC hg hc
      go_wp2_with fail
      go_ret
      exact ⟨cb, _, vL, rfl, by rw [← HDP.out]; exact HF.out, HB2.out⟩
end Go.Proofs.Ytghlgegfokjgbaa
/-
  Chapter 23's law: LearnLevels.
-/
namespace Go.Proofs.Ytghlgegfokjgbaa
open Go Go.ChangeShapes Go.WideShapes Go.ChangeAt Go.RowKit Go.Maps
set_option linter.unusedVariables false
set_option linter.unusedSimpArgs false
attribute [local go_sem ↓] Go.wp_at_zero Go.wp_at_succ
theorem alive23_all {w : World} : ∀ wx, Below w.heap.size w wx → Calls Try.prog 6 #[] wx fun e w' => e = .returned (.bool true) ∧ Below w.heap.size w w' :=
  fun wx hb => (alive23 wx).mono fun e w' ⟨h1, h2⟩ => ⟨h1, hb.trans (h2.mono hb.size)⟩
/-- The two counts are one. -/
theorem levels_eq {t : TS} {c : List Int} {ks : List Int} (hT : TI t) (hL : LvB t) (hcl : ClauseL c) (hnd : ks.Nodup) (hks : ∀ x, x ∈ ks ↔ 0 ≤ x ∧ ∃ y ∈ c, t.level (absI y) = x) : (ks.length : Int) = cntLev (anyLev (itemsOf t) c) (t.lv.length + 1) := by
  refine lev_count hnd fun x => ?_
  rw [hks]
  unfold anyLev
  rw [List.any_eq_true]
  have key : ∀ y ∈ c, levR (itemsOf t) (absI y) = t.level (absI y) := fun y hy => levR_is hT (by
    have := (hcl y hy).1
    unfold absI
    split <;> omega)
  constructor
  · rintro ⟨h0, y, hy, e⟩
    have := lev_bd hL (absI y)
    exact ⟨h0, by omega, y, hy, decide_eq_true (by rw [key y hy, e])⟩
  · rintro ⟨h0, -, y, hy, e⟩
    exact ⟨h0, y, hy, by rw [← key y hy]; exact of_decide_eq_true e⟩
set_option maxHeartbeats 4000000 in
set_option maxRecDepth 100000 in
theorem claw_llevels {w : World} {v vd vc : Value} {xss : List (List Int)} {ds c : List Int} (h : IntsS w v xss) (hd : Ints w vd ds) (hc : Ints w vc c) :
    Calls Try.prog 3 #[v, vd, vc] w fun e w' => e = .returned (.bool true) ∧ Below w.heap.size w w' := by
  have HST := Lib.hid (state_ h hd)
  have HAL := Lib.hid (alive23_all (w := w))
  have HC := Lib.hid hc
  obtain ⟨ca, cc, rfl, -, hc1, hc2, -⟩ := hc
  obtain ⟨n, hn⟩ : ∃ n, n = c.length := ⟨_, rfl⟩
  rw [← hn] at HC hc1 ⊢
  have HN := Lib.hid hn
  have hn9 : n ≤ 9223372036854775807 := Nat.le_trans hc1 hc2
  clear h hd hc1 hc2 hn
  go_enter Try.func3, Try.ntmps3
  go_wp2_with fail
  refine HST.out.mono ?_
  rintro e w1 ⟨t, wb, lv, id, r, S, rfl, hW, hT, hLv⟩
  have HW := Lib.hid hW
  have HT := Lib.hid hT
  have HL := Lib.hid hLv
  clear hW hT hLv
  by_cases hid : id = -2
  · subst hid
    go_wp2_with fail
    refine (HAL.out _ HW.out.old).mono ?_
    rintro e w2 ⟨rfl, hb⟩
    have HB := Lib.hid hb
    clear hb
    go_wp2
    go_ret
    exact ⟨rfl, HB.out⟩
  have d0 : (id == -2) = false := by rw [beq_eq_false_iff_ne]; exact hid
  clear hid
  by_cases h30 : 30 < n
  · go_wp2_with fail
    refine (HAL.out _ HW.out.old).mono ?_
    rintro e w2 ⟨rfl, hb⟩
    have HB := Lib.hid hb
    clear hb
    go_wp2
    go_ret
    exact ⟨rfl, HB.out⟩
  have h30' : n ≤ 30 := by omega
  have hfi := r17_Fine (HC.out.below HW.out.old)
  cases hcb : clauseB c with
  | false =>
    rw [hcb] at hfi
    have HFI := Lib.hid hfi
    clear hfi hcb
    go_wp2_with (first | (go_at_call 5; refine (HFI.out).mono ?_; rintro e w' ⟨rfl, rfl⟩) | fail)
    refine (HAL.out _ HW.out.old).mono ?_
    rintro e w2 ⟨rfl, hb⟩
    have HB := Lib.hid hb
    clear hb
    go_wp2
    go_ret
    exact ⟨rfl, HB.out⟩
  | true =>
    rw [hcb] at hfi
    have hcl : ClauseL c := of_decide_eq_true hcb
    have HFI := Lib.hid hfi
    have HCL := Lib.hid hcl
    have hdl : S.t.lv.length ≤ 9 := by have := HT.out.ok.lvl; have := HT.out.len; omega
    have HDL := Lib.hid hdl
    have HLV := Lib.hid (learn_Levels HW.out HL.out (by omega) (HC.out.below HW.out.old) hcl (by have := HN.out; omega))
    clear hfi hcb hcl hdl
    go_wp2_with (first | (go_at_call 5; refine (HFI.out).mono ?_; rintro e w' ⟨rfl, rfl⟩) | fail)
    refine HLV.out.mono ?_
    rintro e w2 ⟨ks, rfl, hnd, hks, hb2⟩
    have heq := levels_eq HT.out HL.out HCL.out hnd hks
    have HCP := Lib.hid (copied2_ (HW.out.below hb2) HT.out)
    have HEQ := Lib.hid heq
    have HB2 := Lib.hid (HW.out.old.trans (hb2.mono HW.out.old.size))
    obtain ⟨q, hq⟩ : ∃ q, q = ks.length := ⟨_, rfl⟩
    rw [← hq] at HEQ ⊢
    clear hnd hks hb2 heq hq
    go_wp2_with fail
    refine HCP.out.mono ?_
    rintro e w3 ⟨cb, a, vL, rfl, hcop, hb3⟩
    have hB3 := HB2.out.trans (hb3.mono HB2.out.size)
    have hrl := r23_Levels hcop (fun j hj => by
      have hjl : j < S.t.l.length := by unfold itemsOf at hj; rwa [List.length_map] at hj
      unfold itemsOf
      simp [List.getD, hjl]
      exact (HT.out.li _ (List.getElem_mem hjl)).small) (by unfold itemsOf; rw [List.length_map]; have := HT.out.len; omega) (by have := HDL.out; omega) (HC.out.below hB3) HCL.out (by have := HN.out; omega)
    rw [← HEQ.out] at hrl
    have HRL := Lib.hid hrl
    have HB3 := Lib.hid hB3
    clear hcop hb3 hB3 hrl
    go_wp2_with fail
    refine HRL.out.mono ?_
    rintro e w4 ⟨rfl, rfl⟩
    go_wp2_with fail
    refine (HAL.out _ HB3.out).mono ?_
    rintro e w5 ⟨rfl, hb5⟩
    have HB5 := Lib.hid hb5
    clear hb5
    go_wp2
    go_ret
    exact ⟨rfl, HB5.out⟩
end Go.Proofs.Ytghlgegfokjgbaa
