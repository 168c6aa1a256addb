/-
  The document's Parse of a witness, walked.
-/
import Derived.Test.YtamgbfkpblpfiaaGreatDoorTpXa
import Derived.Deep.CutBlock
import Derived.Deep.DeepCutAuto
namespace Go.Proofs.YtamgbfkpblpfiaaGreatDoor
open Go.ChangeShapes Go.WideShapes Go.ChangeAt Go.RowKit
set_option linter.unusedVariables false
set_option linter.unusedSimpArgs false
set_option maxHeartbeats 8000000 in
set_option maxRecDepth 100000 in
theorem r15_ParseV {w : World} {s : List UInt8} (hl : s.length ≤ 50000) :
    Calls Tryz.prog 25 #[.string (bs s)] w (ParseV w (parseT s)) := by
  obtain ⟨g, hg⟩ : ∃ g, g = w.heap.size := ⟨_, rfl⟩
  obtain ⟨P, hP⟩ : ∃ P, P = parseT s := ⟨_, rfl⟩
  rw [← hP]
  have HPS := Lib.hid (hP.trans (parseT_head s))
  obtain ⟨wA, hwA⟩ : ∃ wA, wA = w.alloc (.cells #[.slice none 0 0, .slice none 0 0, .slice none 0 0, .int .i64 0] 30) := ⟨_, rfl⟩
  have HB0 : Hid (Below w.heap.size w wA) := Lib.hid (by rw [hwA]; exact (Below.refl _ w).alloc (Nat.le_refl _) _)
  have HTA : Hid (Blk wA g 30 #[.slice none 0 0, .slice none 0 0, .slice none 0 0, .int .i64 0]) := Lib.hid (by rw [hwA, hg]; exact Blk.new w _ _)
  have HLS := Lib.hid (r15_lines (l := s) (by omega) wA)
  have HWA := Lib.hid hwA
  have HG := Lib.hid hg
  clear hP hwA hg
  obtain ⟨LB, hLB⟩ : ∃ b, b = (linesT s).2 := ⟨_, rfl⟩
  obtain ⟨LN, hLN⟩ : ∃ n, n = (linesT s).1.length := ⟨_, rfl⟩
  have HLB := Lib.hid hLB
  have HLN := Lib.hid hLN
  have hLN9 : LN ≤ 50001 := by rw [hLN]; have := linesT_len s; omega
  clear hLB hLN
  obtain ⟨sv, hsv⟩ : ∃ sv, sv = bs s := ⟨_, rfl⟩
  rw [← hsv] at HLS ⊢
  clear hsv
  go_enter Tryz.func25, Tryz.ntmps25
  go_wp2_with fail
  rw [← HG.out, ← HWA.out]
  refine HLS.out.mono ?_
  rintro e w1 ⟨u5, rfl, hO⟩
  obtain ⟨A5, cap5, hu5, -, -⟩ := hO.form
  rw [← HLN.out] at hu5
  rw [← HLB.out]
  have HO := Lib.hid hO
  have HT1 := Lib.hid (HTA.out.below hO.2.1 HTA.out.lt)
  have HB1 : Hid (Below w.heap.size w w1) := Lib.hid (HB0.out.trans (hO.2.1.mono HB0.out.size))
  obtain ⟨g7, hg7⟩ : ∃ g7, g7 = w1.heap.size := ⟨_, rfl⟩
  have HG7 := Lib.hid hg7
  obtain ⟨w2, hw2⟩ : ∃ w2, w2 = w1.alloc (.cells #[.slice none 0 0, .slice none 0 0, .slice none 0 0, .int .i64 0] 30) := ⟨_, rfl⟩
  have HB2 : Hid (Below w1.heap.size w1 w2) := Lib.hid (by rw [hw2]; exact (Below.refl _ w1).alloc (Nat.le_refl _) _)
  have HT7 : Hid (Blk w2 g7 30 #[.slice none 0 0, .slice none 0 0, .slice none 0 0, .int .i64 0]) := Lib.hid (by rw [hw2, hg7]; exact Blk.new w1 _ _)
  have HW2 := Lib.hid hw2
  have HGW : Hid (g < g7) := Lib.hid (by rw [HG7.out]; exact HT1.out.lt)
  clear hO hg7 hw2
  have HLINE : Hid (∀ W rest i, Chg (fun k => k = g7) w2 W → RelL s rest i → Calls Tryz.prog 57 #[.slice A5 LN cap5, .bool LB, .int .i64 (i : Nat)] W fun e w' => e = .returned (.tuple #[.string (bs (peekT rest)), .bool (cutT rest).isSome]) ∧ W = w') := Lib.hid fun W rest i hW hR => by
    have h2 := HO.out.below HB2.out
    have h3 : OwnG KS wA W u5 (linesT s).1 := ⟨h2.1.chg hW (fun q hq e => by have := HO.out.1.lt q hq; have := HG7.out; omega), h2.2.1.trans (hW.below h2.2.1.size (fun i hi => by rw [hi, HG7.out]; exact HO.out.2.1.size)), h2.2.2⟩
    have := lineR_ h3 hR hl
    rw [hu5, ← HLB.out] at this
    exact this
  have HTG : Hid (∀ W, Chg (fun k => k = g7) w2 W → Blk W g 30 #[.slice none 0 0, .slice none 0 0, .slice none 0 0, .int .i64 0]) := Lib.hid fun W hW => (HT1.out.below HB2.out HT1.out.lt).chg hW (fun e => by have := HGW.out; omega)
  have HBW : Hid (∀ W, Chg (fun k => k = g7) w2 W → Below w.heap.size w W) := Lib.hid fun W hW => (HB1.out.trans (HB2.out.mono HB1.out.size)).trans (hW.below (Nat.le_trans HB1.out.size HB2.out.size) (fun i hi => by rw [hi, HG7.out]; exact HB1.out.size))
  have HFB : Hid (∀ W n z, Chg (fun k => k = g7) w2 W → P = .bad n → z = ((n : Nat) : Int) → ParseV w P (.returned (.tuple #[.agg #[.slice none 0 0, .slice none 0 0, .slice none 0 0, .int .i64 0], .int .i64 z, .int .i64 2])) W) := Lib.hid fun W n z hW hp hz => ⟨HBW.out W hW, .slice none 0 0, .slice none 0 0, .slice none 0 0, by rw [hp, hz]; rfl, by rw [hp]; exact fun _ _ => TrP.nil _ _⟩
  have HL0 := Lib.hid (HLINE.out w2 s 0 (Chg.refl _ _) (RelL.start s))
  subst hu5
  go_wp2_with fail
  rw [← HW2.out, ← HG7.out]
  refine HL0.out.mono ?_
  rintro e w2' ⟨rfl, rfl⟩
  have HZ2 : Hid (∀ W, Chg (fun k => k = g7) w2 W → (W.cell? ⟨g, 0, none⟩ = some (.slice none 0 0) ∧ W.cell? ⟨g, 1, none⟩ = some (.slice none 0 0) ∧ W.cell? ⟨g, 2, none⟩ = some (.slice none 0 0) ∧ W.cell? ⟨g, 3, none⟩ = some (.int .i64 0)) ∧
    (W.frozen? ⟨g, 0, none⟩ = false ∧ W.frozen? ⟨g, 1, none⟩ = false ∧ W.frozen? ⟨g, 2, none⟩ = false ∧ W.frozen? ⟨g, 3, none⟩ = false) ∧
    (W.setCell ⟨g, 0, none⟩ (.slice none 0 0) = W ∧ W.setCell ⟨g, 1, none⟩ (.slice none 0 0) = W ∧ W.setCell ⟨g, 2, none⟩ (.slice none 0 0) = W ∧ W.setCell ⟨g, 3, none⟩ (.int .i64 0) = W)) := Lib.hid fun W hW => (HTG.out W hW).all4
  obtain ⟨w3, hw3⟩ : ∃ w3, w3 = w2.alloc (.cells #[.int .u64 4096, .int .u64 4] 82) := ⟨_, rfl⟩
  have HB3 : Hid (Below w2.heap.size w2 w3) := Lib.hid (by rw [hw3]; exact (Below.refl _ w2).alloc (Nat.le_refl _) _)
  have HNM := Lib.hid (r15_numbers (w := w3) (peekT s) wTrace [4096, 4] (bm := w2.heap.size) (cap := 2) (by have := peekT_len s; omega) ⟨by decide, by decide⟩ (fun j hj => by
    rw [hw3]
    have := (Blk.new w2 82 #[.int .u64 4096, .int .u64 4]).cell
    match j, hj with
    | 0, _ => exact this 0
    | 1, _ => exact this 1))
  have HW3 := Lib.hid hw3
  obtain ⟨b1, hb1⟩ : ∃ b, b = (cutT s).isSome := ⟨_, rfl⟩
  have HBO := Lib.hid hb1
  rw [← hb1]
  obtain ⟨px, hpx⟩ : ∃ px, px = bs (peekT s) := ⟨_, rfl⟩
  rw [← hpx] at HNM ⊢
  clear hw3 hb1 hpx
  cases ho : numsR wTrace [4096, 4] s with
  | none =>
    have HP1 : Hid (P = .bad 1) := Lib.hid (by rw [HPS.out, ho])
    rw [numsT_peek ho (by decide)] at HNM
    clear ho
    go_wp2_with fail
    rw [← HW3.out]
    refine HNM.out.mono ?_
    rintro e w4 ⟨rfl, hb⟩
    have hC : Chg (fun k => k = g7) w2 w4 := Chg.of_below (HB3.out.trans (hb.mono HB3.out.size))
    have HF := Lib.hid (HFB.out w4 1 1 hC HP1.out rfl)
    obtain ⟨⟨c0, c1, c2, c3⟩, ⟨f0, f1, f2, f3⟩, s0, s1, s2, s3⟩ := HZ2.out w4 hC
    clear hb hC
    cases b1
    all_goals
      go_wp2
      exact bodyPost_ret (v := .tuple #[.agg #[.slice none 0 0, .slice none 0 0, .slice none 0 0, .int .i64 0], .int .i64 1, .int .i64 2]) (by simp [results, Tryz.results25, go_sem, c0, c1, c2, c3]) rfl HF.out
  | some q =>
    obtain ⟨ns, r1⟩ := q
    obtain ⟨hnl, hrl⟩ := numsR_len ho
    have hnm := (numsR_le ho).2
    obtain ⟨hcs, hns⟩ := numsR_parts ho
    obtain ⟨a, b, rfl⟩ : ∃ a b, ns = [a, b] := by
      match ns, hnl with
      | [a, b], _ => exact ⟨a, b, rfl⟩
    have ha : a ≤ 4096 := hnm 0
    have hb4 : b ≤ 4 := hnm 1
    have HP1 : Hid (P = match boolsR wLat r1 with | some (v, r2) => if v.length = a then celF v b r2.length (List.replicate b []) 0 true r2 3 else .bad 2 | none => .bad 2) := Lib.hid (by rw [HPS.out, ho]; rfl)
    rw [hns] at HNM
    have HR1 : Hid (RelL s r1 1) := Lib.hid ((RelL.start s).next hcs).2.2
    have HRL1 := Lib.hid hrl
    obtain rfl : b1 = true := by rw [HBO.out, hcs]; rfl
    clear ho hnl hrl hnm hcs hns HPS
    go_wp2_with fail
    rw [← HW3.out]
    refine HNM.out.mono ?_
    rintro e w4 ⟨un, rfl, hun⟩
    obtain ⟨gn, capn, rfl, hgn1, hgn2, hcn⟩ := nums_cells hun (by simp)
    have HGN : Hid (gn < w4.heap.size ∧ w3.heap.size ≤ gn ∧ w4.cell? ⟨gn, 0, none⟩ = some (.int .u64 (a : Int)) ∧ w4.cell? ⟨gn, 1, none⟩ = some (.int .u64 (b : Int))) := Lib.hid ⟨hgn2, hgn1, hcn 0 (by simp), hcn 1 (by simp)⟩
    have HB4 : Hid (Below w2.heap.size w2 w4) := Lib.hid (HB3.out.trans (hun.2.1.mono HB3.out.size))
    have HL1 := Lib.hid (HLINE.out w4 r1 1 (Chg.of_below HB4.out) HR1.out)
    obtain ⟨⟨c0, c1, c2, c3⟩, ⟨f0, f1, f2, f3⟩, s0, s1, s2, s3⟩ := HZ2.out w4 (Chg.of_below HB4.out)
    have HSP := Lib.hid (r15_split (l := peekT r1) (by have := peekT_len r1; have := HRL1.out; omega) w4)
    clear hun hgn1 hgn2 hcn HNM
    go_wp2_with fail
    refine HL1.out.mono ?_
    rintro e w4' ⟨rfl, rfl⟩
    obtain ⟨b2, hb2⟩ : ∃ b, b = (cutT r1).isSome := ⟨_, rfl⟩
    have HBO2 := Lib.hid hb2
    rw [← hb2]
    obtain ⟨py, hpy⟩ : ∃ py, py = bs (peekT r1) := ⟨_, rfl⟩
    rw [← hpy] at HSP ⊢
    clear hpy hb2 c0 c1 c2 c3 f0 f1 f2 f3 s0 s1 s2 s3
    go_wp2_with fail
    refine HSP.out.mono ?_
    rintro e w5 ⟨u13, rfl, hO5⟩
    have HB5 : Hid (Below w2.heap.size w2 w5) := Lib.hid (HB4.out.trans (hO5.2.1.mono HB4.out.size))
    have HB45 := Lib.hid hO5.2.1
    have HF : Hid (P = .bad 2 → ParseV w P (.returned (.tuple #[.agg #[.slice none 0 0, .slice none 0 0, .slice none 0 0, .int .i64 0], .int .i64 2, .int .i64 2])) w5) := Lib.hid fun hp => HFB.out w5 2 2 (Chg.of_below HB5.out) hp rfl
    obtain ⟨⟨c0, c1, c2, c3⟩, ⟨f0, f1, f2, f3⟩, s0, s1, s2, s3⟩ := HZ2.out w5 (Chg.of_below HB5.out)
    obtain ⟨A13, cap13, rfl, -, -⟩ := hO5.form
    have HO5 := Lib.hid hO5
    clear hO5
    by_cases hok : (cutT r1).isSome = true ∧ (wordsT (peekT r1)).length = 2
    · obtain ⟨hs1, hs2⟩ := hok
      obtain rfl : b2 = true := by rw [HBO2.out, hs1]
      obtain ⟨x0, x1, hws⟩ : ∃ x0 x1, wordsT (peekT r1) = [x0, x1] := by
        match wordsT (peekT r1), hs2 with
        | [x0, x1], _ => exact ⟨x0, x1, rfl⟩
      obtain ⟨⟨a2, r2⟩, hcs⟩ := Option.isSome_iff_exists.1 hs1
      have hpk := peek_cut hcs
      have hbl : boolsR wLat r1 = if x0 = wLat then (match truthsP x1 with | some l => some (l, r2) | none => none) else none := by
        rw [boolsR_cut hcs]
        unfold boolsT
        rw [← hpk, hws]
        simp only
        by_cases h : x0 = wLat
        · rw [if_pos h, if_pos h]
          cases truthsP x1 <;> rfl
        · rw [if_neg h, if_neg h]
      rw [hbl] at HP1
      have HR2 : Hid (RelL s r2 2) := Lib.hid (HR1.out.next hcs).2.2
      have HRL2 : Hid (r2.length < r1.length) := Lib.hid (by have := cutT_len hcs; omega)
      have hwl : ∀ y ∈ wordsT (peekT r1), y.length ≤ 50000 := fun y hy => by have h1 := word_le (peekT r1) hy; have h2 := peekT_len r1; have h3 := HRL1.out; omega
      rw [hws] at HO5 hwl ⊢
      have hx1l := hwl x1 (by simp)
      obtain ⟨g13, cp13, hA, k0, -, -⟩ := HO5.out.cell [] (j := 0) (by simp)
      injection hA with hA1 hA2 hA3
      subst hA1 hA3
      obtain ⟨g13', cp13', hA', k1, -, -⟩ := HO5.out.cell [] (j := 1) (by simp)
      injection hA' with hA1 hA2 hA3
      injection hA1 with hA1
      injection hA1 with hA1
      subst hA1
      replace k0 : w5.cell? ⟨g13, 0, none⟩ = some (.string (bs x0)) := k0
      replace k1 : w5.cell? ⟨g13, 1, none⟩ = some (.string (bs x1)) := k1
      have HPR := Lib.hid (r15_parse (y := x1) (by omega) w5)
      clear hs1 hs2 hws hcs hpk hbl hwl
      simp only [List.length_cons, List.length_nil]
      by_cases hx0 : x0 = wLat
      · rw [if_pos hx0] at HP1
        have hxs : ((bs x0).toList == [108, 97, 116, 99, 104, 101, 115]) = true := by rw [hx0, Lib.toList_data]; rfl
        obtain ⟨o, hoo⟩ : ∃ o, o = truthsP x1 := ⟨_, rfl⟩
        rw [← hoo] at HP1 HPR
        clear hx0 hoo
        generalize bs x0 = sx0 at *
        generalize bs x1 = sx1 at *
        cases o with
        | none =>
          have HPB : Hid (P = .bad 2) := Lib.hid HP1.out
          go_wp2_with fail
          refine HPR.out.mono ?_
          rintro e w6 ⟨rfl, hb⟩
          have HF := Lib.hid (HFB.out w6 2 2 (Chg.of_below (HB5.out.trans (hb.mono HB5.out.size))) HPB.out rfl)
          clear c0 c1 c2 c3 f0 f1 f2 f3 s0 s1 s2 s3
          obtain ⟨⟨c0, c1, c2, c3⟩, ⟨f0, f1, f2, f3⟩, s0, s1, s2, s3⟩ := HZ2.out w6 (Chg.of_below (HB5.out.trans (hb.mono HB5.out.size)))
          clear hb
          go_wp2
          exact bodyPost_ret (v := .tuple #[.agg #[.slice none 0 0, .slice none 0 0, .slice none 0 0, .int .i64 0], .int .i64 2, .int .i64 2]) (by simp [results, Tryz.results25, go_sem, c0, c1, c2, c3]) rfl HF.out
        | some v =>
          go_wp2_with fail
          refine HPR.out.mono ?_
          rintro e w6 ⟨u14, rfl, hO6⟩
          have HB6 : Hid (Below w2.heap.size w2 w6) := Lib.hid (HB5.out.trans (hO6.2.1.mono HB5.out.size))
          have HB46 : Hid (Below w4.heap.size w4 w6) := Lib.hid (HB45.out.trans (hO6.2.1.mono HB45.out.size))
          obtain ⟨al, cl, rfl, hcl1, hcl2⟩ := hO6.form
          have HO6 := Lib.hid hO6
          have kn0 := cell_below HGN.out.2.2.1 HB46.out
          have kn1 := cell_below HGN.out.2.2.2 HB46.out
          have zw : IntKind.i64.wrap (a : Int) = (a : Int) := IntWalk.i64_in _ (by omega)
          clear c0 c1 c2 c3 f0 f1 f2 f3 s0 s1 s2 s3 hO6
          by_cases hva : v.length = a
          · have HP2 : Hid (P = celF v b r2.length (List.replicate b []) 0 true r2 3) := Lib.hid (by rw [HP1.out]; exact if_pos hva)
            have hx : ((v.length : Int) != (a : Int)) = false := by rw [bne_eq_false_iff_eq]; omega
            clear HP1 hva HF HPR HBO HBO2 k0 k1 hxs
            have hT7 := HT7.out.below HB6.out HT7.out.lt
            obtain ⟨⟨d0, d1, d2, d3⟩, ⟨e0, e1, e2, e3⟩, -⟩ := hT7.all4
            have hg7 := hT7.lt
            have HTS := Lib.hid hT7
            have HG76 := Lib.hid hg7
            have hmk := fun W => run_makeN (P := Tryz.prog) 25 119 (.slice none 0 0) 1 24 Tryz.underlying25 infoCL .u64 .u64 b b (Nat.le_refl _) (by omega) (by omega) W
            clear hT7
            go_wp2_with fail
            obtain ⟨wz, hwz⟩ : ∃ wz, wz = (w6.setCell ⟨g7, 0, none⟩ (.slice al v.length cl)).setCell ⟨g7, 1, none⟩ (.slice (some ⟨w6.heap.size, 0, none⟩) b b) := ⟨_, rfl⟩
            obtain ⟨w7, hw7⟩ : ∃ w7, w7 = wz.alloc (.cells (madeCells #[.slice none 0 0] b) 119) := ⟨_, rfl⟩
            rw [← hwz, ← hw7]
            have hsz : wz.heap.size = w6.heap.size := by rw [hwz]; simp
            have hCz : Chg (fun k => k = g7) w6 wz := by rw [hwz]; exact ((Chg.refl (fun k => k = g7) w6).setCell (p := ⟨g7, 0, none⟩) (.inl rfl) _).setCell (p := ⟨g7, 1, none⟩) (.inl rfl) _
            obtain ⟨bm, hbm⟩ : ∃ bm, bm = wz.heap.size := ⟨_, rfl⟩
            have HTz : Hid (Blk wz g7 30 #[.slice al v.length cl, .slice (some ⟨bm, 0, none⟩) b b, .slice none 0 0, .int .i64 0]) := Lib.hid (by rw [hwz, hbm, hsz]; exact (HTS.out.set_ 0 _).set_ 1 _)
            have HROWz : Hid (Row wz 4 1 (.slice al v.length cl) v.length (v.map Value.bool) ∧ ∀ q, (Value.slice al v.length cl).ownBlock = some q → w5.heap.size ≤ q) := Lib.hid ⟨HO6.out.1.chg hCz (fun q hq e => by have := HO6.out.2.2 q hq; have := HT7.out.lt; have := HB5.out.size; omega), HO6.out.2.2⟩
            have HKz : Hid (wz.cell? ⟨gn, 0, none⟩ = some (.int .u64 (a : Int)) ∧ wz.cell? ⟨gn, 1, none⟩ = some (.int .u64 (b : Int)) ∧ gn < wz.heap.size) := Lib.hid (by
              have h1 : gn < w6.heap.size := Nat.lt_of_lt_of_le HGN.out.1 HB46.out.size
              have h2 : gn ≠ g7 := by have := HGN.out.2.1; have := HB3.out.size; have := HT7.out.lt; omega
              exact ⟨by rw [World.cell?_of_block (w := w6) (hCz.block gn h1 h2)]; exact kn0, by rw [World.cell?_of_block (w := w6) (hCz.block gn h1 h2)]; exact kn1, by rw [hsz]; exact h1⟩)
            have HCz : Hid (Chg (fun k => k = g7) w2 wz) := Lib.hid ((Chg.of_below HB6.out).trans hCz (fun i hi => .inl hi))
            have HBM := Lib.hid hbm
            have HB7 : Hid (Below wz.heap.size wz w7) := Lib.hid (by rw [hw7]; exact (Below.refl _ _).alloc (Nat.le_refl _) _)
            have hmm := MemsM.made wz b
            rw [Nat.mul_one, ← hbm, ← hw7] at hmm
            have HMM := Lib.hid hmm
            have HL2 := Lib.hid (HLINE.out w7 r2 2 (HCz.out.trans (Chg.of_below (S := fun k => k = g7) HB7.out) (fun i hi => .inl hi)) HR2.out)
            clear hmm hbm hwz hw7 hCz hsz d0 d1 d2 d3 e0 e1 e2 e3 hg7 hmk kn0 kn1 zw hx
            refine HL2.out.mono ?_
            rintro e w7' ⟨rfl, rfl⟩
            have HI7 : Hid (CelJ wz bm P s v b 2 r2 true 0 w7) := Lib.hid ⟨_, _, HP2.out, HR2.out, by have := HRL1.out; have := HRL2.out; omega, HMM.out, by simp, fun m hm p hp => (by rw [(List.mem_replicate.1 hm).2] at hp; simp at hp), fun i => (by rw [rep_get]; have := HRL1.out; have := HRL2.out; simp; omega), HB7.out⟩
            go_upto_block 0 with (fail)
            go_cut [8, 9, 10, 15, 16] (fun a x t o _ wx => CutJ wz bm P s v b a x t o wx)
            case first =>
              exact cells_loop hl hLN9 hb4 HLN HLINE HFB HZ2 HTz HKz HCz HBM HI7 (by assumption) (by assumption)
            case rest =>
              obtain ⟨wp, hwp⟩ : ∃ wp, wp = wc := ⟨_, rfl⟩
              subst hwp
              obtain ⟨i, rest, ord, us, ms, rfl, rfl, rfl, rfl, hP, hR, hrl, hM, hml, hwf, hB⟩ := hcut
              have HMP := Lib.hid hM
              have HML := Lib.hid hml
              have HWF := Lib.hid hwf
              have HBP := Lib.hid hB
              have HTP := Lib.hid (HTz.out.below hB HTz.out.lt)
              have HCP : Hid (Chg (fun k => k = g7) w2 wp) := Lib.hid (HCz.out.trans (Chg.of_below (S := fun k => k = g7) hB) (fun i hi => .inl hi))
              have HI2 : Hid (CycJ wp g7 bm P s v (.slice al v.length cl) b ms ord i rest wp) := Lib.hid ⟨_, _, _, hP, hR, HTP.out, InsM.start wp, by simp; omega, Chg.refl _ _⟩
              have HL3 := Lib.hid (HLINE.out wp rest i HCP.out hR)
              have hgc : g7 < wp.heap.size := HTP.out.lt
              clear hP hR hM hml hwf hB
              go_wp2_with fail
              refine HL3.out.mono ?_
              rintro e wp' ⟨rfl, rfl⟩
              go_upto_block 2 with (fail)
              go_cut [8, 9, 10] (fun a x t wx => CutK wp g7 bm P s v (.slice al v.length cl) b ms ord a x t wx)
              case first =>
                exact cycs_loop hl hLN9 hb4 HLN HLINE HFB HZ2 HCP hgc HI2 (by assumption) (by assumption)
              case rest =>
                clear hrl HI2 HL3
                go_step
                exact parse_tail (by kernel_rfl) hl hLN9 hb4 HLN HLINE HFB HZ2 HTG HBW HG HGW HT7 HB5 HROWz HTz HBM HMP HML HWF HBP HTP HCP hgc hcut
          · have HPB : Hid (P = .bad 2) := Lib.hid (by rw [HP1.out]; exact if_neg hva)
            have hx : ((v.length : Int) != (a : Int)) = true := by rw [bne_iff_ne]; omega
            have HF := Lib.hid (HFB.out w6 2 2 (Chg.of_below HB6.out) HPB.out rfl)
            obtain ⟨⟨c0, c1, c2, c3⟩, ⟨f0, f1, f2, f3⟩, s0, s1, s2, s3⟩ := HZ2.out w6 (Chg.of_below HB6.out)
            clear hva
            go_wp2
            exact bodyPost_ret (v := .tuple #[.agg #[.slice none 0 0, .slice none 0 0, .slice none 0 0, .int .i64 0], .int .i64 2, .int .i64 2]) (by simp [results, Tryz.results25, go_sem, c0, c1, c2, c3]) rfl HF.out
      · rw [if_neg hx0] at HP1
        replace HF := Lib.hid (HF.out HP1.out)
        have hxs : ((bs x0).toList == [108, 97, 116, 99, 104, 101, 115]) = false := by rw [Lib.toList_data, bs_list, beq_eq_false_iff_ne]; exact hx0
        clear hx0
        generalize bs x0 = sx0 at *
        go_wp2
        exact bodyPost_ret (v := .tuple #[.agg #[.slice none 0 0, .slice none 0 0, .slice none 0 0, .int .i64 0], .int .i64 2, .int .i64 2]) (by simp [results, Tryz.results25, go_sem, c0, c1, c2, c3]) rfl HF.out
    · have HPB : Hid (P = .bad 2) := Lib.hid (by
        rw [HP1.out]
        have : boolsR wLat r1 = none := by
          cases hcs : cutT r1 with
          | none => exact boolsR_none hcs
          | some q =>
            obtain ⟨a2, r2⟩ := q
            rw [boolsR_cut hcs]
            have hpk := peek_cut hcs
            have : boolsT wLat a2 = none := by
              unfold boolsT
              rw [← hpk]
              split
              · rename_i x y hh
                exact absurd ⟨by rw [hcs]; rfl, by rw [hh]; rfl⟩ hok
              · rfl
            rw [this]
        rw [this])
      replace HF := Lib.hid (HF.out HPB.out)
      obtain ⟨nw, hnw⟩ : ∃ n, n = (wordsT (peekT r1)).length := ⟨_, rfl⟩
      have hor : b2 = false ∨ ((nw : Int) != 2) = true := by
        cases hb : b2 with
        | false => exact .inl rfl
        | true =>
          refine .inr ?_
          rw [bne_iff_ne]
          intro e
          exact hok ⟨by rw [← HBO2.out, hb], by omega⟩
      rw [← hnw]
      clear hnw hok HO5
      rcases hor with rfl | hn2
      · go_wp2
        exact bodyPost_ret (v := .tuple #[.agg #[.slice none 0 0, .slice none 0 0, .slice none 0 0, .int .i64 0], .int .i64 2, .int .i64 2]) (by simp [results, Tryz.results25, go_sem, c0, c1, c2, c3]) rfl HF.out
      · cases b2
        all_goals
          go_wp2
          exact bodyPost_ret (v := .tuple #[.agg #[.slice none 0 0, .slice none 0 0, .slice none 0 0, .int .i64 0], .int .i64 2, .int .i64 2]) (by simp [results, Tryz.results25, go_sem, c0, c1, c2, c3]) rfl HF.out
theorem r15_Parse {w : World} {s : List UInt8} (hl : s.length ≤ 50000) :
    Calls Tryz.prog 25 #[.string (bs s)] w (ParseQ w (parseT s)) := by
  refine (r15_ParseV hl).mono ?_
  rintro e w' ⟨hb, vl, vm, vi, he, hT⟩
  exact ⟨hb, vl, vm, vi, he, hT w' (Chg.refl _ _)⟩
end Go.Proofs.YtamgbfkpblpfiaaGreatDoor
