/-
  The document's Parse of a witness: its end.
-/
import Derived.Test.YtibinmabdidecaaGreatDoorTpXb
import Derived.Deep.CutBlock
import Derived.Deep.DeepCutAuto
namespace Go.Proofs.YtibinmabdidecaaGreatDoor
open Go.ChangeShapes Go.WideShapes Go.ChangeAt Go.RowKit
set_option linter.unusedVariables false
set_option linter.unusedSimpArgs false
/-- The first region of a statement. -/
def fstR : Code → Option Nat
  | .region n _ _ => some n
  | .seq a _ => fstR a
  | _ => none
/-- What stands from a region on. -/
def findFrom (n : Nat) : Code → Option Code
  | .seq a b => if fstR a = some n then some (.seq a b) else match findFrom n a with
    | some c => some c
    | none => findFrom n b
  | .block _ c => findFrom n c
  | .loop c => findFrom n c
  | .scope c => findFrom n c
  | .cond _ a b => match findFrom n a with
    | some c => some c
    | none => findFrom n b
  | _ => none
noncomputable def fromOf (f : Func) (n : Nat) : Code := (f.body.bind (findFrom n)).getD .skip
set_option maxHeartbeats 8000000 in
set_option maxRecDepth 100000 in
/-- The last line, and whether the witness is right. -/
theorem parse_tail {c : Code} (hc : c = fromOf Tryz.f7 38) {w w2 w5 wz wp wc : World} {g g7 bm b LN cap5 cl : Nat} {A5 al : Option Addr} {LB ord : Bool} {P : PRes} {s : List UInt8} {v : List Bool} {us : List Value} {ms : List CS} {u8 u9 u10 : Value} {y0 y1 y3 y4 y11 y12 y13 y14 y16 y17 y18 y19 y20 y21 y22 y23 y24 y25 y26 y27 y28 y29 y30 y31 y32 y33 y34 y35 y36 y37 y38 y39 y40 y41 y42 y43 y44 y45 y46 y47 y48 y49 y50 y51 y52 y53 y54 y55 y56 y57 y58 y59 y60 y61 y62 y63 y64 y65 y66 y67 y68 y69 y70 y71 y72 y73 y74 y75 y76 y77 y78 y79 y80 y81 y82 y83 y84 y85 y86 y87 y88 y89 y90 y91 y92 y93 y94 y95 y96 y97 y98 y99 y100 y101 y102 y103 y104 y105 y106 y107 y108 y109 y110 y111 y112 y113 y114 y115 y116 y117 y118 y119 y120 y121 y122 y123 y124 y125 y126 y127 y128 y129 y130 y131 y132 y133 y134 y135 y136 y137 y138 y139 y140 y141 y142 y143 y144 y145 y146 y147 y148 y149 y150 y151 y152 y153 y154 y155 y156 y157 y158 y159 y160 y161 y162 y163 y164 y165 y166 y167 y168 y169 y170 y171 y172 y173 y174 y175 y176 y177 y178 y179 y180 y181 y182 y183 y184 y185 y186 y187 y188 y189 y190 y191 y192 y193 y194 y195 y196 y197 y198 y199 y200 y201 y202 y203 y204 y205 y206 y207 y208 y209 y210 y211 y212 y213 y214 y215 y216 y217 y218 y219 y220 y221 y222 y223 y224 y225 y226 y227 y228 y229 y230 y231 y232 y233 y234 y235 y236 y237 y238 y239 y240 y241 y242 y243 y244 y245 y246 y247 y248 y249 y250 y251 y252 y253 y254 y255 y256 y257 y258 y259 y260 y261 y262 y263 y264 : Value}
    (hl : s.length ≤ 50000) (hLN9 : LN ≤ 50001) (hb4 : b ≤ 4) (HLN : Hid (LN = (linesT s).1.length))
    (HLINE : Hid (∀ (W : World) (rest : List UInt8) (i : Nat), Chg (fun k => k = g7) w2 W → RelL s rest i → Calls Tryz.prog 17 #[.slice A5 LN cap5, .bool LB, .int .i64 (i : Nat)] W fun e w' => e = .returned (.tuple #[.string (bs (peekT rest)), .bool (cutT rest).isSome]) ∧ W = w'))
    (HFB : Hid (∀ (W : World) (n : Nat) (z : Int), Chg (fun k => k = g7) w2 W → P = .bad n → z = ((n : Nat) : Int) → ParseQ w P (.returned (.tuple #[.agg #[.slice none 0 0, .slice none 0 0, .slice none 0 0, .int .i64 0], .int .i64 z, .int .i64 2])) W))
    (HZ2 : Hid (∀ W : World, Chg (fun k => k = g7) w2 W → (W.cell? ⟨g, 0, none⟩ = some (.slice none 0 0) ∧ W.cell? ⟨g, 1, none⟩ = some (.slice none 0 0) ∧ W.cell? ⟨g, 2, none⟩ = some (.slice none 0 0) ∧ W.cell? ⟨g, 3, none⟩ = some (.int .i64 0)) ∧ (W.frozen? ⟨g, 0, none⟩ = false ∧ W.frozen? ⟨g, 1, none⟩ = false ∧ W.frozen? ⟨g, 2, none⟩ = false ∧ W.frozen? ⟨g, 3, none⟩ = false) ∧ (W.setCell ⟨g, 0, none⟩ (.slice none 0 0) = W ∧ W.setCell ⟨g, 1, none⟩ (.slice none 0 0) = W ∧ W.setCell ⟨g, 2, none⟩ (.slice none 0 0) = W ∧ W.setCell ⟨g, 3, none⟩ (.int .i64 0) = W)))
    (HTG : Hid (∀ W : World, Chg (fun k => k = g7) w2 W → Blk W g 29 #[.slice none 0 0, .slice none 0 0, .slice none 0 0, .int .i64 0]))
    (HBW : Hid (∀ W : World, Chg (fun k => k = g7) w2 W → Below w.heap.size w W)) (HG : Hid (g = w.heap.size)) (HGW : Hid (g < g7))
    (HT7 : Hid (Blk w2 g7 29 #[.slice none 0 0, .slice none 0 0, .slice none 0 0, .int .i64 0])) (HB5 : Hid (Below w2.heap.size w2 w5))
    (HROWz : Hid (Row wz 4 1 (.slice al v.length cl) v.length (v.map Value.bool) ∧ ∀ q, (Value.slice al v.length cl).ownBlock = some q → w5.heap.size ≤ q))
    (HTz : Hid (Blk wz g7 29 #[.slice al v.length cl, .slice (some ⟨bm, 0, none⟩) b b, .slice none 0 0, .int .i64 0]))
    (HBM : Hid (bm = wz.heap.size)) (HMP : Hid (MemsM wz wp bm us ms)) (HML : Hid (ms.length = b)) (HWF : Hid (∀ m ∈ ms, ∀ p ∈ m, wf p.1 ∧ wf p.2))
    (HBP : Hid (Below wz.heap.size wz wp)) (HTP : Hid (Blk wp g7 29 #[.slice al v.length cl, .slice (some ⟨bm, 0, none⟩) b b, .slice none 0 0, .int .i64 0]))
    (HCP : Hid (Chg (fun k => k = g7) w2 wp)) (hgc : g7 < wp.heap.size)
    (hcut : CutK wp g7 bm P s v (.slice al v.length cl) b ms ord u8 u9 u10 wc) :
    c.wp Tryz.prog (bodyPost Tryz.prog Tryz.f7 (ParseQ w P)) ⟨#[y0, y1, .pointer (some ⟨g, 0, none⟩), y3, y4, .slice A5 LN cap5, .bool LB, .pointer (some ⟨g7, 0, none⟩), u8, u9, u10, y11, y12, y13, y14, .bool ord, y16, y17, y18, y19, y20, y21, y22, y23, y24, y25, y26, y27, y28, y29, y30, y31, y32, y33, y34, y35, y36, y37, y38, y39, y40, y41, y42, y43, y44, y45, y46, y47, y48, y49, y50, y51, y52, y53, y54, y55, y56, y57, y58, y59, y60, y61, y62, y63, y64, y65, y66, y67, y68, y69, y70, y71, y72, y73, y74, y75, y76, y77, y78, y79, y80, y81, y82, y83, y84, y85, y86, y87, y88, y89, y90, y91, y92, y93, y94, y95, y96, y97, y98, y99, y100, y101, y102, y103, y104, y105, y106, y107, y108, y109, y110, y111, y112, y113, y114, y115, y116, y117, y118, y119, y120, y121, y122, y123, y124, y125, y126, y127, y128, y129, y130, y131, y132, y133, y134, y135, y136, y137, y138, y139, y140, y141, y142, y143, y144, y145, y146, y147, y148, y149, y150, y151, y152, y153, y154, y155, y156, y157, y158, y159, y160, y161, y162, y163, y164, y165, y166, y167, y168, y169, y170, y171, y172, y173, y174, y175, y176, y177, y178, y179, y180, y181, y182, y183, y184, y185, y186, y187, y188, y189, y190, y191, y192, y193, y194, y195, y196, y197, y198, y199, y200, y201, y202, y203, y204, y205, y206, y207, y208, y209, y210, y211, y212, y213, y214, y215, y216, y217, y218, y219, y220, y221, y222, y223, y224, y225, y226, y227, y228, y229, y230, y231, y232, y233, y234, y235, y236, y237, y238, y239, y240, y241, y242, y243, y244, y245, y246, y247, y248, y249, y250, y251, y252, y253, y254, y255, y256, y257, y258, y259, y260, y261, y262, y263, y264], []⟩ wc := by
  subst hc
  conv => arg 2; whnf
  obtain ⟨j, rest2, vi, us2, ls, rfl, rfl, rfl, hP, hR, hrl, hT, hI, hC⟩ := hcut
  have HRR := Lib.hid hR
  have HTR := Lib.hid hT
  have HIR := Lib.hid hI
  have HCR := Lib.hid hC
  have HCW : Hid (Chg (fun k => k = g7) w2 wc) := Lib.hid (HCP.out.trans hC (fun i hi => .inl hi))
  have HPF := Lib.hid (hP.trans (finT_step v ms ord ls rest2 (j + 1)))
  have HL4 := Lib.hid (HLINE.out wc rest2 j HCW.out hR)
  have hj9 : j ≤ 50000 := by have := hR.le; omega
  obtain ⟨avi, cvi, hvi, hv1, hv2⟩ := hI.form
  obtain ⟨wn, hwn⟩ : ∃ wn, wn = wc.alloc (.cells #[.int .u64 1000] 57) := ⟨_, rfl⟩
  have HBN : Hid (Below wc.heap.size wc wn) := Lib.hid (by rw [hwn]; exact (Below.refl _ wc).alloc (Nat.le_refl _) _)
  have HNN := Lib.hid (r15_numbers (w := wn) (peekT rest2) wBad [1000] (bm := wc.heap.size) (cap := 1) (by have := peekT_len rest2; omega) ⟨by decide, by decide⟩ (fun j hj => by
    rw [hwn]
    have := (Blk.new wc 57 #[.int .u64 1000]).cell
    match j, hj with
    | 0, _ => exact this 0))
  have HWN := Lib.hid hwn
  obtain ⟨b9, h9⟩ : ∃ b, b = (cutT rest2).isSome := ⟨_, rfl⟩
  have HB9 := Lib.hid h9
  have hlr2 : rest2.length ≤ 60000 := hrl
  rw [← h9] at HL4 ⊢
  obtain ⟨px2, hpx2⟩ : ∃ px, px = bs (peekT rest2) := ⟨_, rfl⟩
  rw [← hpx2] at HL4 HNN ⊢
  have zj : IntKind.i64.wrap ((j : Int) + 1) = (j : Int) + 1 := IntWalk.i64_in _ (by omega)
  clear hP hR hT hI hC hwn h9 hpx2 hrl
  cases ho : numsR wBad [1000] rest2 with
  | none =>
    have HPB : Hid (P = .bad (j + 1)) := Lib.hid (by rw [HPF.out, ho])
    rw [numsT_peek ho (by decide)] at HNN
    clear ho hvi
    go_wp2_with fail
    refine HL4.out.mono ?_
    rintro e wc' ⟨rfl, rfl⟩
    go_wp2_with fail
    rw [← HWN.out]
    refine HNN.out.mono ?_
    rintro e w9 ⟨rfl, hb⟩
    have hC9 : Chg (fun k => k = g7) w2 w9 := HCW.out.trans (Chg.of_below (S := fun k => k = g7) (HBN.out.trans (hb.mono HBN.out.size))) (fun i hi => .inl hi)
    have HF := Lib.hid (HFB.out w9 (j + 1) ((j : Int) + 1) hC9 HPB.out rfl)
    obtain ⟨⟨c0, c1, c2, c3⟩, ⟨f0, f1, f2, f3⟩, s0, s1, s2, s3⟩ := HZ2.out w9 hC9
    clear hC9 hb
    cases b9
    all_goals
      go_upto_region 41 with (fail)
      repeat go_step
      try simp only [Exit.inBlock, Exit.then]
      exact bodyPost_ret (v := .tuple #[.agg #[.slice none 0 0, .slice none 0 0, .slice none 0 0, .int .i64 0], .int .i64 ((j : Int) + 1), .int .i64 2]) (by simp [results, Tryz.results7, go_sem, c0, c1, c2, c3]) rfl HF.out
  | some q =>
    obtain ⟨ns, r'⟩ := q
    obtain ⟨hnl, hrl⟩ := numsR_len ho
    have hnm := numsR_le ho
    obtain ⟨hcs, hns⟩ := numsR_parts ho
    obtain ⟨k, rfl⟩ : ∃ k, ns = [k] := by
      match ns, hnl with
      | [k], _ => exact ⟨k, rfl⟩
    have hk : k ≤ 1000 := hnm.2 0
    rw [hns] at HNN
    have HPX : Hid (P = if r' = [] then (if ord && rightT ⟨v, ms, ls, (k : Int)⟩ then .ok ⟨v, ms, ls, (k : Int)⟩ else .ill) else .bad (j + 1 + 1)) := Lib.hid (by rw [HPF.out, ho]; rfl)
    have hend := ((HRR.out.next hcs).2.2).end_
    rw [← HLN.out] at hend
    obtain rfl : b9 = true := by rw [HB9.out, hcs]; rfl
    clear ho hnl hnm hrl hcs hns HPF
    go_wp2_with fail
    refine HL4.out.mono ?_
    rintro e wc' ⟨rfl, rfl⟩
    go_wp2_with fail
    rw [← HWN.out]
    refine HNN.out.mono ?_
    rintro e w9 ⟨ub, rfl, hub⟩
    obtain ⟨gb, capb, rfl, -, hgb2, hcb⟩ := nums_cells hub (by simp)
    have q0 : w9.cell? ⟨gb, 0, none⟩ = some (.int .u64 (k : Int)) := hcb 0 (by simp)
    have HB9w : Hid (Below wc.heap.size wc w9) := Lib.hid (HBN.out.trans (hub.2.1.mono HBN.out.size))
    have HC9 : Hid (Chg (fun k => k = g7) w2 w9) := Lib.hid (HCW.out.trans (Chg.of_below (S := fun k => k = g7) HB9w.out) (fun i hi => .inl hi))
    clear hub hcb HNN HWN HL4
    by_cases hr0 : r' = []
    · have HPY : Hid (P = if ord && rightT ⟨v, ms, ls, (k : Int)⟩ then .ok ⟨v, ms, ls, (k : Int)⟩ else .ill) := Lib.hid (by rw [HPX.out, if_pos hr0])
      have hlt : ¬ (j : Int) + 1 < (LN : Int) := fun h => (hend.1 (by omega)) hr0
      have zk : IntKind.i64.wrap (k : Int) = (k : Int) := IntWalk.i64_in _ (by omega)
      have HT9 := Lib.hid (HTR.out.below HB9w.out HTR.out.lt)
      obtain ⟨w10, hw10⟩ : ∃ w10, w10 = w9.setCell ⟨g7, 3, none⟩ (.int .i64 (k : Int)) := ⟨_, rfl⟩
      have hT10 : Blk w10 g7 29 #[.slice al v.length cl, .slice (some ⟨bm, 0, none⟩) b b, vi, .int .i64 (k : Int)] := by rw [hw10]; exact HT9.out.set_ 3 _
      have hc10 : Chg (fun k => k = g7) w9 w10 := by rw [hw10]; exact (Chg.refl (fun k => k = g7) w9).setCell (p := ⟨g7, 3, none⟩) (.inl rfl) _
      have HC10 : Hid (Chg (fun k => k = g7) w2 w10) := Lib.hid (HC9.out.trans hc10 (fun i hi => .inl hi))
      have hcp10 : Chg (fun k => k = g7) wp w10 := (HCR.out.trans (Chg.of_below (S := fun k => k = g7) HB9w.out) (fun i hi => .inl hi)).trans hc10 (fun i hi => .inl hi)
      have hI10 : InsM wp w10 vi us2 ls := (HIR.out.chg (S := fun _ => False) (Chg.of_below HB9w.out) (fun k hk => hk.elim)).chg hc10 (fun k hk => by have := HTP.out.lt; omega)
      have hM10 : MemsM wz w10 bm us ms := HMP.out.chg2 hcp10 (fun k hk => by have := HBM.out; have := HTz.out.lt; omega)
      have hV10 : Row w10 4 1 (.slice al v.length cl) v.length (v.map Value.bool) := by
        have h1 := HROWz.out.1.chg (S := fun _ => False) (Chg.of_below HBP.out) (fun _ _ h => h)
        exact h1.chg hcp10 (fun q hq e => by have h2 := HROWz.out.2 q hq; have h3 := HT7.out.lt; have h4 := HB5.out.size; omega)
      have hbl : ms.length ≤ maxLen := by have := HML.out; unfold maxLen; omega
      have HTW : Hid (∀ W, Chg (fun k => k = g) w10 W → TrP W ⟨v, ms, ls, (k : Int)⟩ (.slice al v.length cl) (.slice (some ⟨bm, 0, none⟩) b b) vi) := Lib.hid fun W hW => ⟨row_bo (hV10.chg hW (fun q hq e => by have h2 := HROWz.out.2 q hq; have h3 := HT7.out.lt; have h4 := HB5.out.size; have h5 := HGW.out; omega)), by have := (hM10.chg2 hW (fun k hk => by have h1 := HBM.out; have h2 := HTz.out.lt; have h5 := HGW.out; omega)).ces HWF.out hbl; rw [HML.out] at this; exact this, (hI10.chg hW (fun k hk => by have h5 := HGW.out; omega)).bos⟩
      have HRT := Lib.hid (r15_Right (HTW.out w10 (Chg.refl _ _)))
      unfold trV at HRT
      simp only at HRT
      obtain ⟨⟨c0, c1, c2, c3⟩, ⟨f0, f1, f2, f3⟩, -⟩ := HT9.out.all4
      obtain ⟨⟨p0, p1, p2, p3⟩, -, -⟩ := hT10.all4
      have HT10 := Lib.hid hT10
      have hw10' := hw10.symm
      have hg9 := HT9.out.lt
      have hlj : ¬ (j : Int) + 1 < (LN : Int) := hlt
      clear hw10 hT10 hc10 hcp10 hI10 hM10 hV10 hbl hr0 hend hlt
      subst hvi
      cases ord with
      | false =>
        have HPI : Hid (P = .ill) := Lib.hid (by rw [HPY.out]; rfl)
        have HF : Hid (ParseQ w P (.returned (.tuple #[.agg #[.slice none 0 0, .slice none 0 0, .slice none 0 0, .int .i64 0], .int .i64 0, .int .i64 14])) w10) := Lib.hid ⟨HBW.out _ HC10.out, .slice none 0 0, .slice none 0 0, .slice none 0 0, by rw [HPI.out]; rfl, by rw [HPI.out]; exact TrP.nil _ _⟩
        obtain ⟨⟨d0, d1, d2, d3⟩, ⟨e0, e1, e2, e3⟩, s0, s1, s2, s3⟩ := HZ2.out w10 HC10.out
        go_upto_region 47 with (fail)
        repeat go_step
        try simp only [Exit.inBlock, Exit.then]
        exact bodyPost_ret (v := .tuple #[.agg #[.slice none 0 0, .slice none 0 0, .slice none 0 0, .int .i64 0], .int .i64 0, .int .i64 14]) (by simp [results, Tryz.results7, go_sem, d0, d1, d2, d3]) rfl HF.out
      | true =>
        cases hrt : rightT ⟨v, ms, ls, (k : Int)⟩ with
        | false =>
          have HPI : Hid (P = .ill) := Lib.hid (by rw [HPY.out, hrt]; rfl)
          rw [hrt] at HRT
          clear hrt
          go_wp2_with fail
          refine HRT.out.mono ?_
          rintro e w11 ⟨rfl, hb⟩
          have hC11 : Chg (fun k => k = g7) w2 w11 := HC10.out.trans (Chg.of_below (S := fun k => k = g7) hb) (fun i hi => .inl hi)
          have HF : Hid (ParseQ w P (.returned (.tuple #[.agg #[.slice none 0 0, .slice none 0 0, .slice none 0 0, .int .i64 0], .int .i64 0, .int .i64 14])) w11) := Lib.hid ⟨HBW.out _ hC11, .slice none 0 0, .slice none 0 0, .slice none 0 0, by rw [HPI.out]; rfl, by rw [HPI.out]; exact TrP.nil _ _⟩
          obtain ⟨⟨d0, d1, d2, d3⟩, ⟨e0, e1, e2, e3⟩, s0, s1, s2, s3⟩ := HZ2.out w11 hC11
          clear hC11 hb
          go_upto_region 47 with (fail)
          repeat go_step
          try simp only [Exit.inBlock, Exit.then]
          exact bodyPost_ret (v := .tuple #[.agg #[.slice none 0 0, .slice none 0 0, .slice none 0 0, .int .i64 0], .int .i64 0, .int .i64 14]) (by simp [results, Tryz.results7, go_sem, d0, d1, d2, d3]) rfl HF.out
        | true =>
          have HPI : Hid (P = .ok ⟨v, ms, ls, (k : Int)⟩) := Lib.hid (by rw [HPY.out, hrt]; rfl)
          rw [hrt] at HRT
          clear hrt
          go_wp2_with fail
          refine HRT.out.mono ?_
          rintro e w11 ⟨rfl, hb⟩
          have hC11 : Chg (fun k => k = g7) w2 w11 := HC10.out.trans (Chg.of_below (S := fun k => k = g7) hb) (fun i hi => .inl hi)
          have hTG := HTG.out w11 hC11
          have hT12 : Blk ((((w11.setCell ⟨g, 0, none⟩ (.slice al v.length cl)).setCell ⟨g, 1, none⟩ (.slice (some ⟨bm, 0, none⟩) b b)).setCell ⟨g, 2, none⟩ (.slice avi ls.length cvi)).setCell ⟨g, 3, none⟩ (.int .i64 (k : Int))) g 29 #[.slice al v.length cl, .slice (some ⟨bm, 0, none⟩) b b, .slice avi ls.length cvi, .int .i64 (k : Int)] := (((hTG.set_ 0 _).set_ 1 _).set_ 2 _).set_ 3 _
          have hc12 : Chg (fun k => k = g) w11 ((((w11.setCell ⟨g, 0, none⟩ (.slice al v.length cl)).setCell ⟨g, 1, none⟩ (.slice (some ⟨bm, 0, none⟩) b b)).setCell ⟨g, 2, none⟩ (.slice avi ls.length cvi)).setCell ⟨g, 3, none⟩ (.int .i64 (k : Int))) := ((((Chg.refl (fun k => k = g) w11).setCell (p := ⟨g, 0, none⟩) (.inl rfl) _).setCell (p := ⟨g, 1, none⟩) (.inl rfl) _).setCell (p := ⟨g, 2, none⟩) (.inl rfl) _).setCell (p := ⟨g, 3, none⟩) (.inl rfl) _
          have hTP := HTW.out _ ((Chg.of_below (S := fun k => k = g) hb).trans hc12 (fun i hi => .inl hi))
          have hBF := (HBW.out _ hC11).trans (hc12.below (HBW.out _ hC11).size (fun i hi => by rw [hi, HG.out]; exact Nat.le_refl _))
          have HF : Hid (ParseQ w P (.returned (.tuple #[.agg #[.slice al v.length cl, .slice (some ⟨bm, 0, none⟩) b b, .slice avi ls.length cvi, .int .i64 (k : Int)], .int .i64 0, .int .i64 0])) ((((w11.setCell ⟨g, 0, none⟩ (.slice al v.length cl)).setCell ⟨g, 1, none⟩ (.slice (some ⟨bm, 0, none⟩) b b)).setCell ⟨g, 2, none⟩ (.slice avi ls.length cvi)).setCell ⟨g, 3, none⟩ (.int .i64 (k : Int)))) := Lib.hid ⟨hBF, _, _, _, by rw [HPI.out]; rfl, by rw [HPI.out]; exact hTP⟩
          obtain ⟨⟨d0, d1, d2, d3⟩, ⟨e0, e1, e2, e3⟩, -⟩ := hTG.all4
          obtain ⟨⟨t0, t1, t2, t3⟩, -, -⟩ := hT12.all4
          clear p0 p1 p2 p3
          obtain ⟨⟨p0, p1, p2, p3⟩, -, -⟩ := (HT10.out.below hb HT10.out.lt).all4
          clear hC11 hb hTG hT12 hc12 hTP hBF
          go_upto_region 48 with (fail)
          repeat go_step
          try simp only [Exit.inBlock, Exit.then]
          exact bodyPost_ret (v := .tuple #[.agg #[.slice al v.length cl, .slice (some ⟨bm, 0, none⟩) b b, .slice avi ls.length cvi, .int .i64 (k : Int)], .int .i64 0, .int .i64 0]) (by simp [results, Tryz.results7, go_sem, t0, t1, t2, t3]) rfl HF.out
    · have HPB : Hid (P = .bad (j + 1 + 1)) := Lib.hid (by rw [HPX.out, if_neg hr0])
      have hlt : (j : Int) + 1 < (LN : Int) := by have := hend.2 hr0; omega
      have zj2 : IntKind.i64.wrap ((j : Int) + 1 + 1) = (j : Int) + 1 + 1 := IntWalk.i64_in _ (by omega)
      have HF := Lib.hid (HFB.out w9 (j + 1 + 1) ((j : Int) + 1 + 1) HC9.out HPB.out rfl)
      obtain ⟨⟨c0, c1, c2, c3⟩, ⟨f0, f1, f2, f3⟩, s0, s1, s2, s3⟩ := HZ2.out w9 HC9.out
      clear hr0 hend hvi
      go_upto_region 44 with (fail)
      repeat go_step
      try simp only [Exit.inBlock, Exit.then]
      exact bodyPost_ret (v := .tuple #[.agg #[.slice none 0 0, .slice none 0 0, .slice none 0 0, .int .i64 0], .int .i64 ((j : Int) + 1 + 1), .int .i64 2]) (by simp [results, Tryz.results7, go_sem, c0, c1, c2, c3]) rfl HF.out
end Go.Proofs.YtibinmabdidecaaGreatDoor
