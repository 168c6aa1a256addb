/-
  The document's Parse of a witness: the cycles' lines.
-/
import Derived.Test.YtibinmabdidecaaGreatDoorTpXa
import Derived.Deep.CutBlock
import Derived.Deep.DeepCutAuto
namespace Go.Proofs.YtibinmabdidecaaGreatDoor
open Go.ChangeShapes Go.WideShapes Go.ChangeAt Go.RowKit
set_option linter.unusedVariables false
set_option linter.unusedSimpArgs false
set_option maxHeartbeats 8000000 in
set_option maxRecDepth 100000 in
/-- The cycles' lines. -/
theorem cycs_loop {w w2 wp : World} {g g7 bm b i LN cap5 cl : Nat} {A5 al : Option Addr} {LB ord : Bool} {P : PRes} {s rest : List UInt8} {v : List Bool} {ms : List CS} {J K : Act → World → Prop} {y0 y1 y3 y4 y11 y12 y13 y14 y15 y16 y17 y18 y19 y20 y21 y22 y23 y24 y25 y26 y27 y28 y29 y30 y31 y32 y33 y34 y35 y36 y37 y38 y39 y40 y41 y42 y43 y44 y45 y46 y47 y48 y49 y50 y51 y52 y53 y54 y55 y56 y57 y58 y59 y60 y61 y62 y63 y64 y65 y66 y67 y68 y69 y70 y71 y72 y73 y74 y75 y76 y77 y78 y79 y80 y81 y82 y83 y84 y85 y86 y87 y88 y89 y90 y91 y92 y93 y94 y95 y96 y97 y98 y99 y100 y101 y102 y103 y104 y105 y106 y107 y108 y109 y110 y111 y112 y113 y114 y115 y116 y117 y118 y119 y120 y121 y122 y123 y124 y125 y126 y127 y128 y129 y130 y131 y132 y133 y134 y135 y136 y137 y138 y139 y140 y141 y142 y143 y144 y145 y146 y147 y148 y149 y150 y151 y152 y153 y154 y155 y156 y157 y158 y159 y160 y161 y162 y163 y164 y165 y166 y167 y168 y169 y170 y171 y172 y173 y174 y175 y176 y177 y178 y179 y180 y181 y182 y183 y184 y185 y186 y187 y188 y189 y190 y191 y192 y193 y194 y195 y196 y197 y198 y199 y200 y201 y202 y203 y204 y205 y206 y207 y208 y209 y210 y211 y212 y213 y214 y215 y216 y217 y218 y219 y220 y221 y222 y223 y224 y225 y226 y227 y228 y229 y230 y231 y232 y233 y234 y235 y236 y237 y238 y239 y240 y241 y242 y243 y244 y245 y246 y247 y248 y249 y250 y251 y252 y253 y254 y255 y256 y257 y258 y259 y260 y261 y262 y263 y264 : Value}
    (hl : s.length ≤ 50000) (hLN9 : LN ≤ 50001) (hb4 : b ≤ 4) (HLN : Hid (LN = (linesT s).1.length))
    (HLINE : Hid (∀ (W : World) (rest : List UInt8) (i : Nat), Chg (fun k => k = g7) w2 W → RelL s rest i → Calls Tryz.prog 17 #[.slice A5 LN cap5, .bool LB, .int .i64 (i : Nat)] W fun e w' => e = .returned (.tuple #[.string (bs (peekT rest)), .bool (cutT rest).isSome]) ∧ W = w'))
    (HFB : Hid (∀ (W : World) (n : Nat) (z : Int), Chg (fun k => k = g7) w2 W → P = .bad n → z = ((n : Nat) : Int) → ParseQ w P (.returned (.tuple #[.agg #[.slice none 0 0, .slice none 0 0, .slice none 0 0, .int .i64 0], .int .i64 z, .int .i64 2])) W))
    (HZ2 : Hid (∀ W : World, Chg (fun k => k = g7) w2 W → (W.cell? ⟨g, 0, none⟩ = some (.slice none 0 0) ∧ W.cell? ⟨g, 1, none⟩ = some (.slice none 0 0) ∧ W.cell? ⟨g, 2, none⟩ = some (.slice none 0 0) ∧ W.cell? ⟨g, 3, none⟩ = some (.int .i64 0)) ∧ (W.frozen? ⟨g, 0, none⟩ = false ∧ W.frozen? ⟨g, 1, none⟩ = false ∧ W.frozen? ⟨g, 2, none⟩ = false ∧ W.frozen? ⟨g, 3, none⟩ = false) ∧ (W.setCell ⟨g, 0, none⟩ (.slice none 0 0) = W ∧ W.setCell ⟨g, 1, none⟩ (.slice none 0 0) = W ∧ W.setCell ⟨g, 2, none⟩ (.slice none 0 0) = W ∧ W.setCell ⟨g, 3, none⟩ (.int .i64 0) = W)))
    (HCP : Hid (Chg (fun k => k = g7) w2 wp)) (hgc : g7 < wp.heap.size) (HI2 : Hid (CycJ wp g7 bm P s v (.slice al v.length cl) b ms ord i rest wp))
    (hJ : ∀ (a' : Act) (w' : World), (∃ u3 u4 u8 u9 u10 u19 u20 u189 u190 u191 u192 u193 u194 u195 u196 u197 u198 u199 u200 u201 u202 u203 u204 u205 u206 u207 u208 u209 u210 u211 u212 u213 u214 u215 u216 u217 u218 u219 : Value, CutK wp g7 bm P s v (.slice al v.length cl) b ms ord u8 u9 u10 w' ∧ a' = ⟨#[y0, y1, .pointer (some ⟨g, 0, none⟩), u3, u4, .slice A5 LN cap5, .bool LB, .pointer (some ⟨g7, 0, none⟩), u8, u9, u10, y11, y12, y13, y14, y15, y16, y17, y18, u19, u20, y21, y22, y23, y24, y25, y26, y27, y28, y29, y30, y31, y32, y33, y34, y35, y36, y37, y38, y39, y40, y41, y42, y43, y44, y45, y46, y47, y48, y49, y50, y51, y52, y53, y54, y55, y56, y57, y58, y59, y60, y61, y62, y63, y64, y65, y66, y67, y68, y69, y70, y71, y72, y73, y74, y75, y76, y77, y78, y79, y80, y81, y82, y83, y84, y85, y86, y87, y88, y89, y90, y91, y92, y93, y94, y95, y96, y97, y98, y99, y100, y101, y102, y103, y104, y105, y106, y107, y108, y109, y110, y111, y112, y113, y114, y115, y116, y117, y118, y119, y120, y121, y122, y123, y124, y125, y126, y127, y128, y129, y130, y131, y132, y133, y134, y135, y136, y137, y138, y139, y140, y141, y142, y143, y144, y145, y146, y147, y148, y149, y150, y151, y152, y153, y154, y155, y156, y157, y158, y159, y160, y161, y162, y163, y164, y165, y166, y167, y168, y169, y170, y171, y172, y173, y174, y175, y176, y177, y178, y179, y180, y181, y182, y183, y184, y185, y186, y187, y188, u189, u190, u191, u192, u193, u194, u195, u196, u197, u198, u199, u200, u201, u202, u203, u204, u205, u206, u207, u208, u209, u210, u211, u212, u213, u214, u215, u216, u217, u218, u219, y220, y221, y222, y223, y224, y225, y226, y227, y228, y229, y230, y231, y232, y233, y234, y235, y236, y237, y238, y239, y240, y241, y242, y243, y244, y245, y246, y247, y248, y249, y250, y251, y252, y253, y254, y255, y256, y257, y258, y259, y260, y261, y262, y263, y264], []⟩) → J a' w')
    (hK : ∀ (a' : Act) (w' : World), Met J a' w' → K a' w') :
    (blkOf Tryz.f7 2).wp Tryz.prog (Exit.then K (bodyPost Tryz.prog Tryz.f7 (ParseQ w P))) ⟨#[y0, y1, .pointer (some ⟨g, 0, none⟩), y3, y4, .slice A5 LN cap5, .bool LB, .pointer (some ⟨g7, 0, none⟩), .int .i64 (i : Nat), .string (bs (peekT rest)), .bool (cutT rest).isSome, y11, y12, y13, y14, y15, y16, y17, y18, y19, y20, y21, y22, y23, y24, y25, y26, y27, y28, y29, y30, y31, y32, y33, y34, y35, y36, y37, y38, y39, y40, y41, y42, y43, y44, y45, y46, y47, y48, y49, y50, y51, y52, y53, y54, y55, y56, y57, y58, y59, y60, y61, y62, y63, y64, y65, y66, y67, y68, y69, y70, y71, y72, y73, y74, y75, y76, y77, y78, y79, y80, y81, y82, y83, y84, y85, y86, y87, y88, y89, y90, y91, y92, y93, y94, y95, y96, y97, y98, y99, y100, y101, y102, y103, y104, y105, y106, y107, y108, y109, y110, y111, y112, y113, y114, y115, y116, y117, y118, y119, y120, y121, y122, y123, y124, y125, y126, y127, y128, y129, y130, y131, y132, y133, y134, y135, y136, y137, y138, y139, y140, y141, y142, y143, y144, y145, y146, y147, y148, y149, y150, y151, y152, y153, y154, y155, y156, y157, y158, y159, y160, y161, y162, y163, y164, y165, y166, y167, y168, y169, y170, y171, y172, y173, y174, y175, y176, y177, y178, y179, y180, y181, y182, y183, y184, y185, y186, y187, y188, y189, y190, y191, y192, y193, y194, y195, y196, y197, y198, y199, y200, y201, y202, y203, y204, y205, y206, y207, y208, y209, y210, y211, y212, y213, y214, y215, y216, y217, y218, y219, y220, y221, y222, y223, y224, y225, y226, y227, y228, y229, y230, y231, y232, y233, y234, y235, y236, y237, y238, y239, y240, y241, y242, y243, y244, y245, y246, y247, y248, y249, y250, y251, y252, y253, y254, y255, y256, y257, y258, y259, y260, y261, y262, y263, y264], []⟩ wp := by
  conv => arg 2; whnf
  go_wp2_with fail
  go_loopw [8, 9, 10] (fun at_ x t wr => ∃ i rest, at_ = .int .i64 (i : Nat) ∧ x = .string (bs (peekT rest)) ∧ t = .bool (cutT rest).isSome ∧ CycJ wp g7 bm P s v (.slice al v.length cl) b ms ord i rest wr) (fun at_ _ _ _ => LN - (intOf at_).toNat)
  case atStart => exact ⟨i, rest, rfl, rfl, rfl, HI2.out⟩
  case round =>
    clear HI2
    obtain ⟨j, rest2, rfl, rfl, rfl, vi, us2, ls, hP, hR, hT, hI, hls, hC⟩ := hrel
    have hrl : rest2.length ≤ 60000 := by omega
    have HPR := Lib.hid hP
    have HRR := Lib.hid hR
    have HTR := Lib.hid hT
    have HIR := Lib.hid hI
    have HLS := Lib.hid hls
    have HCR := Lib.hid hC
    have HCW : Hid (Chg (fun k => k = g7) w2 wr) := Lib.hid (HCP.out.trans hC (fun i hi => .inl hi))
    have HSTEP := Lib.hid (cycF_step v ms ord ls rest2 (j + 1))
    have HBG := Lib.hid (fun W => r15_begins (peekT rest2) (wCyc ++ [32]) W (by have := peekT_len rest2; omega) (by decide))
    have hj9 : j ≤ 50000 := by have := hR.le; omega
    obtain ⟨avi, cvi, hvi, hv1, hv2⟩ := hI.form
    clear hP hR hT hI hls hC
    by_cases hbeg : beginsT (wCyc ++ [32]) (peekT rest2) = true
    · obtain ⟨r', hcs⟩ := begins_some hbeg
      obtain ⟨y, hy, hbr⟩ := cyc_word hbeg hcs
      rw [if_pos hbeg] at HSTEP
      rw [hbeg] at HBG
      have HNX := Lib.hid (HRR.out.next hcs)
      have HRL : Hid (r'.length < rest2.length) := Lib.hid (by have := cutT_len hcs; omega)
      have HBR := Lib.hid hbr
      rw [show (cutT rest2).isSome = true by rw [hcs]; rfl]
      have hLt : j < LN := by
        have h1 := HLN.out
        have h2 := (HRR.out.end_).2 (fun e => by rw [e] at hcs; simp [cutT] at hcs)
        omega
      have hex : (bs (peekT rest2)).extract 6 (bs (peekT rest2)).size = bs y := by rw [bs_extract, bs_list, bs_size, List.take_length, hy]; rfl
      have h6 : (6 : Int) ≤ ((bs (peekT rest2)).size : Int) := by rw [bs_size, hy]; simp; omega
      have h69 : ((bs (peekT rest2)).size : Int) ≤ 100000 := by rw [bs_size]; have := peekT_len rest2; omega
      have HPA := Lib.hid (r15_parse (y := y) (by have := peekT_len rest2; rw [hy] at this; simp at this; omega) wr)
      obtain ⟨px2, hpx2⟩ : ∃ px, px = bs (peekT rest2) := ⟨_, rfl⟩
      rw [← hpx2] at HBG hex h6 h69 ⊢
      obtain ⟨o, hoo⟩ : ∃ o, o = truthsP y := ⟨_, rfl⟩
      rw [← hoo] at HPA HBR
      obtain ⟨sy, hsy⟩ : ∃ sy, sy = bs y := ⟨_, rfl⟩
      rw [← hsy] at HPA hex
      clear hbeg hcs hy hbr hpx2 hoo hsy
      go_wp2_with fail
      refine (HBG.out _).mono ?_
      rintro e wr' ⟨rfl, rfl⟩
      cases o with
      | none =>
        have HPB : Hid (P = .bad (j + 1)) := Lib.hid (by rw [HPR.out, HSTEP.out, HBR.out])
        go_wp2_with fail
        refine HPA.out.mono ?_
        rintro e w9 ⟨rfl, hb⟩
        have hC9 : Chg (fun k => k = g7) w2 w9 := HCW.out.trans (Chg.of_below (S := fun k => k = g7) hb) (fun i hi => .inl hi)
        have HF := Lib.hid (HFB.out w9 (j + 1) ((j : Int) + 1) hC9 HPB.out rfl)
        obtain ⟨⟨c0, c1, c2, c3⟩, ⟨f0, f1, f2, f3⟩, s0, s1, s2, s3⟩ := HZ2.out w9 hC9
        clear hC9 hb hvi
        go_upto_region 35 with (fail)
        repeat go_step
        try simp only [Exit.inBlock, Exit.then]
        exact bodyPost_ret (v := .tuple #[.agg #[.slice none 0 0, .slice none 0 0, .slice none 0 0, .int .i64 0], .int .i64 ((j : Int) + 1), .int .i64 2]) (by simp [results, Tryz.results7, go_sem, c0, c1, c2, c3]) rfl HF.out
      | some l =>
        have HP7 : Hid (P = cycF v ms ord r'.length (ls ++ [l]) r' (j + 1 + 1)) := Lib.hid (by rw [HPR.out, HSTEP.out, HBR.out])
        go_wp2_with fail
        refine HPA.out.mono ?_
        rintro e w6c ⟨ul, rfl, hul⟩
        obtain ⟨al2, cl2, rfl, -, -⟩ := hul.form
        have hlo : ∀ q, (Value.slice al2 l.length cl2).ownBlock = some q → wp.heap.size ≤ q ∧ vi.ownBlock ≠ some q := fun q hq => by
          have h1 := hul.2.2 q hq
          have h2 := HCR.out.size
          exact ⟨by omega, fun e => by have := HIR.out.top.lt q e; omega⟩
        have HLO := Lib.hid hlo
        have HB6c := Lib.hid hul.2.1
        have HT6 := Lib.hid (HTR.out.below HB6c.out HTR.out.lt)
        have HI6 : Hid (InsM wp w6c vi us2 ls) := Lib.hid (HIR.out.chg (S := fun _ => False) (Chg.of_below HB6c.out) (fun k hk => hk.elim))
        have HC6 : Hid (Chg (fun k => k = g7) wp w6c) := Lib.hid (HCR.out.trans (Chg.of_below (S := fun k => k = g7) HB6c.out) (fun i hi => .inl hi))
        have HUL := Lib.hid hul.1
        have c2 : w6c.cell? ⟨g7, 2, none⟩ = some vi := HT6.out.cell 2
        have hg6 : g7 < w6c.heap.size := HT6.out.lt
        obtain ⟨W2, hW2⟩ : ∃ W2, W2 = w6c.alloc (.cells #[.slice al2 l.length cl2] 23) := ⟨_, rfl⟩
        have hB2 : Below w6c.heap.size w6c W2 := by rw [hW2]; exact (Below.refl _ w6c).alloc (Nat.le_refl _) _
        have hrow2 : Row W2 23 1 vi us2.length us2 := HI6.out.top.chg (S := fun _ => False) (Chg.of_below hB2) (fun _ _ h => h)
        have hnew : ∀ j u, [Value.slice al2 l.length cl2][j]? = some u → W2.cell? ⟨w6c.heap.size, 0 + j, none⟩ = some u := fun j u hj => by
          rw [hW2, Nat.zero_add]
          have := (Blk.new w6c 23 #[.slice al2 l.length cl2]).cell j
          rw [this]
          simpa using hj
        have hus : us2.length ≤ 60000 := by have := HI6.out.len; have := HLS.out; omega
        have HBW2 := Lib.hid hB2
        have HROW2 := Lib.hid hrow2
        have HNEW := Lib.hid hnew
        have HW2b := Lib.hid hW2
        rw [hW2] at HROW2 HNEW
        clear hul hlo hB2 hrow2 hnew hW2 HSTEP HPR
        subst hvi
        go_wp2_with (at_builtin; refine wpList_app rfl _ _ _ rfl 23 (.slice none 0 0) 1 24 Tryz.underlying27 infoBL rfl (by decide) (.slice avi ls.length cvi) us2.length us2 rfl ?ho _ _ 1 1 [.slice al2 l.length cl2] rfl rfl ?hn ?hs ?c1 ?c2 ?_)
        case ho => exact HROW2.out
        case hn => exact HNEW.out
        case hs => (intro u hu; simp at hu; subst hu; rfl)
        case c1 => unfold maxLen; omega
        case c2 => omega
        intro v9 wB hpF
        have hpG : AppPost W2 23 1 (.slice avi ls.length cvi) (us2.length + 1) (us2 ++ [.slice al2 l.length cl2]) v9 wB := by rw [HW2b.out]; exact hpF
        have hcB := hpG.2.1
        obtain ⟨gv, cv, rfl, -, -, -⟩ := hpF.1.some_ (by omega)
        have kB2 : wB.cell? ⟨g7, 2, none⟩ = some (.slice avi ls.length cvi) := ((HT6.out.below HBW2.out HT6.out.lt).chg hcB (fun e => by have := HI6.out.own g7 e; omega)).cell 2
        have fB2 : wB.frozen? ⟨g7, 2, none⟩ = false := ((HT6.out.below HBW2.out HT6.out.lt).chg hcB (fun e => by have := HI6.out.own g7 e; omega)).frozen 2
        have HST9 := Lib.hid (CycJ.step (i := j) hgc HP7.out HRL.out HLS.out HNX.out.2.2 HT6.out HI6.out HUL.out rfl HLO.out HC6.out HBW2.out hpG)
        have HL9 := Lib.hid (HLINE.out _ r' (j + 1) (HCP.out.trans HST9.out.2 (fun i hi => .inl hi)) HNX.out.2.2)
        have zi : IntKind.i64.wrap ((j : Int) + 1) = (j : Int) + 1 := IntWalk.i64_in _ (by omega)
        rw [show ((j + 1 : Nat) : Int) = (j : Int) + 1 by omega] at HL9
        clear hpF hpG hcB
        go_wp2_with fail
        refine HL9.out.mono ?_
        rintro e w9 ⟨rfl, rfl⟩
        go_wp2
        go_roundw
        case rel => exact ⟨j + 1, r', by go_num, rfl, rfl, HST9.out.1⟩
        case measure => simp [intOf]; omega
    · have HP7 : Hid (P = finT v ms ord ls rest2 (j + 1)) := Lib.hid (by rw [HPR.out, HSTEP.out, if_neg hbeg])
      have hbf : beginsT (wCyc ++ [32]) (peekT rest2) = false := Bool.eq_false_iff.2 hbeg
      rw [hbf] at HBG
      have HMT : Hid (∀ b9, b9 = (cutT rest2).isSome → CutK wp g7 bm P s v (.slice al v.length cl) b ms ord (.int .i64 (j : Nat)) (.string (bs (peekT rest2))) (.bool b9) wr) := Lib.hid fun b9 h9 => ⟨j, rest2, vi, us2, ls, rfl, rfl, by rw [h9], HP7.out, HRR.out, hrl, HTR.out, HIR.out, HCR.out⟩
      obtain ⟨b9, h9⟩ : ∃ b, b = (cutT rest2).isSome := ⟨_, rfl⟩
      have HM9 := Lib.hid (HMT.out b9 h9)
      rw [← h9]
      obtain ⟨px2, hpx2⟩ : ∃ px, px = bs (peekT rest2) := ⟨_, rfl⟩
      rw [← hpx2] at HBG HM9 ⊢
      clear h9 hbeg hbf HSTEP hpx2 HMT hvi
      cases b9 with
      | false =>
        go_wp2_with fail
        go_meet
        exact HM9.out
      | true =>
        go_wp2_with fail
        refine (HBG.out _).mono ?_
        rintro e wr' ⟨rfl, rfl⟩
        go_wp2_with fail
        go_meet
        exact HM9.out
end Go.Proofs.YtibinmabdidecaaGreatDoor
