/-
  The document's Parse of a witness: the cells' lines.
-/
import Derived.Test.YtibinmabdidecaaGreatDoorTpW
import Derived.Deep.CutBlock
import Derived.Deep.DeepCutAuto
namespace Go.Proofs.YtibinmabdidecaaGreatDoor
open Go.ChangeShapes Go.WideShapes Go.ChangeAt Go.RowKit
set_option linter.unusedVariables false
set_option linter.unusedSimpArgs false
/-- The numbers in a slice of the call's own, in any later world. -/
theorem nums_cells {w w' : World} {u : Value} {ns : List Nat} (h : OwnG KU w w' u ns) (hn : 0 < ns.length) : ∃ g cap, u = .slice (some ⟨g, 0, none⟩) ns.length cap ∧ w.heap.size ≤ g ∧ g < w'.heap.size ∧ ∀ j, j < ns.length → w'.cell? ⟨g, j, none⟩ = some (.int .u64 ((ns.getD j 0 : Nat) : Int)) := by
  obtain ⟨g, cap, e, -, h1, h2⟩ := h.cell 0 hn
  refine ⟨g, cap, e, h1, h2, fun j hj => ?_⟩
  obtain ⟨g', cap', e', hc, -, -⟩ := h.cell 0 hj
  rw [e] at e'
  injection e' with e1 e2 e3
  injection e1 with e1
  injection e1 with e1
  subst e1
  exact hc
/-- What stands when so many cells were read. -/
def CelJ (wz : World) (bm : Nat) (P : PRes) (s : List UInt8) (lat : List Bool) (b : Nat) (i : Nat) (rest : List UInt8) (ord : Bool) (last : Nat) (wr : World) : Prop := ∃ us ms,
  P = celF lat b rest.length ms last ord rest (i + 1) ∧ RelL s rest i ∧ rest.length ≤ 50000 ∧ MemsM wz wr bm us ms ∧ ms.length = b ∧
  (∀ m ∈ ms, ∀ p ∈ m, wf p.1 ∧ wf p.2) ∧ (∀ i, (ms.getD i []).length + rest.length ≤ 60000) ∧ Below wz.heap.size wz wr
/-- What stands behind the cells. -/
def CutJ (wz : World) (bm : Nat) (P : PRes) (s : List UInt8) (lat : List Bool) (b : Nat) (a x t o : Value) (wx : World) : Prop := ∃ i rest ord us ms,
  a = .int .i64 (i : Nat) ∧ x = .string (bs (peekT rest)) ∧ t = .bool (cutT rest).isSome ∧ o = .bool ord ∧
  P = cycF lat ms ord rest.length [] rest (i + 1) ∧ RelL s rest i ∧ rest.length ≤ 50000 ∧ MemsM wz wx bm us ms ∧ ms.length = b ∧ (∀ m ∈ ms, ∀ p ∈ m, wf p.1 ∧ wf p.2) ∧ Below wz.heap.size wz wx
theorem begins_some {w rest : List UInt8} (h : beginsT (w ++ [32]) (peekT rest) = true) : ∃ r, cutT rest = some (peekT rest, r) := by
  cases hc : cutT rest with
  | none => rw [peek_none hc, begins_nil] at h; cases h
  | some q =>
    obtain ⟨a, r⟩ := q
    rw [peek_cut hc]
    exact ⟨r, rfl⟩
theorem CelJ.step {wz w7 W2 wB : World} {bm b m i a1 x1 : Nat} {P : PRes} {s : List UInt8} {lat : List Bool} {v9 : Value} {us : List Value} {ms : List CS} {rest r' : List UInt8} {ord : Bool}
    (hbm : bm = wz.heap.size) (hP : P = celF lat b r'.length (ms.set m (ms.getD m [] ++ [((a1 : Int), (x1 : Int))])) m ord r' (i + 1 + 1))
    (hn : rest.length ≤ 50000) (hl : r'.length < rest.length) (hR : RelL s r' (i + 1))
    (hM : MemsM wz w7 bm us ms) (hml : ms.length = b) (hm : m < ms.length) (hwf : ∀ m ∈ ms, ∀ p ∈ m, wf p.1 ∧ wf p.2) (hcl : ∀ i, (ms.getD i []).length + rest.length ≤ 60000)
    (hC : Below wz.heap.size wz w7) (hB : Below w7.heap.size w7 W2) (wa : wf (a1 : Int)) (wx : wf (x1 : Int))
    (hp : AppPost W2 64 2 (us.getD m undef) ((ms.getD m []).length + 1) ((ms.getD m []).flatMap celC ++ [Value.int .u64 (a1 : Int), .int .u64 (x1 : Int)]) v9 wB) :
    CelJ wz bm P s lat b (i + 1) r' ord m (wB.setCell ⟨bm, m, none⟩ v9) := by
  have hM2 := hM.below hB
  have hz2 : wz.heap.size ≤ W2.heap.size := Nat.le_trans hC.size hB.size
  have hA := hM2.app hm ((a1 : Int), (x1 : Int)) hz2 hM2.blk.lt hp
  have hown : ∀ q, (us.getD m undef).ownBlock = some q → wz.heap.size ≤ q ∧ q ≠ bm := fun q hq => hM.own m q hm hq
  have hcB := hp.2.1
  have hb2 : Below wz.heap.size wz wB := (hC.trans (hB.mono hC.size)).trans (hcB.below hz2 (fun k hk => (hown k hk).1))
  refine ⟨_, _, hP, hR, by omega, hA, by rw [List.length_set]; exact hml, fun l hl' p hp' => ?_, fun i => ?_, hb2.setCell (by simp only; omega) _⟩
  · rcases List.mem_or_eq_of_mem_set hl' with h | h
    · exact hwf l h p hp'
    · subst h
      rcases List.mem_append.1 hp' with h | h
      · rw [List.getD_eq_getElem?_getD, List.getElem?_eq_getElem hm] at h
        exact hwf _ (List.getElem_mem hm) p h
      · rw [List.mem_singleton.1 h]
        exact ⟨wa, wx⟩
  · rw [getD_setG _ _ _ _ _ hm]
    have h1 := hcl i
    have h2 := hcl m
    split
    · rw [List.length_append, List.length_singleton]; omega
    · omega
/-- What stands when so many cycles were read. -/
def CycJ (wp : World) (g7 bm : Nat) (P : PRes) (s : List UInt8) (lat : List Bool) (vl : Value) (b : Nat) (ms : List CS) (ord : Bool) (i : Nat) (rest : List UInt8) (wr : World) : Prop := ∃ vi us ls,
  P = cycF lat ms ord rest.length ls rest (i + 1) ∧ RelL s rest i ∧ Blk wr g7 29 #[vl, .slice (some ⟨bm, 0, none⟩) b b, vi, .int .i64 0] ∧ InsM wp wr vi us ls ∧ ls.length + rest.length ≤ 60000 ∧ Chg (fun k => k = g7) wp wr
/-- What stands behind the cycles. -/
def CutK (wp : World) (g7 bm : Nat) (P : PRes) (s : List UInt8) (lat : List Bool) (vl : Value) (b : Nat) (ms : List CS) (ord : Bool) (a x t : Value) (wx : World) : Prop := ∃ i rest vi us ls,
  a = .int .i64 (i : Nat) ∧ x = .string (bs (peekT rest)) ∧ t = .bool (cutT rest).isSome ∧ P = finT lat ms ord ls rest (i + 1) ∧ RelL s rest i ∧ rest.length ≤ 60000 ∧
  Blk wx g7 29 #[vl, .slice (some ⟨bm, 0, none⟩) b b, vi, .int .i64 0] ∧ InsM wp wx vi us ls ∧ Chg (fun k => k = g7) wp wx
theorem CycJ.step {wp w6 W2 wB : World} {g7 bm b i : Nat} {P : PRes} {s : List UInt8} {lat l : List Bool} {vl vi v' u : Value} {us : List Value} {ms : List CS} {ls : List (List Bool)} {rest r' : List UInt8} {ord : Bool}
    (hg : g7 < wp.heap.size) (hP : P = cycF lat ms ord r'.length (ls ++ [l]) r' (i + 1 + 1)) (hl : r'.length < rest.length) (hls : ls.length + rest.length ≤ 60000) (hR : RelL s r' (i + 1))
    (hT : Blk w6 g7 29 #[vl, .slice (some ⟨bm, 0, none⟩) b b, vi, .int .i64 0]) (hI : InsM wp w6 vi us ls) (hu : Row w6 4 1 u l.length (l.map Value.bool)) (hs : u.oneCell' = true)
    (hlo : ∀ q, u.ownBlock = some q → wp.heap.size ≤ q ∧ vi.ownBlock ≠ some q) (hC : Chg (fun k => k = g7) wp w6) (hB : Below w6.heap.size w6 W2) (hp : AppPost W2 23 1 vi (us.length + 1) (us ++ [u]) v' wB) :
    CycJ wp g7 bm P s lat vl b ms ord (i + 1) r' (wB.setCell ⟨g7, 2, none⟩ v') ∧ Chg (fun k => k = g7) wp (wB.setCell ⟨g7, 2, none⟩ v') := by
  have hz2 : wp.heap.size ≤ W2.heap.size := Nat.le_trans hC.size hB.size
  have hI2 : InsM wp W2 vi us ls := hI.chg (S := fun _ => False) (Chg.of_below hB) (fun _ h => h.elim)
  have hA := hI2.app (hu.chg (S := fun _ => False) (Chg.of_below hB) (fun _ _ h => h)) hs hz2 hlo hp
  have hcB := hp.2.1
  have hcS : Chg (fun k => k = g7) wB (wB.setCell ⟨g7, 2, none⟩ v') := (Chg.refl (fun k => k = g7) wB).setCell (p := ⟨g7, 2, none⟩) (.inl rfl) _
  have hc : Chg (fun k => k = g7) wp (wB.setCell ⟨g7, 2, none⟩ v') := ((hC.trans (Chg.of_below (S := fun k => k = g7) hB) (fun i hi => .inl hi)).trans hcB (fun i hi => .inr (hI.own i hi))).trans hcS (fun i hi => .inl hi)
  refine ⟨⟨v', _, _, hP, hR, ?_, hA.chg hcS (fun k hk => by omega), by rw [List.length_append, List.length_singleton]; omega, hc⟩, hc⟩
  have := ((hT.below hB hT.lt).chg hcB (fun e => by have := hI.own g7 e; omega)).set_ 2 v'
  exact this
theorem cyc_word {rest r : List UInt8} (hb : beginsT (wCyc ++ [32]) (peekT rest) = true) (hc : cutT rest = some (peekT rest, r)) : ∃ y, peekT rest = wCyc ++ 32 :: y ∧ boolsR wCyc rest = match truthsP y with | some l => some (l, r) | none => none := by
  obtain ⟨y, hy⟩ := begins_inv hb
  refine ⟨y, hy, ?_⟩
  rw [boolsR_cut hc, hy, boolsT_begins (by decide)]
  cases truthsP y <;> rfl
/-- The statement of a number in a function's text. -/
def findBlk (n : Nat) : Code → Option Code
  | .block m c => if m = n then some (.block m c) else findBlk n c
  | .loop c => findBlk n c
  | .scope c => findBlk n c
  | .seq a b => match findBlk n a with
    | some c => some c
    | none => findBlk n b
  | .cond _ a b => match findBlk n a with
    | some c => some c
    | none => findBlk n b
  | _ => none
noncomputable def blkOf (f : Func) (n : Nat) : Code := (f.body.bind (findBlk n)).getD .skip
set_option maxHeartbeats 8000000 in
set_option maxRecDepth 100000 in
/-- The cells' lines. -/
theorem cells_loop {w w2 w7 wz : World} {g g7 gn capn bm b a LN cap5 cl : Nat} {A5 al : Option Addr} {LB : Bool} {P : PRes} {s r2 : List UInt8} {v : List Bool} {J K : Act → World → Prop} {y0 y1 y3 y4 y12 y13 y14 y17 y18 y19 y20 y21 y22 y23 y24 y25 y26 y27 y28 y29 y30 y31 y32 y33 y34 y35 y36 y37 y38 y39 y40 y41 y42 y43 y44 y45 y46 y47 y48 y49 y50 y51 y52 y53 y54 y55 y56 y57 y58 y59 y60 y61 y62 y63 y64 y65 y66 y67 y68 y69 y70 y71 y72 y73 y74 y75 y76 y77 y78 y79 y80 y81 y82 y83 y84 y85 y86 y87 y88 y89 y90 y91 y92 y93 y94 y95 y96 y97 y98 y99 y100 y101 y102 y103 y104 y105 y106 y107 y108 y109 y110 y111 y112 y113 y114 y115 y116 y117 y118 y119 y120 y121 y122 y123 y124 y125 y126 y127 y128 y129 y130 y131 y132 y133 y134 y135 y136 y137 y138 y139 y140 y141 y142 y143 y144 y145 y146 y147 y148 y149 y150 y151 y152 y153 y154 y155 y156 y157 y158 y159 y160 y161 y162 y163 y164 y165 y166 y167 y168 y169 y170 y171 y172 y173 y174 y175 y176 y177 y178 y179 y180 y181 y182 y183 y184 y185 y186 y187 y188 y189 y190 y191 y192 y193 y194 y195 y196 y197 y198 y199 y200 y201 y202 y203 y204 y205 y206 y207 y208 y209 y210 y211 y212 y213 y214 y215 y216 y217 y218 y219 y220 y221 y222 y223 y224 y225 y226 y227 y228 y229 y230 y231 y232 y233 y234 y235 y236 y237 y238 y239 y240 y241 y242 y243 y244 y245 y246 y247 y248 y249 y250 y251 y252 y253 y254 y255 y256 y257 y258 y259 y260 y261 y262 y263 y264 : Value}
    (hl : s.length ≤ 50000) (hLN9 : LN ≤ 50001) (hb4 : b ≤ 4) (HLN : Hid (LN = (linesT s).1.length))
    (HLINE : Hid (∀ (W : World) (rest : List UInt8) (i : Nat), Chg (fun k => k = g7) w2 W → RelL s rest i → Calls Tryz.prog 17 #[.slice A5 LN cap5, .bool LB, .int .i64 (i : Nat)] W fun e w' => e = .returned (.tuple #[.string (bs (peekT rest)), .bool (cutT rest).isSome]) ∧ W = w'))
    (HFB : Hid (∀ (W : World) (n : Nat) (z : Int), Chg (fun k => k = g7) w2 W → P = .bad n → z = ((n : Nat) : Int) → ParseQ w P (.returned (.tuple #[.agg #[.slice none 0 0, .slice none 0 0, .slice none 0 0, .int .i64 0], .int .i64 z, .int .i64 2])) W))
    (HZ2 : Hid (∀ W : World, Chg (fun k => k = g7) w2 W → (W.cell? ⟨g, 0, none⟩ = some (.slice none 0 0) ∧ W.cell? ⟨g, 1, none⟩ = some (.slice none 0 0) ∧ W.cell? ⟨g, 2, none⟩ = some (.slice none 0 0) ∧ W.cell? ⟨g, 3, none⟩ = some (.int .i64 0)) ∧ (W.frozen? ⟨g, 0, none⟩ = false ∧ W.frozen? ⟨g, 1, none⟩ = false ∧ W.frozen? ⟨g, 2, none⟩ = false ∧ W.frozen? ⟨g, 3, none⟩ = false) ∧ (W.setCell ⟨g, 0, none⟩ (.slice none 0 0) = W ∧ W.setCell ⟨g, 1, none⟩ (.slice none 0 0) = W ∧ W.setCell ⟨g, 2, none⟩ (.slice none 0 0) = W ∧ W.setCell ⟨g, 3, none⟩ (.int .i64 0) = W)))
    (HTz : Hid (Blk wz g7 29 #[.slice al v.length cl, .slice (some ⟨bm, 0, none⟩) b b, .slice none 0 0, .int .i64 0]))
    (HKz : Hid (wz.cell? ⟨gn, 0, none⟩ = some (.int .u64 (a : Int)) ∧ wz.cell? ⟨gn, 1, none⟩ = some (.int .u64 (b : Int)) ∧ gn < wz.heap.size))
    (HCz : Hid (Chg (fun k => k = g7) w2 wz)) (HBM : Hid (bm = wz.heap.size)) (HI7 : Hid (CelJ wz bm P s v b 2 r2 true 0 w7))
    (hJ : ∀ (a' : Act) (w' : World), (∃ u3 u4 u8 u9 u10 u15 u16 u17 u18 u113 u114 u115 u116 u117 u118 u119 u120 u121 u122 u123 u124 u125 u126 u127 u128 u129 u130 u131 u132 u133 u134 u135 u136 u137 u138 u139 u140 u141 u142 u143 u144 u145 u146 u147 u148 u149 u150 u151 u152 u153 u154 u155 u156 u157 u158 u159 u160 u161 u162 u163 u164 u165 u166 u167 u168 u169 u170 u171 u172 u173 u174 u175 u176 u177 u178 u179 u180 u181 : Value, CutJ wz bm P s v b u8 u9 u10 u15 w' ∧ a' = ⟨#[y0, y1, .pointer (some ⟨g, 0, none⟩), u3, u4, .slice A5 LN cap5, .bool LB, .pointer (some ⟨g7, 0, none⟩), u8, u9, u10, .slice (some ⟨gn, 0, none⟩) 2 capn, y12, y13, y14, u15, u16, u17, u18, y19, y20, y21, y22, y23, y24, y25, y26, y27, y28, y29, y30, y31, y32, y33, y34, y35, y36, y37, y38, y39, y40, y41, y42, y43, y44, y45, y46, y47, y48, y49, y50, y51, y52, y53, y54, y55, y56, y57, y58, y59, y60, y61, y62, y63, y64, y65, y66, y67, y68, y69, y70, y71, y72, y73, y74, y75, y76, y77, y78, y79, y80, y81, y82, y83, y84, y85, y86, y87, y88, y89, y90, y91, y92, y93, y94, y95, y96, y97, y98, y99, y100, y101, y102, y103, y104, y105, y106, y107, y108, y109, y110, y111, y112, u113, u114, u115, u116, u117, u118, u119, u120, u121, u122, u123, u124, u125, u126, u127, u128, u129, u130, u131, u132, u133, u134, u135, u136, u137, u138, u139, u140, u141, u142, u143, u144, u145, u146, u147, u148, u149, u150, u151, u152, u153, u154, u155, u156, u157, u158, u159, u160, u161, u162, u163, u164, u165, u166, u167, u168, u169, u170, u171, u172, u173, u174, u175, u176, u177, u178, u179, u180, u181, y182, y183, y184, y185, y186, y187, y188, y189, y190, y191, y192, y193, y194, y195, y196, y197, y198, y199, y200, y201, y202, y203, y204, y205, y206, y207, y208, y209, y210, y211, y212, y213, y214, y215, y216, y217, y218, y219, y220, y221, y222, y223, y224, y225, y226, y227, y228, y229, y230, y231, y232, y233, y234, y235, y236, y237, y238, y239, y240, y241, y242, y243, y244, y245, y246, y247, y248, y249, y250, y251, y252, y253, y254, y255, y256, y257, y258, y259, y260, y261, y262, y263, y264], []⟩) → J a' w')
    (hK : ∀ (a' : Act) (w' : World), Met J a' w' → K a' w') :
    (blkOf Tryz.f7 0).wp Tryz.prog (Exit.then K (bodyPost Tryz.prog Tryz.f7 (ParseQ w P))) ⟨#[y0, y1, .pointer (some ⟨g, 0, none⟩), y3, y4, .slice A5 LN cap5, .bool LB, .pointer (some ⟨g7, 0, none⟩), .int .i64 2, .string (bs (peekT r2)), .bool (cutT r2).isSome, .slice (some ⟨gn, 0, none⟩) 2 capn, y12, y13, y14, .bool true, .int .u64 0, y17, y18, y19, y20, y21, y22, y23, y24, y25, y26, y27, y28, y29, y30, y31, y32, y33, y34, y35, y36, y37, y38, y39, y40, y41, y42, y43, y44, y45, y46, y47, y48, y49, y50, y51, y52, y53, y54, y55, y56, y57, y58, y59, y60, y61, y62, y63, y64, y65, y66, y67, y68, y69, y70, y71, y72, y73, y74, y75, y76, y77, y78, y79, y80, y81, y82, y83, y84, y85, y86, y87, y88, y89, y90, y91, y92, y93, y94, y95, y96, y97, y98, y99, y100, y101, y102, y103, y104, y105, y106, y107, y108, y109, y110, y111, y112, y113, y114, y115, y116, y117, y118, y119, y120, y121, y122, y123, y124, y125, y126, y127, y128, y129, y130, y131, y132, y133, y134, y135, y136, y137, y138, y139, y140, y141, y142, y143, y144, y145, y146, y147, y148, y149, y150, y151, y152, y153, y154, y155, y156, y157, y158, y159, y160, y161, y162, y163, y164, y165, y166, y167, y168, y169, y170, y171, y172, y173, y174, y175, y176, y177, y178, y179, y180, y181, y182, y183, y184, y185, y186, y187, y188, y189, y190, y191, y192, y193, y194, y195, y196, y197, y198, y199, y200, y201, y202, y203, y204, y205, y206, y207, y208, y209, y210, y211, y212, y213, y214, y215, y216, y217, y218, y219, y220, y221, y222, y223, y224, y225, y226, y227, y228, y229, y230, y231, y232, y233, y234, y235, y236, y237, y238, y239, y240, y241, y242, y243, y244, y245, y246, y247, y248, y249, y250, y251, y252, y253, y254, y255, y256, y257, y258, y259, y260, y261, y262, y263, y264], []⟩ w7 := by
  conv => arg 2; whnf
  go_wp2_with fail
  go_loopw [8, 9, 10, 15, 16] (fun at_ x t o l wr => ∃ i rest ord, ∃ last : Nat, at_ = .int .i64 (i : Nat) ∧ x = .string (bs (peekT rest)) ∧ t = .bool (cutT rest).isSome ∧ o = .bool ord ∧ l = .int .u64 (last : Int) ∧ last ≤ 4 ∧ CelJ wz bm P s v b i rest ord last wr) (fun at_ _ _ _ _ _ => LN - (intOf at_).toNat)
  case atStart => exact ⟨2, r2, true, 0, rfl, rfl, rfl, rfl, rfl, by omega, HI7.out⟩
  case round =>
    obtain ⟨i, rest, ord, last, rfl, rfl, rfl, rfl, rfl, hlast, us, ms, hP, hR, hrl, hM, hml, hwf, hcl, hB⟩ := hrel
    have HPR := Lib.hid hP
    have HRR := Lib.hid hR
    have HMM := Lib.hid hM
    have HML := Lib.hid hml
    have HWF := Lib.hid hwf
    have HCLn := Lib.hid hcl
    have HBR := Lib.hid hB
    have HSTEP := Lib.hid (celF_step v b ms last ord rest (i + 1))
    have HBG := Lib.hid (fun W => r15_begins (peekT rest) (wCell ++ [32]) W (by have := peekT_len rest; omega) (by decide))
    have hi9 : i ≤ 50000 := by have := hR.le; omega
    clear hP hR hM hml hwf hcl hB
    by_cases hbeg : beginsT (wCell ++ [32]) (peekT rest) = true
    · obtain ⟨r', hcs⟩ := begins_some hbeg
      rw [if_pos hbeg] at HSTEP
      rw [hbeg] at HBG
      have HNX := Lib.hid (HRR.out.next hcs)
      have HRL : Hid (r'.length < rest.length) := Lib.hid (by have := cutT_len hcs; omega)
      have hnr := numsR_cut (word := wCell) (most := mostC) hcs
      have HNR := Lib.hid hnr
      rw [show (cutT rest).isSome = true by rw [hcs]; rfl]
      obtain ⟨wn, hwn⟩ : ∃ wn, wn = wr.alloc (.cells #[.int .u64 3, .int .u64 18446744073709551615, .int .u64 18446744073709551615] 57) := ⟨_, rfl⟩
      have HBN : Hid (Below wr.heap.size wr wn) := Lib.hid (by rw [hwn]; exact (Below.refl _ wr).alloc (Nat.le_refl _) _)
      have HNN := Lib.hid (r15_numbers (w := wn) (peekT rest) wCell mostC (bm := wr.heap.size) (cap := 3) (by have := peekT_len rest; omega) ⟨by decide, by decide⟩ (fun j hj => by
        rw [hwn]
        have := (Blk.new wr 57 #[.int .u64 3, .int .u64 18446744073709551615, .int .u64 18446744073709551615]).cell
        match j, hj with
        | 0, _ => exact this 0
        | 1, _ => exact this 1
        | 2, _ => exact this 2))
      have HWN := Lib.hid hwn
      have hLt : i < LN := by
        have h1 := HLN.out
        have h2 := (HRR.out.end_).2 (fun e => by rw [e] at hcs; simp [cutT] at hcs)
        omega
      obtain ⟨px2, hpx2⟩ : ∃ px, px = bs (peekT rest) := ⟨_, rfl⟩
      rw [← hpx2] at HNN HBG ⊢
      have HCW : Hid (Chg (fun k => k = g7) w2 wr) := Lib.hid (HCz.out.trans (Chg.of_below (S := fun k => k = g7) HBR.out) (fun i hi => .inl hi))
      clear hbeg hcs hnr hwn hpx2
      go_wp2_with fail
      refine (HBG.out _).mono ?_
      rintro e wr' ⟨rfl, rfl⟩
      cases ho : numsT wCell mostC (peekT rest) with
      | none =>
        have HPB : Hid (P = .bad (i + 1)) := Lib.hid (by rw [HPR.out, HSTEP.out, HNR.out, ho])
        rw [ho] at HNN
        clear ho
        go_wp2_with fail
        rw [← HWN.out]
        refine HNN.out.mono ?_
        rintro e w8 ⟨rfl, hb⟩
        have HC8 : Hid (Chg (fun k => k = g7) w2 w8) := Lib.hid (HCW.out.trans (Chg.of_below (S := fun k => k = g7) (HBN.out.trans (hb.mono HBN.out.size))) (fun i hi => .inl hi))
        clear hb
        go_wp2_with fail
        go_quiet (fail)
        rename_i nq
        obtain ⟨w9, hw9⟩ : ∃ w9, w9 = w8.drewN nq := ⟨_, rfl⟩
        rw [← hw9]
        have hC9 : Chg (fun k => k = g7) w2 w9 := by rw [hw9]; exact HC8.out.trans (Chg.of_below (S := fun k => k = g7) (below_drewN (Below.refl _ w8) nq)) (fun i hi => .inl hi)
        have HF := Lib.hid (HFB.out w9 (i + 1) ((i : Int) + 1) hC9 HPB.out rfl)
        obtain ⟨⟨c0, c1, c2, c3⟩, ⟨f0, f1, f2, f3⟩, s0, s1, s2, s3⟩ := HZ2.out w9 hC9
        clear hC9 hw9
        go_upto_region 25 with (fail)
        repeat go_step
        try simp only [Exit.inBlock, Exit.then]
        exact bodyPost_ret (v := .tuple #[.agg #[.slice none 0 0, .slice none 0 0, .slice none 0 0, .int .i64 0], .int .i64 ((i : Int) + 1), .int .i64 2]) (by simp [results, Tryz.results7, go_sem, c0, c1, c2, c3]) rfl HF.out
      | some ns =>
        have hnl : ns.length = 3 := by
          have := numsR_len (word := wCell) (most := mostC) (rest := rest) (ns := ns) (r := r') (by rw [HNR.out, ho])
          exact this.1
        have hnm := numsR_le (word := wCell) (most := mostC) (rest := rest) (ns := ns) (r := r') (by rw [HNR.out, ho])
        obtain ⟨m, a1, x1, rfl⟩ : ∃ m a x, ns = [m, a, x] := by
          match ns, hnl with
          | [m, a, x], _ => exact ⟨m, a, x, rfl⟩
        have hm3 : m ≤ 3 := hnm.2 0
        have HWA1 : Hid (wf (a1 : Int)) := Lib.hid (by have := hnm.1 a1 (by simp); unfold wf; omega)
        have HWX1 : Hid (wf (x1 : Int)) := Lib.hid (by have := hnm.1 x1 (by simp); unfold wf; omega)
        have HST : Hid (P = if m < b then celF v b r'.length (ms.set m (ms.getD m [] ++ [((a1 : Int), (x1 : Int))])) m (ord && decide (last ≤ m)) r' (i + 1 + 1) else .bad (i + 1)) := Lib.hid (by rw [HPR.out, HSTEP.out, HNR.out, ho]; rfl)
        rw [ho] at HNN
        clear ho hnl hnm HSTEP HNR
        go_wp2_with fail
        rw [← HWN.out]
        refine HNN.out.mono ?_
        rintro e w6b ⟨uc, rfl, huc⟩
        obtain ⟨gc, capc, rfl, hgc1, hgc2, hcc⟩ := nums_cells huc (by simp)
        have q0 : w6b.cell? ⟨gc, 0, none⟩ = some (.int .u64 (m : Int)) := hcc 0 (by simp)
        have q1 : w6b.cell? ⟨gc, 1, none⟩ = some (.int .u64 (a1 : Int)) := hcc 1 (by simp)
        have q2 : w6b.cell? ⟨gc, 2, none⟩ = some (.int .u64 (x1 : Int)) := hcc 2 (by simp)
        have HB6b : Hid (Below wr.heap.size wr w6b) := Lib.hid (HBN.out.trans (huc.2.1.mono HBN.out.size))
        have HC8 : Hid (Chg (fun k => k = g7) w2 w6b) := Lib.hid (HCW.out.trans (Chg.of_below (S := fun k => k = g7) HB6b.out) (fun i hi => .inl hi))
        have kn1 : w6b.cell? ⟨gn, 1, none⟩ = some (.int .u64 (b : Int)) := cell_below (cell_below HKz.out.2.1 HBR.out) HB6b.out
        have HQ := Lib.hid (show _ ∧ _ ∧ _ from ⟨q0, q1, q2⟩)
        have HGC : Hid (gc < w6b.heap.size ∧ wr.heap.size ≤ gc) := Lib.hid ⟨hgc2, Nat.le_trans HBN.out.size hgc1⟩
        clear huc hgc1 hgc2 hcc HNN HWN HBN HCW
        by_cases hmb : m < b
        ·
          have HP7 : Hid (P = celF v b r'.length (ms.set m (ms.getD m [] ++ [((a1 : Int), (x1 : Int))])) m (ord && decide (last ≤ m)) r' (i + 1 + 1)) := Lib.hid (by rw [HST.out, if_pos hmb])
          have hx : ¬ b ≤ m := by omega
          have hmb' : (m : Int) < (b : Int) := by omega
          clear HST
          go_wp2_with fail
          go_quiet (fail)
          rename_i nq
          obtain ⟨w8, hw8⟩ : ∃ w8, w8 = w6b.drewN nq := ⟨_, rfl⟩
          rw [← hw8]
          have HB8 : Hid (Below w6b.heap.size w6b w8) := Lib.hid (by rw [hw8]; exact below_drewN (Below.refl _ w6b) nq)
          have HB8r : Hid (Below wr.heap.size wr w8) := Lib.hid (HB6b.out.trans (HB8.out.mono HB6b.out.size))
          have HQ8 : Hid (∀ W, Below w8.heap.size w8 W → W.cell? ⟨gc, 0, none⟩ = some (.int .u64 (m : Int)) ∧ W.cell? ⟨gc, 1, none⟩ = some (.int .u64 (a1 : Int)) ∧ W.cell? ⟨gc, 2, none⟩ = some (.int .u64 (x1 : Int))) := Lib.hid fun W hW => ⟨cell_below (cell_below HQ.out.1 HB8.out) hW, cell_below (cell_below HQ.out.2.1 HB8.out) hW, cell_below (cell_below HQ.out.2.2 HB8.out) hW⟩
          clear q0 q1 q2 kn1 hw8 HQ
          obtain ⟨q0, q1, q2⟩ := HQ8.out w8 (Below.refl _ _)
          go_upto_region 26 with (fail)
          go_cut [15] (fun o wx => o = .bool (ord && decide (last ≤ m)) ∧ wx = w8)
          case first =>
            cases ord
            all_goals
              go_wp2_with fail
              go_meet
              exact ⟨by simp, rfl⟩
          case rest =>
            obtain ⟨rfl, rfl⟩ := hcut
            obtain ⟨vM, hvM⟩ : ∃ vM, vM = us.getD m undef := ⟨_, rfl⟩
            have HT8 : Hid (Blk wc g7 29 #[.slice al v.length cl, .slice (some ⟨bm, 0, none⟩) b b, .slice none 0 0, .int .i64 0]) := Lib.hid ((HTz.out.below HBR.out HTz.out.lt).below HB8r.out (Nat.lt_of_lt_of_le HTz.out.lt HBR.out.size))
            have HMM8 : Hid (MemsM wz wc bm us ms) := Lib.hid (HMM.out.below HB8r.out)
            have HB8z : Hid (Below wz.heap.size wz wc) := Lib.hid (HBR.out.trans (HB8r.out.mono HBR.out.size))
            have hmi : m < ms.length := by have := HML.out; omega
            have k3 : wc.cell? ⟨bm, m, none⟩ = some vM := by rw [hvM]; exact HMM8.out.cell hmi
            have f3 : wc.frozen? ⟨bm, m, none⟩ = false := HMM8.out.blk.frozen m
            have k1 : wc.cell? ⟨g7, 1, none⟩ = some (.slice (some ⟨bm, 0, none⟩) b b) := HT8.out.cell 1
            have hlb := HMM8.out.blk.lt
            have hrow : Row wc 64 2 vM (ms.getD m []).length ((ms.getD m []).flatMap celC) := by rw [hvM]; exact HMM8.out.row m hmi
            obtain ⟨cs, hcs⟩ : ∃ cs, cs = ms.getD m [] := ⟨_, rfl⟩
            rw [← hcs] at hrow
            have hcl : cs.length ≤ 60000 := by rw [hcs]; have := HCLn.out m; omega
            have HOWN : Hid (∀ q, vM.ownBlock = some q → wz.heap.size ≤ q ∧ q ≠ bm) := Lib.hid fun q hq => HMM8.out.own m q hmi (by rw [← hvM]; exact hq)
            have HGV : Hid (¬ vM.ownBlock = some gc) := Lib.hid fun e => by
              have h1 := (HMM.out.row m hmi).lt gc (by rw [← hvM]; exact e)
              have h2 := HGC.out.2
              omega
            have HCS := Lib.hid hcs
            have HVM := Lib.hid hvM
            have HMI := Lib.hid hmi
            obtain ⟨W2, hW2⟩ : ∃ W2, W2 = wc.drew.alloc (.cells #[.int .u64 (a1 : Int), .int .u64 (x1 : Int)] 64) := ⟨_, rfl⟩
            have hB2 : Below wc.heap.size wc W2 := by rw [hW2]; exact ((Below.refl _ wc).drew).alloc (Nat.le_refl _) _
            have HBW2 := Lib.hid hB2
            have hrow2 : Row W2 64 2 vM cs.length (cs.flatMap celC) := hrow.chg (S := fun _ => False) (Chg.of_below hB2) (fun _ _ h => h)
            have hnew : ∀ j u, [Value.int .u64 (a1 : Int), .int .u64 (x1 : Int)][j]? = some u → W2.cell? ⟨wc.heap.size, 0 + j, none⟩ = some u := fun j u hj => by
              rw [hW2, Nat.zero_add]
              have := (Blk.new wc.drew 64 #[.int .u64 (a1 : Int), .int .u64 (x1 : Int)]).cell j
              rw [show wc.drew.heap.size = wc.heap.size from rfl] at this
              rw [this]
              simpa using hj
            have HROW2 := Lib.hid hrow2
            have HNEW := Lib.hid hnew
            have HW2b := Lib.hid hW2
            rw [hW2] at HROW2 HNEW
            have HSD : Hid (∀ W, Below wc.heap.size wc W → W.cell? ⟨g7, 1, none⟩ = some (.slice (some ⟨bm, 0, none⟩) b b) ∧ W.cell? ⟨gc, 0, none⟩ = some (.int .u64 (m : Int)) ∧ W.cell? ⟨gc, 1, none⟩ = some (.int .u64 (a1 : Int)) ∧ W.cell? ⟨gc, 2, none⟩ = some (.int .u64 (x1 : Int))) := Lib.hid fun W hW => ⟨cell_below k1 hW, HQ8.out W hW⟩
            have hgb : g7 ≠ bm := by have := HBM.out; have := HTz.out.lt; omega
            have hgcb : gc ≠ bm := by have h1 := HGC.out.2; have h2 := HMM.out.blk.lt; omega
            have hlgc : gc < W2.heap.size := Nat.lt_of_lt_of_le HGC.out.1 (Nat.le_trans HB8.out.size hB2.size)
            clear hvM hmi hrow hcs hB2 hrow2 hnew hW2
            go_wp2_with fail
            refine wp_region_held_drew (S := (fun w' => w'.cell? ⟨g7, 1, none⟩ = some (.slice (some ⟨bm, 0, none⟩) b b) ∧ w'.cell? ⟨gc, 0, none⟩ = some (.int .u64 (m : Int)) ∧ w'.cell? ⟨gc, 1, none⟩ = some (.int .u64 (a1 : Int)) ∧ w'.cell? ⟨gc, 2, none⟩ = some (.int .u64 (x1 : Int)))) (by kernel_rfl) ?_ (fun hHeld => ?_)
            · (try dsimp only) <;> exact HSD.out _ ((Below.refl _ wc).drew)
            refine wpAnyH_take (i := 0) (v := ?_) rfl (by kernel_rfl) (by kernel_rfl) (by kernel_rfl) (fun _ _ _ h => h) (Or.inl ⟨by rfl, ?_⟩) (by assumption) ?_
            rotate_left
            · (intro w hSw; (try dsimp only at hSw); go_simp; try with_reducible rfl)
            try simp only [Act.put, List.setIfInBounds_toArray, List.set_cons_zero, List.set_cons_succ]
            refine wpAnyH_take (i := 1) (v := ?_) rfl (by kernel_rfl) (by kernel_rfl) (by kernel_rfl) (fun _ _ _ h => h) (Or.inl ⟨by rfl, ?_⟩) (by assumption) ?_
            rotate_left
            · (intro w hSw; (try dsimp only at hSw); go_simp; try with_reducible rfl)
            try simp only [Act.put, List.setIfInBounds_toArray, List.set_cons_zero, List.set_cons_succ]
            refine wpAnyH_take (i := 2) (v := ?_) rfl (by kernel_rfl) (by kernel_rfl) (by kernel_rfl) (fun _ _ _ h => h) (Or.inl ⟨by rfl, ?_⟩) (by assumption) ?_
            rotate_left
            · (intro w hSw; (try dsimp only at hSw); go_simp; try with_reducible rfl)
            try simp only [Act.put, List.setIfInBounds_toArray, List.set_cons_zero, List.set_cons_succ]
            refine wpAnyH_take (i := 3) (v := ?_) rfl (by kernel_rfl) (by kernel_rfl) (by kernel_rfl) (fun _ _ _ h => h) (Or.inl ⟨by rfl, ?_⟩) (by assumption) ?_
            rotate_left
            · (intro w hSw; (try dsimp only at hSw); go_simp; try with_reducible rfl)
            try simp only [Act.put, List.setIfInBounds_toArray, List.set_cons_zero, List.set_cons_succ]
            refine wpAnyH_take (i := 4) (v := ?_) rfl (by kernel_rfl) (by kernel_rfl) (by kernel_rfl) (fun _ _ _ h => h) (Or.inl ⟨by rfl, ?_⟩) (by assumption) ?_
            rotate_left
            · (intro w hSw; (try dsimp only at hSw); go_simp; try with_reducible rfl)
            try simp only [Act.put, List.setIfInBounds_toArray, List.set_cons_zero, List.set_cons_succ]
            refine wpAnyH_take (i := 5) (v := ?_) rfl (by kernel_rfl) (by kernel_rfl) (by kernel_rfl) (fun _ _ _ h => h) (Or.inl ⟨by rfl, ?_⟩) (by assumption) ?_
            rotate_left
            · (intro w hSw; (try dsimp only at hSw); go_simp; try with_reducible rfl)
            try simp only [Act.put, List.setIfInBounds_toArray, List.set_cons_zero, List.set_cons_succ]
            refine wpAnyH_take (i := 6) (v := ?_) rfl (by kernel_rfl) (by kernel_rfl) (by kernel_rfl) (fun _ _ _ h => h) (Or.inl ⟨by rfl, ?_⟩) (by assumption) ?_
            rotate_left
            · (intro w hSw; (try dsimp only at hSw); go_simp; try with_reducible rfl)
            try simp only [Act.put, List.setIfInBounds_toArray, List.set_cons_zero, List.set_cons_succ]
            refine wpAnyH_take (i := 7) (v := ?_) rfl (by kernel_rfl) (by kernel_rfl) (by kernel_rfl) (fun _ _ _ h => h) (Or.inl ⟨by rfl, ?_⟩) (by assumption) ?_
            rotate_left
            · (intro w hSw; (try dsimp only at hSw); go_simp; try with_reducible rfl)
            try simp only [Act.put, List.setIfInBounds_toArray, List.set_cons_zero, List.set_cons_succ]
            refine wpAnyH_take (i := 8) (v := ?_) rfl (by kernel_rfl) (by kernel_rfl) (by kernel_rfl) (fun _ _ _ h => h) (Or.inl ⟨by rfl, ?_⟩) (by assumption) ?_
            rotate_left
            · (intro w hSw; (try dsimp only at hSw); go_simp; try with_reducible rfl)
            try simp only [Act.put, List.setIfInBounds_toArray, List.set_cons_zero, List.set_cons_succ]
            refine wpAnyH_take (i := 9) (v := ?_) rfl (by kernel_rfl) (by kernel_rfl) (by kernel_rfl) (fun _ _ _ h => h) (Or.inl ⟨by rfl, ?_⟩) (by assumption) ?_
            rotate_left
            · (intro w hSw; (try dsimp only at hSw); go_simp; try with_reducible rfl)
            try simp only [Act.put, List.setIfInBounds_toArray, List.set_cons_zero, List.set_cons_succ]
            refine wpAnyH_take (i := 10) (v := ?_) rfl (by kernel_rfl) (by kernel_rfl) (by kernel_rfl) (fun _ _ _ h => h) (Or.inl ⟨by rfl, ?_⟩) (by assumption) ?_
            rotate_left
            · (intro w hSw; (try dsimp only at hSw); go_simp; try with_reducible rfl)
            try simp only [Act.put, List.setIfInBounds_toArray, List.set_cons_zero, List.set_cons_succ]
            refine wpAnyH_take (i := 11) (v := ?_) rfl (by kernel_rfl) (by kernel_rfl) (by kernel_rfl) (fun _ _ _ h => h) (Or.inl ⟨by rfl, ?_⟩) (by assumption) ?_
            rotate_left
            · (intro w hSw; (try dsimp only at hSw); go_simp; try with_reducible rfl)
            try simp only [Act.put, List.setIfInBounds_toArray, List.set_cons_zero, List.set_cons_succ]
            refine wpAnyH_take (i := 12) (v := ?_) rfl (by kernel_rfl) (by kernel_rfl) (by kernel_rfl) (fun _ _ _ h => h) (Or.inl ⟨by rfl, ?_⟩) (by assumption) ?_
            rotate_left
            · (intro w hSw; (try dsimp only at hSw); go_simp; try with_reducible rfl)
            try simp only [Act.put, List.setIfInBounds_toArray, List.set_cons_zero, List.set_cons_succ]
            refine wpAnyH_take (i := 14) (v := ?_) rfl (by kernel_rfl) (by kernel_rfl) (by kernel_rfl) (fun _ _ _ h => h) (Or.inl ⟨by rfl, ?_⟩) (by assumption) ?_
            rotate_left
            · (intro w hSw; (try dsimp only at hSw); go_simp; try with_reducible rfl)
            try simp only [Act.put, List.setIfInBounds_toArray, List.set_cons_zero, List.set_cons_succ]
            refine wpAnyH_take (i := 15) (v := ?_) rfl (by kernel_rfl) (by kernel_rfl) (by kernel_rfl) (fun _ _ _ h => h) (Or.inl ⟨by rfl, ?_⟩) (by assumption) ?_
            rotate_left
            · (intro w hSw; (try dsimp only at hSw); go_simp; try with_reducible rfl)
            try simp only [Act.put, List.setIfInBounds_toArray, List.set_cons_zero, List.set_cons_succ]
            refine wpAnyH_take (i := 16) (v := ?_) rfl (by kernel_rfl) (by kernel_rfl) (by kernel_rfl) (fun _ _ _ h => h) (Or.inl ⟨by rfl, ?_⟩) (by assumption) ?_
            rotate_left
            · (intro w hSw; (try dsimp only at hSw); go_simp; try with_reducible rfl)
            try simp only [Act.put, List.setIfInBounds_toArray, List.set_cons_zero, List.set_cons_succ]
            refine wpAnyH_take (i := 17) (v := ?_) rfl (by kernel_rfl) (by kernel_rfl) (by kernel_rfl) (fun _ _ _ h => h) (Or.inl ⟨by rfl, ?_⟩) (by assumption) ?_
            rotate_left
            · (intro w hSw; (try dsimp only at hSw); go_simp; try with_reducible rfl)
            try simp only [Act.put, List.setIfInBounds_toArray, List.set_cons_zero, List.set_cons_succ]
            refine wpAnyH_take (i := 18) (v := ?_) rfl (by kernel_rfl) (by kernel_rfl) (by kernel_rfl) (fun _ _ _ h => h) (Or.inl ⟨by rfl, ?_⟩) (by assumption) ?_
            rotate_left
            · (intro w hSw; (try dsimp only at hSw); go_simp; try with_reducible rfl)
            try simp only [Act.put, List.setIfInBounds_toArray, List.set_cons_zero, List.set_cons_succ]
            refine wpAnyH_take (i := 19) (v := ?_) rfl (by kernel_rfl) (by kernel_rfl) (by kernel_rfl) (fun _ _ _ h => h) (Or.inl ⟨by rfl, ?_⟩) (by assumption) ?_
            rotate_left
            · (intro w hSw; (try dsimp only at hSw); go_simp; try with_reducible rfl)
            try simp only [Act.put, List.setIfInBounds_toArray, List.set_cons_zero, List.set_cons_succ]
            refine wpAnyH_take (i := 20) (v := ?_) rfl (by kernel_rfl) (by kernel_rfl) (by kernel_rfl) (fun _ _ _ h => h) (Or.inl ⟨by rfl, ?_⟩) (by assumption) ?_
            rotate_left
            · (intro w hSw; (try dsimp only at hSw); go_simp; try with_reducible rfl)
            try simp only [Act.put, List.setIfInBounds_toArray, List.set_cons_zero, List.set_cons_succ]
            refine wpAnyH_ready (rs := [13, 21]) (by kernel_rfl) (by simp) ?_
            refine AllReadyH.cons rfl (fun K hK => ?_) (AllReadyH.cons rfl (fun K hK => ?_) AllReadyH.nil)
            focus
              go_simp
              refine hK.out _ _ ?_ (fun hHeld => ?_)
              · exact HSD.out _ ((Below.refl _ wc).drew)
              clear hK K
              try simp only [Act.put, List.setIfInBounds_toArray, List.set_cons_zero, List.set_cons_succ]
              refine wpAnyH_ready (rs := [21]) (by kernel_rfl) (by simp) ?_
              refine AllReadyH.cons rfl (fun K hK => ?_) AllReadyH.nil
              go_simp
              skip
              refine hK.out _ _ ?_ (fun hHeld => ?_)
              · (try dsimp only) <;> exact HSD.out _ (((Below.refl _ wc).drew).alloc (Nat.le_refl _) _)
              clear hK K
              try simp only [Act.put, List.setIfInBounds_toArray, List.set_cons_zero, List.set_cons_succ]
            rotate_left
            focus
              go_simp
              refine hK.out _ _ ?_ (fun hHeld => ?_)
              · exact HSD.out _ (((Below.refl _ wc).drew).alloc (Nat.le_refl _) _)
              clear hK K
              try simp only [Act.put, List.setIfInBounds_toArray, List.set_cons_zero, List.set_cons_succ]
              refine wpAnyH_ready (rs := [13]) (by kernel_rfl) (by simp) ?_
              refine AllReadyH.cons rfl (fun K hK => ?_) AllReadyH.nil
              go_simp
              skip
              refine hK.out _ _ ?_ (fun hHeld => ?_)
              · (try dsimp only) <;> exact HSD.out _ (((Below.refl _ wc).drew).alloc (Nat.le_refl _) _)
              clear hK K
              try simp only [Act.put, List.setIfInBounds_toArray, List.set_cons_zero, List.set_cons_succ]
            all_goals
              refine wpAnyH_ready (rs := [22]) (by kernel_rfl) (by simp) ?_
              refine AllReadyH.cons rfl (fun K hK => ?_) AllReadyH.nil
              refine step_app rfl (.tmp 169) (.tmp 177) _ rfl 64 (.agg #[.int .u64 0, .int .u64 0]) 2 16 Tryz.underlying62 infoCE rfl (by decide) vM cs.length (cs.flatMap celC) rfl ?ho wc.heap.size 0 1 1 [.int .u64 (a1 : Int), .int .u64 (x1 : Int)] rfl rfl ?hn ?hs ?c1 ?c2 ?_
              case ho => exact HROW2.out
              case hn => exact HNEW.out
              case hs => (intro u hu; simp at hu; rcases hu with rfl | rfl <;> rfl)
              case c1 => unfold maxLen; omega
              case c2 => omega
              intro v9 wB hpF
              have hpG : AppPost W2 64 2 vM (cs.length + 1) (cs.flatMap celC ++ [Value.int .u64 (a1 : Int), .int .u64 (x1 : Int)]) v9 wB := by rw [HW2b.out]; exact hpF
              have HPG := Lib.hid hpG
              obtain ⟨gv, cv, rfl, -, -, -⟩ := hpF.1.some_ (by omega)
              have hcB : Chg (fun k => vM.ownBlock = some k) W2 wB := hpG.2.1
              have kB1 : wB.cell? ⟨g7, 1, none⟩ = some (.slice (some ⟨bm, 0, none⟩) b b) := ((HT8.out.below HBW2.out HT8.out.lt).chg hcB (fun e => by have := (HOWN.out g7 e).1; have := HTz.out.lt; omega)).cell 1
              have fB3 : wB.frozen? ⟨bm, m, none⟩ = false := ((HMM8.out.below HBW2.out).blk.chg hcB (fun e => (HOWN.out bm e).2 rfl)).frozen m
              have kB3 : wB.cell? ⟨bm, m, none⟩ = some vM := by
                have := (HMM8.out.below HBW2.out).blk.chg hcB (fun e => (HOWN.out bm e).2 rfl)
                rw [this.cell m, ← (HMM8.out.below HBW2.out).blk.cell m, (HMM8.out.below HBW2.out).cell HMI.out, HVM.out]
              have hkB : ∀ j u, wc.cell? ⟨gc, j, none⟩ = some u → wB.cell? ⟨gc, j, none⟩ = some u := fun j u hu => by
                rw [World.cell?_of_block (w := W2) (hcB.block gc hlgc (HGV.out))]
                exact cell_below hu HBW2.out
              have kBc0 := hkB 0 _ q0
              have kBc1 := hkB 1 _ q1
              have kBc2 := hkB 2 _ q2
              clear hpF hpG hcB hkB
              refine hK.out _ _ ?_ (fun hHeld => ?_)
              · exact ⟨kB1, kBc0, kBc1, kBc2⟩
              clear hK K
              try simp only [Act.put, List.setIfInBounds_toArray, List.set_cons_zero, List.set_cons_succ]
              refine wpAnyH_take (i := 23) (v := ?_) rfl (by kernel_rfl) (by kernel_rfl) (by kernel_rfl) (fun _ _ _ h => h) (Or.inl ⟨by rfl, ?_⟩) (by assumption) ?_
              rotate_left
              · (intro w hSw; (try dsimp only at hSw); go_simp; try with_reducible rfl)
              try simp only [Act.put, List.setIfInBounds_toArray, List.set_cons_zero, List.set_cons_succ]
              refine wpAnyH_ready (rs := [24]) (by kernel_rfl) (by simp) ?_
              refine AllReadyH.cons rfl (fun K hK => ?_) AllReadyH.nil
              go_simp
              skip
              refine hK.out _ _ ?_ (fun hHeld => ?_)
              · (try dsimp only) <;> exact ⟨far_cell kB1 hgb, far_cell kBc0 hgcb, far_cell kBc1 hgcb, far_cell kBc2 hgcb⟩
              clear hK K
              try simp only [Act.put, List.setIfInBounds_toArray, List.set_cons_zero, List.set_cons_succ]
              refine wpAnyH_done (by kernel_rfl) ?_ _
            all_goals
              clear k1 k3 f3 kB1 kB3 fB3 kBc0 kBc1 kBc2 hgb hgcb hlgc q0 q1 q2
              have hST9 := CelJ.step (i := i) (a1 := a1) (x1 := x1) HBM.out HP7.out hrl HRL.out HNX.out.2.2 HMM8.out HML.out HMI.out HWF.out HCLn.out HB8z.out HBW2.out HWA1.out HWX1.out (by rw [← HCS.out, ← HVM.out]; exact HPG.out)
              have HST9 := Lib.hid hST9
              have HL9 := Lib.hid (HLINE.out _ r' (i + 1) (HCz.out.trans (Chg.of_below (S := fun k => k = g7) hST9.choose_spec.choose_spec.2.2.2.2.2.2.2) (fun i hi => .inl hi)) HNX.out.2.2)
              have zi : IntKind.i64.wrap ((i : Int) + 1) = (i : Int) + 1 := IntWalk.i64_in _ (by omega)
              rw [show ((i + 1 : Nat) : Int) = (i : Int) + 1 by omega] at HL9
              clear hST9
              go_wp2_with fail
              refine HL9.out.mono ?_
              rintro e w9 ⟨rfl, rfl⟩
              go_wp2
              go_roundw
              case rel => exact ⟨i + 1, r', _, m, by go_num, rfl, rfl, rfl, rfl, by omega, HST9.out⟩
              case measure => simp [intOf]; omega
        · have HPB : Hid (P = .bad (i + 1)) := Lib.hid (by rw [HST.out, if_neg hmb])
          have hx : b ≤ m := by omega
          clear hmb HST
          go_wp2_with fail
          go_quiet (fail)
          rename_i nq
          obtain ⟨w9, hw9⟩ : ∃ w9, w9 = w6b.drewN nq := ⟨_, rfl⟩
          rw [← hw9]
          have hC9 : Chg (fun k => k = g7) w2 w9 := by rw [hw9]; exact HC8.out.trans (Chg.of_below (S := fun k => k = g7) (below_drewN (Below.refl _ w6b) nq)) (fun i hi => .inl hi)
          have HF := Lib.hid (HFB.out w9 (i + 1) ((i : Int) + 1) hC9 HPB.out rfl)
          obtain ⟨⟨c0, c1, c2, c3⟩, ⟨f0, f1, f2, f3⟩, s0, s1, s2, s3⟩ := HZ2.out w9 hC9
          clear hC9 hw9
          go_upto_region 25 with (fail)
          repeat go_step
          try simp only [Exit.inBlock, Exit.then]
          exact bodyPost_ret (v := .tuple #[.agg #[.slice none 0 0, .slice none 0 0, .slice none 0 0, .int .i64 0], .int .i64 ((i : Int) + 1), .int .i64 2]) (by simp [results, Tryz.results7, go_sem, c0, c1, c2, c3]) rfl HF.out
    · have HP7 : Hid (P = cycF v ms ord rest.length [] rest (i + 1)) := Lib.hid (by rw [HPR.out, HSTEP.out, if_neg hbeg])
      have hbf : beginsT (wCell ++ [32]) (peekT rest) = false := Bool.eq_false_iff.2 hbeg
      rw [hbf] at HBG
      have HMT : Hid (∀ b9, b9 = (cutT rest).isSome → CutJ wz bm P s v b (.int .i64 (i : Nat)) (.string (bs (peekT rest))) (.bool b9) (.bool ord) wr) := Lib.hid fun b9 h9 => ⟨i, rest, ord, us, ms, rfl, rfl, by rw [h9], rfl, HP7.out, HRR.out, hrl, HMM.out, HML.out, HWF.out, HBR.out⟩
      obtain ⟨b9, h9⟩ : ∃ b, b = (cutT rest).isSome := ⟨_, rfl⟩
      have HM9 := Lib.hid (HMT.out b9 h9)
      rw [← h9]
      obtain ⟨px2, hpx2⟩ : ∃ px, px = bs (peekT rest) := ⟨_, rfl⟩
      rw [← hpx2] at HBG HM9 ⊢
      clear h9 hbeg hbf HSTEP hpx2 HMT
      cases b9 with
      | false =>
        go_wp2_with fail
        go_meet
        exact HM9.out
      | true =>
        go_wp2_with fail
        refine (HBG.out _).mono ?_
        rintro e wr' ⟨rfl, rfl⟩
        go_wp2_with fail
        go_meet
        exact HM9.out
end Go.Proofs.YtibinmabdidecaaGreatDoor
