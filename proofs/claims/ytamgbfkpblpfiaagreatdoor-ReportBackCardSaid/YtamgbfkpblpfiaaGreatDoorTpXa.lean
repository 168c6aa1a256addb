/-
  The document's lines of a text, against what is left of it.
-/
import Derived.Test.YtamgbfkpblpfiaaGreatDoorTpT
import Derived.Deep.CutBlock
import Derived.Deep.DeepCutAuto
namespace Go.Proofs.YtamgbfkpblpfiaaGreatDoor
open Go.ChangeShapes Go.WideShapes Go.ChangeAt Go.RowKit
set_option linter.unusedVariables false
set_option linter.unusedSimpArgs false
/-- What is left behind i lines. -/
def RelL (s rest : List UInt8) (i : Nat) : Prop := linesF rest = ((linesF s).1.drop i, (linesF s).2) ∧ i ≤ (linesF s).1.length
theorem RelL.start (s : List UInt8) : RelL s s 0 := ⟨rfl, Nat.zero_le _⟩
theorem RelL.next {s rest a r : List UInt8} {i : Nat} (h : RelL s rest i) (hc : cutT rest = some (a, r)) : i < (linesF s).1.length ∧ (linesF s).1.getD i [] = a ∧ RelL s r (i + 1) := by
  have := cut_lines rest
  rw [hc] at this
  simp only at this
  rw [h.1] at this
  injection this with h1 h2
  have hi : i < (linesF s).1.length := by
    have := congrArg List.length h1
    simp at this
    omega
  rw [List.drop_eq_getElem_cons hi] at h1
  injection h1 with h3 h4
  exact ⟨hi, by rw [List.getD_eq_getElem?_getD, List.getElem?_eq_getElem hi]; exact h3, by rw [← Prod.eta (linesF r)]; rw [← h4, ← h2], by omega⟩
theorem RelL.stop_ {s rest : List UInt8} {i : Nat} (h : RelL s rest i) (hc : cutT rest = none) : i = (linesF s).1.length ∧ (linesF s).2 = rest := by
  have := cut_lines rest
  rw [hc] at this
  simp only at this
  rw [h.1] at this
  injection this with h1 h2
  have := congrArg List.length h1
  simp at this
  exact ⟨by have := h.2; omega, h2⟩
theorem RelL.at_ {s rest : List UInt8} {i : Nat} (h : RelL s rest i) : lineAt (linesT s).1 (linesT s).2 i = (cutT rest).map (·.1) := by
  unfold lineAt linesT
  cases hc : cutT rest with
  | none =>
    obtain ⟨h1, h2⟩ := h.stop_ hc
    by_cases ht : (linesF s).2 = []
    · rw [if_pos ht, if_pos (.inl (by simp only; omega))]
      rfl
    · rw [if_neg ht, if_pos (.inr ⟨rfl, by simp only [List.length_append, List.length_singleton]; omega⟩)]
      rfl
  | some q =>
    obtain ⟨a, r⟩ := q
    obtain ⟨h1, h2, -⟩ := h.next hc
    by_cases ht : (linesF s).2 = []
    · rw [if_pos ht, if_neg (by rintro (h | ⟨h, -⟩); simp only at h; omega; cases h)]
      simp only [h2, Option.map_some]
    · rw [if_neg ht, if_neg (by rintro (h | ⟨-, h⟩) <;> simp only [List.length_append, List.length_singleton] at h <;> omega)]
      simp only [Option.map_some, Option.some.injEq]
      rw [getD_snocG, if_pos h1, h2]
theorem RelL.end_ {s rest : List UInt8} {i : Nat} (h : RelL s rest i) : i < (linesT s).1.length ↔ rest ≠ [] := by
  unfold linesT
  cases hc : cutT rest with
  | none =>
    obtain ⟨h1, h2⟩ := h.stop_ hc
    by_cases ht : (linesF s).2 = []
    · rw [if_pos ht]
      simp only
      rw [← h2, ht, h1]
      simp
    · rw [if_neg ht, ← h2]
      simp only [List.length_append, List.length_singleton]
      exact ⟨fun _ => ht, fun _ => by omega⟩
  | some q =>
    obtain ⟨a, r⟩ := q
    obtain ⟨h1, h2, -⟩ := h.next hc
    have hne : rest ≠ [] := fun e => by rw [e] at hc; simp [cutT] at hc
    refine ⟨fun _ => hne, fun _ => ?_⟩
    split
    · exact h1
    · simp only [List.length_append]; omega
theorem RelL.le {s rest : List UInt8} {i : Nat} (h : RelL s rest i) : i ≤ s.length := Nat.le_trans h.2 (linesF_size s).1
theorem peek_map (rest : List UInt8) : ((cutT rest).map (·.1)).getD [] = peekT rest := by
  unfold peekT
  cases cutT rest with
  | none => rfl
  | some q => rfl
theorem linesT_len (s : List UInt8) : (linesT s).1.length ≤ s.length + 1 := by
  have := (linesF_size s).1
  unfold linesT
  split
  · simp only; omega
  · simp only [List.length_append, List.length_singleton]; omega
theorem lineR_ {w W : World} {u : Value} {s rest : List UInt8} {i : Nat} (h : OwnG KS w W u (linesT s).1) (hR : RelL s rest i) (hl : s.length ≤ 50000) :
    Calls Tryz.prog 57 #[u, .bool (linesT s).2, .int .i64 (i : Int)] W fun e w' => e = .returned (.tuple #[.string (bs (peekT rest)), .bool (cutT rest).isSome]) ∧ W = w' := by
  have := r15_line h (linesT s).2 i (by have := hR.le; omega) (by have := linesT_len s; omega)
  rw [hR.at_, peek_map, Option.isSome_map] at this
  exact this
/-- A line of numbers, there or not. -/
theorem numsR_cut {word : List UInt8} {most : List Nat} {rest a r : List UInt8} (h : cutT rest = some (a, r)) : numsR word most rest = match numsT word most a with | some l => some (l, r) | none => none := by
  rw [numsR_eq, h]
  rfl
theorem numsR_none {word : List UInt8} {most : List Nat} {rest : List UInt8} (h : cutT rest = none) : numsR word most rest = none := by rw [numsR_eq, h]
theorem boolsR_cut {word : List UInt8} {rest a r : List UInt8} (h : cutT rest = some (a, r)) : boolsR word rest = match boolsT word a with | some l => some (l, r) | none => none := by
  rw [boolsR_eq, h]
  rfl
theorem boolsR_none {word : List UInt8} {rest : List UInt8} (h : cutT rest = none) : boolsR word rest = none := by rw [boolsR_eq, h]
theorem peek_cut {rest a r : List UInt8} (h : cutT rest = some (a, r)) : peekT rest = a := by unfold peekT; rw [h]
theorem numsT_peek {word : List UInt8} {most : List Nat} {rest : List UInt8} (h : numsR word most rest = none) (hw : word ≠ []) : numsT word most (peekT rest) = none := by
  cases hc : cutT rest with
  | none =>
    unfold peekT numsT
    rw [hc]
    simp only [wordsT]
    rw [if_neg (fun h => hw h.1.symm)]
  | some q =>
    obtain ⟨a, r⟩ := q
    rw [numsR_cut hc] at h
    rw [show peekT rest = a by unfold peekT; rw [hc]]
    cases hn : numsT word most a with
    | none => rfl
    | some l => rw [hn] at h; simp at h
theorem numsR_parts {word : List UInt8} {most : List Nat} {rest r : List UInt8} {ns : List Nat} (h : numsR word most rest = some (ns, r)) : cutT rest = some (peekT rest, r) ∧ numsT word most (peekT rest) = some ns := by
  cases hc : cutT rest with
  | none => rw [numsR_eq, hc] at h; simp at h
  | some q =>
    obtain ⟨a, r'⟩ := q
    rw [numsR_cut hc] at h
    rw [show peekT rest = a by unfold peekT; rw [hc]]
    cases hn : numsT word most a with
    | none => rw [hn] at h; simp at h
    | some l =>
      rw [hn] at h
      simp only at h
      injection h with h
      injection h with h1 h2
      subst h1 h2
      exact ⟨rfl, rfl⟩
theorem peek_none {rest : List UInt8} (h : cutT rest = none) : peekT rest = [] := by unfold peekT; rw [h]
end Go.Proofs.YtamgbfkpblpfiaaGreatDoor
/-
  The document's Parse of a witness: the cells' lines.
-/
namespace Go.Proofs.YtamgbfkpblpfiaaGreatDoor
open Go.ChangeShapes Go.WideShapes Go.ChangeAt Go.RowKit
set_option linter.unusedVariables false
set_option linter.unusedSimpArgs false
/-- The numbers in a slice of the call's own, in any later world. -/
theorem nums_cells {w w' : World} {u : Value} {ns : List Nat} (h : OwnG KU w w' u ns) (hn : 0 < ns.length) : ∃ g cap, u = .slice (some ⟨g, 0, none⟩) ns.length cap ∧ w.heap.size ≤ g ∧ g < w'.heap.size ∧ ∀ j, j < ns.length → w'.cell? ⟨g, j, none⟩ = some (.int .u64 ((ns.getD j 0 : Nat) : Int)) := by
  obtain ⟨g, cap, e, -, h1, h2⟩ := h.cell 0 hn
  refine ⟨g, cap, e, h1, h2, fun j hj => ?_⟩
  obtain ⟨g', cap', e', hc, -, -⟩ := h.cell 0 hj
  rw [e] at e'
  injection e' with e1 e2 e3
  injection e1 with e1
  injection e1 with e1
  subst e1
  exact hc
/-- What stands when so many cells were read. -/
def CelJ (wz : World) (bm : Nat) (P : PRes) (s : List UInt8) (lat : List Bool) (b : Nat) (i : Nat) (rest : List UInt8) (ord : Bool) (last : Nat) (wr : World) : Prop := ∃ us ms,
  P = celF lat b rest.length ms last ord rest (i + 1) ∧ RelL s rest i ∧ rest.length ≤ 50000 ∧ MemsM wz wr bm us ms ∧ ms.length = b ∧
  (∀ m ∈ ms, ∀ p ∈ m, wf p.1 ∧ wf p.2) ∧ (∀ i, (ms.getD i []).length + rest.length ≤ 60000) ∧ Below wz.heap.size wz wr
/-- What stands behind the cells. -/
def CutJ (wz : World) (bm : Nat) (P : PRes) (s : List UInt8) (lat : List Bool) (b : Nat) (a x t o : Value) (wx : World) : Prop := ∃ i rest ord us ms,
  a = .int .i64 (i : Nat) ∧ x = .string (bs (peekT rest)) ∧ t = .bool (cutT rest).isSome ∧ o = .bool ord ∧
  P = cycF lat ms ord rest.length [] rest (i + 1) ∧ RelL s rest i ∧ rest.length ≤ 50000 ∧ MemsM wz wx bm us ms ∧ ms.length = b ∧ (∀ m ∈ ms, ∀ p ∈ m, wf p.1 ∧ wf p.2) ∧ Below wz.heap.size wz wx
theorem begins_some {w rest : List UInt8} (h : beginsT (w ++ [32]) (peekT rest) = true) : ∃ r, cutT rest = some (peekT rest, r) := by
  cases hc : cutT rest with
  | none => rw [peek_none hc, begins_nil] at h; cases h
  | some q =>
    obtain ⟨a, r⟩ := q
    rw [peek_cut hc]
    exact ⟨r, rfl⟩
theorem CelJ.step {wz w7 W2 wB : World} {bm b m i a1 x1 : Nat} {P : PRes} {s : List UInt8} {lat : List Bool} {v9 : Value} {us : List Value} {ms : List CS} {rest r' : List UInt8} {ord : Bool}
    (hbm : bm = wz.heap.size) (hP : P = celF lat b r'.length (ms.set m (ms.getD m [] ++ [((a1 : Int), (x1 : Int))])) m ord r' (i + 1 + 1))
    (hn : rest.length ≤ 50000) (hl : r'.length < rest.length) (hR : RelL s r' (i + 1))
    (hM : MemsM wz w7 bm us ms) (hml : ms.length = b) (hm : m < ms.length) (hwf : ∀ m ∈ ms, ∀ p ∈ m, wf p.1 ∧ wf p.2) (hcl : ∀ i, (ms.getD i []).length + rest.length ≤ 60000)
    (hC : Below wz.heap.size wz w7) (hB : Below w7.heap.size w7 W2) (wa : wf (a1 : Int)) (wx : wf (x1 : Int))
    (hp : AppPost W2 121 2 (us.getD m undef) ((ms.getD m []).length + 1) ((ms.getD m []).flatMap celC ++ [Value.int .u64 (a1 : Int), .int .u64 (x1 : Int)]) v9 wB) :
    CelJ wz bm P s lat b (i + 1) r' ord m (wB.setCell ⟨bm, m, none⟩ v9) := by
  have hM2 := hM.below hB
  have hz2 : wz.heap.size ≤ W2.heap.size := Nat.le_trans hC.size hB.size
  have hA := hM2.app hm ((a1 : Int), (x1 : Int)) hz2 hM2.blk.lt hp
  have hown : ∀ q, (us.getD m undef).ownBlock = some q → wz.heap.size ≤ q ∧ q ≠ bm := fun q hq => hM.own m q hm hq
  have hcB := hp.2.1
  have hb2 : Below wz.heap.size wz wB := (hC.trans (hB.mono hC.size)).trans (hcB.below hz2 (fun k hk => (hown k hk).1))
  refine ⟨_, _, hP, hR, by omega, hA, by rw [List.length_set]; exact hml, fun l hl' p hp' => ?_, fun i => ?_, hb2.setCell (by simp only; omega) _⟩
  · rcases List.mem_or_eq_of_mem_set hl' with h | h
    · exact hwf l h p hp'
    · subst h
      rcases List.mem_append.1 hp' with h | h
      · rw [List.getD_eq_getElem?_getD, List.getElem?_eq_getElem hm] at h
        exact hwf _ (List.getElem_mem hm) p h
      · rw [List.mem_singleton.1 h]
        exact ⟨wa, wx⟩
  · rw [getD_setG _ _ _ _ _ hm]
    have h1 := hcl i
    have h2 := hcl m
    split
    · rw [List.length_append, List.length_singleton]; omega
    · omega
/-- What stands when so many cycles were read. -/
def CycJ (wp : World) (g7 bm : Nat) (P : PRes) (s : List UInt8) (lat : List Bool) (vl : Value) (b : Nat) (ms : List CS) (ord : Bool) (i : Nat) (rest : List UInt8) (wr : World) : Prop := ∃ vi us ls,
  P = cycF lat ms ord rest.length ls rest (i + 1) ∧ RelL s rest i ∧ Blk wr g7 30 #[vl, .slice (some ⟨bm, 0, none⟩) b b, vi, .int .i64 0] ∧ InsM wp wr vi us ls ∧ ls.length + rest.length ≤ 60000 ∧ Chg (fun k => k = g7) wp wr
/-- What stands behind the cycles. -/
def CutK (wp : World) (g7 bm : Nat) (P : PRes) (s : List UInt8) (lat : List Bool) (vl : Value) (b : Nat) (ms : List CS) (ord : Bool) (a x t : Value) (wx : World) : Prop := ∃ i rest vi us ls,
  a = .int .i64 (i : Nat) ∧ x = .string (bs (peekT rest)) ∧ t = .bool (cutT rest).isSome ∧ P = finT lat ms ord ls rest (i + 1) ∧ RelL s rest i ∧ rest.length ≤ 60000 ∧
  Blk wx g7 30 #[vl, .slice (some ⟨bm, 0, none⟩) b b, vi, .int .i64 0] ∧ InsM wp wx vi us ls ∧ Chg (fun k => k = g7) wp wx
theorem CycJ.step {wp w6 W2 wB : World} {g7 bm b i : Nat} {P : PRes} {s : List UInt8} {lat l : List Bool} {vl vi v' u : Value} {us : List Value} {ms : List CS} {ls : List (List Bool)} {rest r' : List UInt8} {ord : Bool}
    (hg : g7 < wp.heap.size) (hP : P = cycF lat ms ord r'.length (ls ++ [l]) r' (i + 1 + 1)) (hl : r'.length < rest.length) (hls : ls.length + rest.length ≤ 60000) (hR : RelL s r' (i + 1))
    (hT : Blk w6 g7 30 #[vl, .slice (some ⟨bm, 0, none⟩) b b, vi, .int .i64 0]) (hI : InsM wp w6 vi us ls) (hu : Row w6 4 1 u l.length (l.map Value.bool)) (hs : u.oneCell' = true)
    (hlo : ∀ q, u.ownBlock = some q → wp.heap.size ≤ q ∧ vi.ownBlock ≠ some q) (hC : Chg (fun k => k = g7) wp w6) (hB : Below w6.heap.size w6 W2) (hp : AppPost W2 24 1 vi (us.length + 1) (us ++ [u]) v' wB) :
    CycJ wp g7 bm P s lat vl b ms ord (i + 1) r' (wB.setCell ⟨g7, 2, none⟩ v') ∧ Chg (fun k => k = g7) wp (wB.setCell ⟨g7, 2, none⟩ v') := by
  have hz2 : wp.heap.size ≤ W2.heap.size := Nat.le_trans hC.size hB.size
  have hI2 : InsM wp W2 vi us ls := hI.chg (S := fun _ => False) (Chg.of_below hB) (fun _ h => h.elim)
  have hA := hI2.app (hu.chg (S := fun _ => False) (Chg.of_below hB) (fun _ _ h => h)) hs hz2 hlo hp
  have hcB := hp.2.1
  have hcS : Chg (fun k => k = g7) wB (wB.setCell ⟨g7, 2, none⟩ v') := (Chg.refl (fun k => k = g7) wB).setCell (p := ⟨g7, 2, none⟩) (.inl rfl) _
  have hc : Chg (fun k => k = g7) wp (wB.setCell ⟨g7, 2, none⟩ v') := ((hC.trans (Chg.of_below (S := fun k => k = g7) hB) (fun i hi => .inl hi)).trans hcB (fun i hi => .inr (hI.own i hi))).trans hcS (fun i hi => .inl hi)
  refine ⟨⟨v', _, _, hP, hR, ?_, hA.chg hcS (fun k hk => by omega), by rw [List.length_append, List.length_singleton]; omega, hc⟩, hc⟩
  have := ((hT.below hB hT.lt).chg hcB (fun e => by have := hI.own g7 e; omega)).set_ 2 v'
  exact this
theorem cyc_word {rest r : List UInt8} (hb : beginsT (wCyc ++ [32]) (peekT rest) = true) (hc : cutT rest = some (peekT rest, r)) : ∃ y, peekT rest = wCyc ++ 32 :: y ∧ boolsR wCyc rest = match truthsP y with | some l => some (l, r) | none => none := by
  obtain ⟨y, hy⟩ := begins_inv hb
  refine ⟨y, hy, ?_⟩
  rw [boolsR_cut hc, hy, boolsT_begins (by decide)]
  all_goals (cases truthsP y <;> rfl)
/-- The statement of a number in a function's text. -/
def findBlk (n : Nat) : Code → Option Code
  | .block m c => if m = n then some (.block m c) else findBlk n c
  | .loop c => findBlk n c
  | .scope c => findBlk n c
  | .seq a b => match findBlk n a with
    | some c => some c
    | none => findBlk n b
  | .cond _ a b => match findBlk n a with
    | some c => some c
    | none => findBlk n b
  | _ => none
noncomputable def blkOf (f : Func) (n : Nat) : Code := (f.body.bind (findBlk n)).getD .skip
set_option maxHeartbeats 8000000 in
set_option maxRecDepth 100000 in
/-- The cells' lines. -/
theorem cells_loop {w w2 w7 wz : World} {g g7 gn capn bm b a LN cap5 cl : Nat} {A5 al : Option Addr} {LB : Bool} {P : PRes} {s r2 : List UInt8} {v : List Bool} {J K : Act → World → Prop} {y0 y1 y3 y4 y12 y13 y14 y17 y18 y19 y20 y21 y22 y23 y24 y25 y26 y27 y28 y29 y30 y31 y32 y33 y34 y35 y36 y37 y38 y39 y40 y41 y42 y43 y44 y45 y46 y47 y48 y49 y50 y51 y52 y53 y54 y55 y56 y57 y58 y59 y60 y61 y62 y63 y64 y65 y66 y67 y68 y69 y70 y71 y72 y73 y74 y75 y76 y77 y78 y79 y80 y81 y82 y83 y84 y85 y86 y87 y88 y89 y90 y91 y92 y93 y94 y95 y96 y97 y98 y99 y100 y101 y102 y103 y104 y105 y106 y107 y108 y109 y110 y111 y112 y113 y114 y115 y116 y117 y118 y119 y120 y121 y122 y123 y124 y125 y126 y127 y128 y129 y130 y131 y132 y133 y134 y135 y136 y137 y138 y139 y140 y141 y142 y143 y144 y145 y146 y147 y148 y149 y150 y151 y152 y153 y154 y155 y156 y157 y158 y159 y160 y161 y162 y163 y164 y165 y166 y167 y168 y169 y170 y171 y172 y173 y174 y175 y176 y177 y178 y179 y180 y181 y182 y183 y184 y185 y186 y187 y188 y189 y190 y191 y192 y193 y194 y195 y196 y197 y198 y199 y200 y201 y202 y203 y204 y205 y206 y207 y208 y209 y210 y211 y212 y213 y214 y215 y216 y217 y218 y219 y220 y221 y222 y223 y224 y225 y226 y227 y228 y229 y230 y231 y232 y233 y234 y235 y236 y237 y238 y239 y240 y241 y242 y243 y244 y245 y246 y247 y248 y249 y250 y251 y252 y253 y254 y255 y256 y257 y258 y259 y260 y261 y262 y263 y264 : Value}
    (hl : s.length ≤ 50000) (hLN9 : LN ≤ 50001) (hb4 : b ≤ 4) (HLN : Hid (LN = (linesT s).1.length))
    (HLINE : Hid (∀ (W : World) (rest : List UInt8) (i : Nat), Chg (fun k => k = g7) w2 W → RelL s rest i → Calls Tryz.prog 57 #[.slice A5 LN cap5, .bool LB, .int .i64 (i : Nat)] W fun e w' => e = .returned (.tuple #[.string (bs (peekT rest)), .bool (cutT rest).isSome]) ∧ W = w'))
    (HFB : Hid (∀ (W : World) (n : Nat) (z : Int), Chg (fun k => k = g7) w2 W → P = .bad n → z = ((n : Nat) : Int) → ParseV w P (.returned (.tuple #[.agg #[.slice none 0 0, .slice none 0 0, .slice none 0 0, .int .i64 0], .int .i64 z, .int .i64 2])) W))
    (HZ2 : Hid (∀ W : World, Chg (fun k => k = g7) w2 W → (W.cell? ⟨g, 0, none⟩ = some (.slice none 0 0) ∧ W.cell? ⟨g, 1, none⟩ = some (.slice none 0 0) ∧ W.cell? ⟨g, 2, none⟩ = some (.slice none 0 0) ∧ W.cell? ⟨g, 3, none⟩ = some (.int .i64 0)) ∧ (W.frozen? ⟨g, 0, none⟩ = false ∧ W.frozen? ⟨g, 1, none⟩ = false ∧ W.frozen? ⟨g, 2, none⟩ = false ∧ W.frozen? ⟨g, 3, none⟩ = false) ∧ (W.setCell ⟨g, 0, none⟩ (.slice none 0 0) = W ∧ W.setCell ⟨g, 1, none⟩ (.slice none 0 0) = W ∧ W.setCell ⟨g, 2, none⟩ (.slice none 0 0) = W ∧ W.setCell ⟨g, 3, none⟩ (.int .i64 0) = W)))
    (HTz : Hid (Blk wz g7 30 #[.slice al v.length cl, .slice (some ⟨bm, 0, none⟩) b b, .slice none 0 0, .int .i64 0]))
    (HKz : Hid (wz.cell? ⟨gn, 0, none⟩ = some (.int .u64 (a : Int)) ∧ wz.cell? ⟨gn, 1, none⟩ = some (.int .u64 (b : Int)) ∧ gn < wz.heap.size))
    (HCz : Hid (Chg (fun k => k = g7) w2 wz)) (HBM : Hid (bm = wz.heap.size)) (HI7 : Hid (CelJ wz bm P s v b 2 r2 true 0 w7))
    (hJ : ∀ (a' : Act) (w' : World), (∃ u3 u4 u8 u9 u10 u15 u16 u17 u18 u113 u114 u115 u116 u117 u118 u119 u120 u121 u122 u123 u124 u125 u126 u127 u128 u129 u130 u131 u132 u133 u134 u135 u136 u137 u138 u139 u140 u141 u142 u143 u144 u145 u146 u147 u148 u149 u150 u151 u152 u153 u154 u155 u156 u157 u158 u159 u160 u161 u162 u163 u164 u165 u166 u167 u168 u169 u170 u171 u172 u173 u174 u175 u176 u177 u178 u179 u180 u181 : Value, CutJ wz bm P s v b u8 u9 u10 u15 w' ∧ a' = ⟨#[y0, y1, .pointer (some ⟨g, 0, none⟩), u3, u4, .slice A5 LN cap5, .bool LB, .pointer (some ⟨g7, 0, none⟩), u8, u9, u10, .slice (some ⟨gn, 0, none⟩) 2 capn, y12, y13, y14, u15, u16, u17, u18, y19, y20, y21, y22, y23, y24, y25, y26, y27, y28, y29, y30, y31, y32, y33, y34, y35, y36, y37, y38, y39, y40, y41, y42, y43, y44, y45, y46, y47, y48, y49, y50, y51, y52, y53, y54, y55, y56, y57, y58, y59, y60, y61, y62, y63, y64, y65, y66, y67, y68, y69, y70, y71, y72, y73, y74, y75, y76, y77, y78, y79, y80, y81, y82, y83, y84, y85, y86, y87, y88, y89, y90, y91, y92, y93, y94, y95, y96, y97, y98, y99, y100, y101, y102, y103, y104, y105, y106, y107, y108, y109, y110, y111, y112, u113, u114, u115, u116, u117, u118, u119, u120, u121, u122, u123, u124, u125, u126, u127, u128, u129, u130, u131, u132, u133, u134, u135, u136, u137, u138, u139, u140, u141, u142, u143, u144, u145, u146, u147, u148, u149, u150, u151, u152, u153, u154, u155, u156, u157, u158, u159, u160, u161, u162, u163, u164, u165, u166, u167, u168, u169, u170, u171, u172, u173, u174, u175, u176, u177, u178, u179, u180, u181, y182, y183, y184, y185, y186, y187, y188, y189, y190, y191, y192, y193, y194, y195, y196, y197, y198, y199, y200, y201, y202, y203, y204, y205, y206, y207, y208, y209, y210, y211, y212, y213, y214, y215, y216, y217, y218, y219, y220, y221, y222, y223, y224, y225, y226, y227, y228, y229, y230, y231, y232, y233, y234, y235, y236, y237, y238, y239, y240, y241, y242, y243, y244, y245, y246, y247, y248, y249, y250, y251, y252, y253, y254, y255, y256, y257, y258, y259, y260, y261, y262, y263, y264], []⟩) → J a' w')
    (hK : ∀ (a' : Act) (w' : World), Met J a' w' → K a' w') :
    (blkOf Tryz.f25 0).wp Tryz.prog (Exit.then K (bodyPost Tryz.prog Tryz.f25 (ParseV w P))) ⟨#[y0, y1, .pointer (some ⟨g, 0, none⟩), y3, y4, .slice A5 LN cap5, .bool LB, .pointer (some ⟨g7, 0, none⟩), .int .i64 2, .string (bs (peekT r2)), .bool (cutT r2).isSome, .slice (some ⟨gn, 0, none⟩) 2 capn, y12, y13, y14, .bool true, .int .u64 0, y17, y18, y19, y20, y21, y22, y23, y24, y25, y26, y27, y28, y29, y30, y31, y32, y33, y34, y35, y36, y37, y38, y39, y40, y41, y42, y43, y44, y45, y46, y47, y48, y49, y50, y51, y52, y53, y54, y55, y56, y57, y58, y59, y60, y61, y62, y63, y64, y65, y66, y67, y68, y69, y70, y71, y72, y73, y74, y75, y76, y77, y78, y79, y80, y81, y82, y83, y84, y85, y86, y87, y88, y89, y90, y91, y92, y93, y94, y95, y96, y97, y98, y99, y100, y101, y102, y103, y104, y105, y106, y107, y108, y109, y110, y111, y112, y113, y114, y115, y116, y117, y118, y119, y120, y121, y122, y123, y124, y125, y126, y127, y128, y129, y130, y131, y132, y133, y134, y135, y136, y137, y138, y139, y140, y141, y142, y143, y144, y145, y146, y147, y148, y149, y150, y151, y152, y153, y154, y155, y156, y157, y158, y159, y160, y161, y162, y163, y164, y165, y166, y167, y168, y169, y170, y171, y172, y173, y174, y175, y176, y177, y178, y179, y180, y181, y182, y183, y184, y185, y186, y187, y188, y189, y190, y191, y192, y193, y194, y195, y196, y197, y198, y199, y200, y201, y202, y203, y204, y205, y206, y207, y208, y209, y210, y211, y212, y213, y214, y215, y216, y217, y218, y219, y220, y221, y222, y223, y224, y225, y226, y227, y228, y229, y230, y231, y232, y233, y234, y235, y236, y237, y238, y239, y240, y241, y242, y243, y244, y245, y246, y247, y248, y249, y250, y251, y252, y253, y254, y255, y256, y257, y258, y259, y260, y261, y262, y263, y264], []⟩ w7 := by
  conv => arg 2; whnf
  go_wp2_with fail
  go_loopw [8, 9, 10, 15, 16] (fun at_ x t o l wr => ∃ i rest ord, ∃ last : Nat, at_ = .int .i64 (i : Nat) ∧ x = .string (bs (peekT rest)) ∧ t = .bool (cutT rest).isSome ∧ o = .bool ord ∧ l = .int .u64 (last : Int) ∧ last ≤ 4 ∧ CelJ wz bm P s v b i rest ord last wr) (fun at_ _ _ _ _ _ => LN - (intOf at_).toNat)
  case atStart => exact ⟨2, r2, true, 0, rfl, rfl, rfl, rfl, rfl, by omega, HI7.out⟩
  case round =>
    obtain ⟨i, rest, ord, last, rfl, rfl, rfl, rfl, rfl, hlast, us, ms, hP, hR, hrl, hM, hml, hwf, hcl, hB⟩ := hrel
    have HPR := Lib.hid hP
    have HRR := Lib.hid hR
    have HMM := Lib.hid hM
    have HML := Lib.hid hml
    have HWF := Lib.hid hwf
    have HCLn := Lib.hid hcl
    have HBR := Lib.hid hB
    have HSTEP := Lib.hid (celF_step v b ms last ord rest (i + 1))
    have HBG := Lib.hid (fun W => r15_begins (peekT rest) (wCell ++ [32]) W (by have := peekT_len rest; omega) (by decide))
    have hi9 : i ≤ 50000 := by have := hR.le; omega
    clear hP hR hM hml hwf hcl hB
    by_cases hbeg : beginsT (wCell ++ [32]) (peekT rest) = true
    · obtain ⟨r', hcs⟩ := begins_some hbeg
      rw [if_pos hbeg] at HSTEP
      rw [hbeg] at HBG
      have HNX := Lib.hid (HRR.out.next hcs)
      have HRL : Hid (r'.length < rest.length) := Lib.hid (by have := cutT_len hcs; omega)
      have hnr := numsR_cut (word := wCell) (most := mostC) hcs
      have HNR := Lib.hid hnr
      rw [show (cutT rest).isSome = true by rw [hcs]; rfl]
      obtain ⟨wn, hwn⟩ : ∃ wn, wn = wr.alloc (.cells #[.int .u64 3, .int .u64 18446744073709551615, .int .u64 18446744073709551615] 82) := ⟨_, rfl⟩
      have HBN : Hid (Below wr.heap.size wr wn) := Lib.hid (by rw [hwn]; exact (Below.refl _ wr).alloc (Nat.le_refl _) _)
      have HNN := Lib.hid (r15_numbers (w := wn) (peekT rest) wCell mostC (bm := wr.heap.size) (cap := 3) (by have := peekT_len rest; omega) ⟨by decide, by decide⟩ (fun j hj => by
        rw [hwn]
        have := (Blk.new wr 82 #[.int .u64 3, .int .u64 18446744073709551615, .int .u64 18446744073709551615]).cell
        match j, hj with
        | 0, _ => exact this 0
        | 1, _ => exact this 1
        | 2, _ => exact this 2))
      have HWN := Lib.hid hwn
      have hLt : i < LN := by
        have h1 := HLN.out
        have h2 := (HRR.out.end_).2 (fun e => by rw [e] at hcs; simp [cutT] at hcs)
        omega
      obtain ⟨px2, hpx2⟩ : ∃ px, px = bs (peekT rest) := ⟨_, rfl⟩
      rw [← hpx2] at HNN HBG ⊢
      have HCW : Hid (Chg (fun k => k = g7) w2 wr) := Lib.hid (HCz.out.trans (Chg.of_below (S := fun k => k = g7) HBR.out) (fun i hi => .inl hi))
      clear hbeg hcs hnr hwn hpx2
      go_wp2_with fail
      refine (HBG.out _).mono ?_
      rintro e wr' ⟨rfl, rfl⟩
      cases ho : numsT wCell mostC (peekT rest) with
      | none =>
        have HPB : Hid (P = .bad (i + 1)) := Lib.hid (by rw [HPR.out, HSTEP.out, HNR.out, ho])
        rw [ho] at HNN
        clear ho
        go_wp2_with fail
        rw [← HWN.out]
        refine HNN.out.mono ?_
        rintro e w8 ⟨rfl, hb⟩
        have HC8 : Hid (Chg (fun k => k = g7) w2 w8) := Lib.hid (HCW.out.trans (Chg.of_below (S := fun k => k = g7) (HBN.out.trans (hb.mono HBN.out.size))) (fun i hi => .inl hi))
        clear hb
        go_wp2_with fail
        go_quiet (fail)
        rename_i nq
        obtain ⟨w9, hw9⟩ : ∃ w9, w9 = w8.drewN nq := ⟨_, rfl⟩
        rw [← hw9]
        have hC9 : Chg (fun k => k = g7) w2 w9 := by rw [hw9]; exact HC8.out.trans (Chg.of_below (S := fun k => k = g7) (below_drewN (Below.refl _ w8) nq)) (fun i hi => .inl hi)
        have HF := Lib.hid (HFB.out w9 (i + 1) ((i : Int) + 1) hC9 HPB.out rfl)
        obtain ⟨⟨c0, c1, c2, c3⟩, ⟨f0, f1, f2, f3⟩, s0, s1, s2, s3⟩ := HZ2.out w9 hC9
        clear hC9 hw9
        go_upto_region 25 with (fail)
        repeat go_step
        try simp only [Exit.inBlock, Exit.then]
        exact bodyPost_ret (v := .tuple #[.agg #[.slice none 0 0, .slice none 0 0, .slice none 0 0, .int .i64 0], .int .i64 ((i : Int) + 1), .int .i64 2]) (by simp [results, Tryz.results25, go_sem, c0, c1, c2, c3]) rfl HF.out
      | some ns =>
        have hnl : ns.length = 3 := by
          have := numsR_len (word := wCell) (most := mostC) (rest := rest) (ns := ns) (r := r') (by rw [HNR.out, ho])
          exact this.1
        have hnm := numsR_le (word := wCell) (most := mostC) (rest := rest) (ns := ns) (r := r') (by rw [HNR.out, ho])
        obtain ⟨m, a1, x1, rfl⟩ : ∃ m a x, ns = [m, a, x] := by
          match ns, hnl with
          | [m, a, x], _ => exact ⟨m, a, x, rfl⟩
        have hm3 : m ≤ 3 := hnm.2 0
        have HWA1 : Hid (wf (a1 : Int)) := Lib.hid (by have := hnm.1 a1 (by simp); unfold wf; omega)
        have HWX1 : Hid (wf (x1 : Int)) := Lib.hid (by have := hnm.1 x1 (by simp); unfold wf; omega)
        have HST : Hid (P = if m < b then celF v b r'.length (ms.set m (ms.getD m [] ++ [((a1 : Int), (x1 : Int))])) m (ord && decide (last ≤ m)) r' (i + 1 + 1) else .bad (i + 1)) := Lib.hid (by rw [HPR.out, HSTEP.out, HNR.out, ho]; rfl)
        rw [ho] at HNN
        clear ho hnl hnm HSTEP HNR
        go_wp2_with fail
        rw [← HWN.out]
        refine HNN.out.mono ?_
        rintro e w6b ⟨uc, rfl, huc⟩
        obtain ⟨gc, capc, rfl, hgc1, hgc2, hcc⟩ := nums_cells huc (by simp)
        have q0 : w6b.cell? ⟨gc, 0, none⟩ = some (.int .u64 (m : Int)) := hcc 0 (by simp)
        have q1 : w6b.cell? ⟨gc, 1, none⟩ = some (.int .u64 (a1 : Int)) := hcc 1 (by simp)
        have q2 : w6b.cell? ⟨gc, 2, none⟩ = some (.int .u64 (x1 : Int)) := hcc 2 (by simp)
        have HB6b : Hid (Below wr.heap.size wr w6b) := Lib.hid (HBN.out.trans (huc.2.1.mono HBN.out.size))
        have HC8 : Hid (Chg (fun k => k = g7) w2 w6b) := Lib.hid (HCW.out.trans (Chg.of_below (S := fun k => k = g7) HB6b.out) (fun i hi => .inl hi))
        have kn1 : w6b.cell? ⟨gn, 1, none⟩ = some (.int .u64 (b : Int)) := cell_below (cell_below HKz.out.2.1 HBR.out) HB6b.out
        have HQ := Lib.hid (show _ ∧ _ ∧ _ from ⟨q0, q1, q2⟩)
        have HGC : Hid (gc < w6b.heap.size ∧ wr.heap.size ≤ gc) := Lib.hid ⟨hgc2, Nat.le_trans HBN.out.size hgc1⟩
        clear huc hgc1 hgc2 hcc HNN HWN HBN HCW
        by_cases hmb : m < b
        ·
          have HP7 : Hid (P = celF v b r'.length (ms.set m (ms.getD m [] ++ [((a1 : Int), (x1 : Int))])) m (ord && decide (last ≤ m)) r' (i + 1 + 1)) := Lib.hid (by rw [HST.out, if_pos hmb])
          have hx : ¬ b ≤ m := by omega
          have hmb' : (m : Int) < (b : Int) := by omega
          clear HST
          go_wp2_with fail
          go_quiet (fail)
          rename_i nq
          obtain ⟨w8, hw8⟩ : ∃ w8, w8 = w6b.drewN nq := ⟨_, rfl⟩
          rw [← hw8]
          have HB8 : Hid (Below w6b.heap.size w6b w8) := Lib.hid (by rw [hw8]; exact below_drewN (Below.refl _ w6b) nq)
          have HB8r : Hid (Below wr.heap.size wr w8) := Lib.hid (HB6b.out.trans (HB8.out.mono HB6b.out.size))
          have HQ8 : Hid (∀ W, Below w8.heap.size w8 W → W.cell? ⟨gc, 0, none⟩ = some (.int .u64 (m : Int)) ∧ W.cell? ⟨gc, 1, none⟩ = some (.int .u64 (a1 : Int)) ∧ W.cell? ⟨gc, 2, none⟩ = some (.int .u64 (x1 : Int))) := Lib.hid fun W hW => ⟨cell_below (cell_below HQ.out.1 HB8.out) hW, cell_below (cell_below HQ.out.2.1 HB8.out) hW, cell_below (cell_below HQ.out.2.2 HB8.out) hW⟩
          clear q0 q1 q2 kn1 hw8 HQ
          obtain ⟨q0, q1, q2⟩ := HQ8.out w8 (Below.refl _ _)
          go_upto_region 26 with (fail)
          go_cut [15] (fun o wx => o = .bool (ord && decide (last ≤ m)) ∧ wx = w8)
          case first =>
            cases ord
            all_goals
              go_wp2_with fail
              go_meet
              exact ⟨by simp, rfl⟩
          case rest =>
            obtain ⟨rfl, rfl⟩ := hcut
            obtain ⟨vM, hvM⟩ : ∃ vM, vM = us.getD m undef := ⟨_, rfl⟩
            have HT8 : Hid (Blk wc g7 30 #[.slice al v.length cl, .slice (some ⟨bm, 0, none⟩) b b, .slice none 0 0, .int .i64 0]) := Lib.hid ((HTz.out.below HBR.out HTz.out.lt).below HB8r.out (Nat.lt_of_lt_of_le HTz.out.lt HBR.out.size))
            have HMM8 : Hid (MemsM wz wc bm us ms) := Lib.hid (HMM.out.below HB8r.out)
            have HB8z : Hid (Below wz.heap.size wz wc) := Lib.hid (HBR.out.trans (HB8r.out.mono HBR.out.size))
            have hmi : m < ms.length := by have := HML.out; omega
            have k3 : wc.cell? ⟨bm, m, none⟩ = some vM := by rw [hvM]; exact HMM8.out.cell hmi
            have f3 : wc.frozen? ⟨bm, m, none⟩ = false := HMM8.out.blk.frozen m
            have k1 : wc.cell? ⟨g7, 1, none⟩ = some (.slice (some ⟨bm, 0, none⟩) b b) := HT8.out.cell 1
            have hlb := HMM8.out.blk.lt
            have hrow : Row wc 121 2 vM (ms.getD m []).length ((ms.getD m []).flatMap celC) := by rw [hvM]; exact HMM8.out.row m hmi
            obtain ⟨cs, hcs⟩ : ∃ cs, cs = ms.getD m [] := ⟨_, rfl⟩
            rw [← hcs] at hrow
            have hcl : cs.length ≤ 60000 := by rw [hcs]; have := HCLn.out m; omega
            have HOWN : Hid (∀ q, vM.ownBlock = some q → wz.heap.size ≤ q ∧ q ≠ bm) := Lib.hid fun q hq => HMM8.out.own m q hmi (by rw [← hvM]; exact hq)
            have HGV : Hid (¬ vM.ownBlock = some gc) := Lib.hid fun e => by
              have h1 := (HMM.out.row m hmi).lt gc (by rw [← hvM]; exact e)
              have h2 := HGC.out.2
              omega
            have HCS := Lib.hid hcs
            have HVM := Lib.hid hvM
            have HMI := Lib.hid hmi
            obtain ⟨W2, hW2⟩ : ∃ W2, W2 = wc.drew.alloc (.cells #[.int .u64 (a1 : Int), .int .u64 (x1 : Int)] 121) := ⟨_, rfl⟩
            have hB2 : Below wc.heap.size wc W2 := by rw [hW2]; exact ((Below.refl _ wc).drew).alloc (Nat.le_refl _) _
            have HBW2 := Lib.hid hB2
            have hrow2 : Row W2 121 2 vM cs.length (cs.flatMap celC) := hrow.chg (S := fun _ => False) (Chg.of_below hB2) (fun _ _ h => h)
            have hnew : ∀ j u, [Value.int .u64 (a1 : Int), .int .u64 (x1 : Int)][j]? = some u → W2.cell? ⟨wc.heap.size, 0 + j, none⟩ = some u := fun j u hj => by
              rw [hW2, Nat.zero_add]
              have := (Blk.new wc.drew 121 #[.int .u64 (a1 : Int), .int .u64 (x1 : Int)]).cell j
              rw [show wc.drew.heap.size = wc.heap.size from rfl] at this
              rw [this]
              simpa using hj
            have HROW2 := Lib.hid hrow2
            have HNEW := Lib.hid hnew
            have HW2b := Lib.hid hW2
            rw [hW2] at HROW2 HNEW
            have HSD : Hid (∀ W, Below wc.heap.size wc W → W.cell? ⟨g7, 1, none⟩ = some (.slice (some ⟨bm, 0, none⟩) b b) ∧ W.cell? ⟨gc, 0, none⟩ = some (.int .u64 (m : Int)) ∧ W.cell? ⟨gc, 1, none⟩ = some (.int .u64 (a1 : Int)) ∧ W.cell? ⟨gc, 2, none⟩ = some (.int .u64 (x1 : Int))) := Lib.hid fun W hW => ⟨cell_below k1 hW, HQ8.out W hW⟩
            have hgb : g7 ≠ bm := by have := HBM.out; have := HTz.out.lt; omega
            have hgcb : gc ≠ bm := by have h1 := HGC.out.2; have h2 := HMM.out.blk.lt; omega
            have hlgc : gc < W2.heap.size := Nat.lt_of_lt_of_le HGC.out.1 (Nat.le_trans HB8.out.size hB2.size)
            clear hvM hmi hrow hcs hB2 hrow2 hnew hW2
            go_wp2_with fail
            refine wp_region_held_drew (S := (fun w' => w'.cell? ⟨g7, 1, none⟩ = some (.slice (some ⟨bm, 0, none⟩) b b) ∧ w'.cell? ⟨gc, 0, none⟩ = some (.int .u64 (m : Int)) ∧ w'.cell? ⟨gc, 1, none⟩ = some (.int .u64 (a1 : Int)) ∧ w'.cell? ⟨gc, 2, none⟩ = some (.int .u64 (x1 : Int)))) (by kernel_rfl) ?_ (fun hHeld => ?_)
            · (try dsimp only) <;> exact HSD.out _ ((Below.refl _ wc).drew)
            refine wpAnyH_take (i := 0) (v := ?_) rfl (by kernel_rfl) (by kernel_rfl) (by kernel_rfl) (fun _ _ _ h => h) (Or.inl ⟨by rfl, ?_⟩) (by assumption) ?_
            rotate_left
            · (intro w hSw; (try dsimp only at hSw); go_simp; try with_reducible rfl)
            try simp only [Act.put, List.setIfInBounds_toArray, List.set_cons_zero, List.set_cons_succ]
            refine wpAnyH_take (i := 1) (v := ?_) rfl (by kernel_rfl) (by kernel_rfl) (by kernel_rfl) (fun _ _ _ h => h) (Or.inl ⟨by rfl, ?_⟩) (by assumption) ?_
            rotate_left
            · (intro w hSw; (try dsimp only at hSw); go_simp; try with_reducible rfl)
            try simp only [Act.put, List.setIfInBounds_toArray, List.set_cons_zero, List.set_cons_succ]
            refine wpAnyH_take (i := 2) (v := ?_) rfl (by kernel_rfl) (by kernel_rfl) (by kernel_rfl) (fun _ _ _ h => h) (Or.inl ⟨by rfl, ?_⟩) (by assumption) ?_
            rotate_left
            · (intro w hSw; (try dsimp only at hSw); go_simp; try with_reducible rfl)
            try simp only [Act.put, List.setIfInBounds_toArray, List.set_cons_zero, List.set_cons_succ]
            refine wpAnyH_take (i := 3) (v := ?_) rfl (by kernel_rfl) (by kernel_rfl) (by kernel_rfl) (fun _ _ _ h => h) (Or.inl ⟨by rfl, ?_⟩) (by assumption) ?_
            rotate_left
            · (intro w hSw; (try dsimp only at hSw); go_simp; try with_reducible rfl)
            try simp only [Act.put, List.setIfInBounds_toArray, List.set_cons_zero, List.set_cons_succ]
            refine wpAnyH_take (i := 4) (v := ?_) rfl (by kernel_rfl) (by kernel_rfl) (by kernel_rfl) (fun _ _ _ h => h) (Or.inl ⟨by rfl, ?_⟩) (by assumption) ?_
            rotate_left
            · (intro w hSw; (try dsimp only at hSw); go_simp; try with_reducible rfl)
            try simp only [Act.put, List.setIfInBounds_toArray, List.set_cons_zero, List.set_cons_succ]
            refine wpAnyH_take (i := 5) (v := ?_) rfl (by kernel_rfl) (by kernel_rfl) (by kernel_rfl) (fun _ _ _ h => h) (Or.inl ⟨by rfl, ?_⟩) (by assumption) ?_
            rotate_left
            · (intro w hSw; (try dsimp only at hSw); go_simp; try with_reducible rfl)
            try simp only [Act.put, List.setIfInBounds_toArray, List.set_cons_zero, List.set_cons_succ]
            refine wpAnyH_take (i := 6) (v := ?_) rfl (by kernel_rfl) (by kernel_rfl) (by kernel_rfl) (fun _ _ _ h => h) (Or.inl ⟨by rfl, ?_⟩) (by assumption) ?_
            rotate_left
            · (intro w hSw; (try dsimp only at hSw); go_simp; try with_reducible rfl)
            try simp only [Act.put, List.setIfInBounds_toArray, List.set_cons_zero, List.set_cons_succ]
            refine wpAnyH_take (i := 7) (v := ?_) rfl (by kernel_rfl) (by kernel_rfl) (by kernel_rfl) (fun _ _ _ h => h) (Or.inl ⟨by rfl, ?_⟩) (by assumption) ?_
            rotate_left
            · (intro w hSw; (try dsimp only at hSw); go_simp; try with_reducible rfl)
            try simp only [Act.put, List.setIfInBounds_toArray, List.set_cons_zero, List.set_cons_succ]
            refine wpAnyH_take (i := 8) (v := ?_) rfl (by kernel_rfl) (by kernel_rfl) (by kernel_rfl) (fun _ _ _ h => h) (Or.inl ⟨by rfl, ?_⟩) (by assumption) ?_
            rotate_left
            · (intro w hSw; (try dsimp only at hSw); go_simp; try with_reducible rfl)
            try simp only [Act.put, List.setIfInBounds_toArray, List.set_cons_zero, List.set_cons_succ]
            refine wpAnyH_take (i := 9) (v := ?_) rfl (by kernel_rfl) (by kernel_rfl) (by kernel_rfl) (fun _ _ _ h => h) (Or.inl ⟨by rfl, ?_⟩) (by assumption) ?_
            rotate_left
            · (intro w hSw; (try dsimp only at hSw); go_simp; try with_reducible rfl)
            try simp only [Act.put, List.setIfInBounds_toArray, List.set_cons_zero, List.set_cons_succ]
            refine wpAnyH_take (i := 10) (v := ?_) rfl (by kernel_rfl) (by kernel_rfl) (by kernel_rfl) (fun _ _ _ h => h) (Or.inl ⟨by rfl, ?_⟩) (by assumption) ?_
            rotate_left
            · (intro w hSw; (try dsimp only at hSw); go_simp; try with_reducible rfl)
            try simp only [Act.put, List.setIfInBounds_toArray, List.set_cons_zero, List.set_cons_succ]
            refine wpAnyH_take (i := 11) (v := ?_) rfl (by kernel_rfl) (by kernel_rfl) (by kernel_rfl) (fun _ _ _ h => h) (Or.inl ⟨by rfl, ?_⟩) (by assumption) ?_
            rotate_left
            · (intro w hSw; (try dsimp only at hSw); go_simp; try with_reducible rfl)
            try simp only [Act.put, List.setIfInBounds_toArray, List.set_cons_zero, List.set_cons_succ]
            refine wpAnyH_take (i := 12) (v := ?_) rfl (by kernel_rfl) (by kernel_rfl) (by kernel_rfl) (fun _ _ _ h => h) (Or.inl ⟨by rfl, ?_⟩) (by assumption) ?_
            rotate_left
            · (intro w hSw; (try dsimp only at hSw); go_simp; try with_reducible rfl)
            try simp only [Act.put, List.setIfInBounds_toArray, List.set_cons_zero, List.set_cons_succ]
            refine wpAnyH_take (i := 14) (v := ?_) rfl (by kernel_rfl) (by kernel_rfl) (by kernel_rfl) (fun _ _ _ h => h) (Or.inl ⟨by rfl, ?_⟩) (by assumption) ?_
            rotate_left
            · (intro w hSw; (try dsimp only at hSw); go_simp; try with_reducible rfl)
            try simp only [Act.put, List.setIfInBounds_toArray, List.set_cons_zero, List.set_cons_succ]
            refine wpAnyH_take (i := 15) (v := ?_) rfl (by kernel_rfl) (by kernel_rfl) (by kernel_rfl) (fun _ _ _ h => h) (Or.inl ⟨by rfl, ?_⟩) (by assumption) ?_
            rotate_left
            · (intro w hSw; (try dsimp only at hSw); go_simp; try with_reducible rfl)
            try simp only [Act.put, List.setIfInBounds_toArray, List.set_cons_zero, List.set_cons_succ]
            refine wpAnyH_take (i := 16) (v := ?_) rfl (by kernel_rfl) (by kernel_rfl) (by kernel_rfl) (fun _ _ _ h => h) (Or.inl ⟨by rfl, ?_⟩) (by assumption) ?_
            rotate_left
            · (intro w hSw; (try dsimp only at hSw); go_simp; try with_reducible rfl)
            try simp only [Act.put, List.setIfInBounds_toArray, List.set_cons_zero, List.set_cons_succ]
            refine wpAnyH_take (i := 17) (v := ?_) rfl (by kernel_rfl) (by kernel_rfl) (by kernel_rfl) (fun _ _ _ h => h) (Or.inl ⟨by rfl, ?_⟩) (by assumption) ?_
            rotate_left
            · (intro w hSw; (try dsimp only at hSw); go_simp; try with_reducible rfl)
            try simp only [Act.put, List.setIfInBounds_toArray, List.set_cons_zero, List.set_cons_succ]
            refine wpAnyH_take (i := 18) (v := ?_) rfl (by kernel_rfl) (by kernel_rfl) (by kernel_rfl) (fun _ _ _ h => h) (Or.inl ⟨by rfl, ?_⟩) (by assumption) ?_
            rotate_left
            · (intro w hSw; (try dsimp only at hSw); go_simp; try with_reducible rfl)
            try simp only [Act.put, List.setIfInBounds_toArray, List.set_cons_zero, List.set_cons_succ]
            refine wpAnyH_take (i := 19) (v := ?_) rfl (by kernel_rfl) (by kernel_rfl) (by kernel_rfl) (fun _ _ _ h => h) (Or.inl ⟨by rfl, ?_⟩) (by assumption) ?_
            rotate_left
            · (intro w hSw; (try dsimp only at hSw); go_simp; try with_reducible rfl)
            try simp only [Act.put, List.setIfInBounds_toArray, List.set_cons_zero, List.set_cons_succ]
            refine wpAnyH_take (i := 20) (v := ?_) rfl (by kernel_rfl) (by kernel_rfl) (by kernel_rfl) (fun _ _ _ h => h) (Or.inl ⟨by rfl, ?_⟩) (by assumption) ?_
            rotate_left
            · (intro w hSw; (try dsimp only at hSw); go_simp; try with_reducible rfl)
            try simp only [Act.put, List.setIfInBounds_toArray, List.set_cons_zero, List.set_cons_succ]
            refine wpAnyH_ready (rs := [13, 21]) (by kernel_rfl) (by simp) ?_
            refine AllReadyH.cons rfl (fun K hK => ?_) (AllReadyH.cons rfl (fun K hK => ?_) AllReadyH.nil)
            focus
              go_simp
              refine hK.out _ _ ?_ (fun hHeld => ?_)
              · exact HSD.out _ ((Below.refl _ wc).drew)
              clear hK K
              try simp only [Act.put, List.setIfInBounds_toArray, List.set_cons_zero, List.set_cons_succ]
              refine wpAnyH_ready (rs := [21]) (by kernel_rfl) (by simp) ?_
              refine AllReadyH.cons rfl (fun K hK => ?_) AllReadyH.nil
              go_simp
              skip
              refine hK.out _ _ ?_ (fun hHeld => ?_)
              · (try dsimp only) <;> exact HSD.out _ (((Below.refl _ wc).drew).alloc (Nat.le_refl _) _)
              clear hK K
              try simp only [Act.put, List.setIfInBounds_toArray, List.set_cons_zero, List.set_cons_succ]
            rotate_left
            focus
              go_simp
              refine hK.out _ _ ?_ (fun hHeld => ?_)
              · exact HSD.out _ (((Below.refl _ wc).drew).alloc (Nat.le_refl _) _)
              clear hK K
              try simp only [Act.put, List.setIfInBounds_toArray, List.set_cons_zero, List.set_cons_succ]
              refine wpAnyH_ready (rs := [13]) (by kernel_rfl) (by simp) ?_
              refine AllReadyH.cons rfl (fun K hK => ?_) AllReadyH.nil
              go_simp
              skip
              refine hK.out _ _ ?_ (fun hHeld => ?_)
              · (try dsimp only) <;> exact HSD.out _ (((Below.refl _ wc).drew).alloc (Nat.le_refl _) _)
              clear hK K
              try simp only [Act.put, List.setIfInBounds_toArray, List.set_cons_zero, List.set_cons_succ]
            all_goals
              refine wpAnyH_ready (rs := [22]) (by kernel_rfl) (by simp) ?_
              refine AllReadyH.cons rfl (fun K hK => ?_) AllReadyH.nil
              refine step_app rfl (.tmp 169) (.tmp 177) _ rfl 121 (.agg #[.int .u64 0, .int .u64 0]) 2 16 Tryz.underlying119 infoCE rfl (by decide) vM cs.length (cs.flatMap celC) rfl ?ho wc.heap.size 0 1 1 [.int .u64 (a1 : Int), .int .u64 (x1 : Int)] rfl rfl ?hn ?hs ?c1 ?c2 ?_
              case ho => exact HROW2.out
              case hn => exact HNEW.out
              case hs => (intro u hu; simp at hu; rcases hu with rfl | rfl <;> rfl)
              case c1 => unfold maxLen; omega
              case c2 => omega
              intro v9 wB hpF
              have hpG : AppPost W2 121 2 vM (cs.length + 1) (cs.flatMap celC ++ [Value.int .u64 (a1 : Int), .int .u64 (x1 : Int)]) v9 wB := by rw [HW2b.out]; exact hpF
              have HPG := Lib.hid hpG
              obtain ⟨gv, cv, rfl, -, -, -⟩ := hpF.1.some_ (by omega)
              have hcB : Chg (fun k => vM.ownBlock = some k) W2 wB := hpG.2.1
              have kB1 : wB.cell? ⟨g7, 1, none⟩ = some (.slice (some ⟨bm, 0, none⟩) b b) := ((HT8.out.below HBW2.out HT8.out.lt).chg hcB (fun e => by have := (HOWN.out g7 e).1; have := HTz.out.lt; omega)).cell 1
              have fB3 : wB.frozen? ⟨bm, m, none⟩ = false := ((HMM8.out.below HBW2.out).blk.chg hcB (fun e => (HOWN.out bm e).2 rfl)).frozen m
              have kB3 : wB.cell? ⟨bm, m, none⟩ = some vM := by
                have := (HMM8.out.below HBW2.out).blk.chg hcB (fun e => (HOWN.out bm e).2 rfl)
                rw [this.cell m, ← (HMM8.out.below HBW2.out).blk.cell m, (HMM8.out.below HBW2.out).cell HMI.out, HVM.out]
              have hkB : ∀ j u, wc.cell? ⟨gc, j, none⟩ = some u → wB.cell? ⟨gc, j, none⟩ = some u := fun j u hu => by
                rw [World.cell?_of_block (w := W2) (hcB.block gc hlgc (HGV.out))]
                exact cell_below hu HBW2.out
              have kBc0 := hkB 0 _ q0
              have kBc1 := hkB 1 _ q1
              have kBc2 := hkB 2 _ q2
              clear hpF hpG hcB hkB
              refine hK.out _ _ ?_ (fun hHeld => ?_)
              · exact ⟨kB1, kBc0, kBc1, kBc2⟩
              clear hK K
              try simp only [Act.put, List.setIfInBounds_toArray, List.set_cons_zero, List.set_cons_succ]
              refine wpAnyH_take (i := 23) (v := ?_) rfl (by kernel_rfl) (by kernel_rfl) (by kernel_rfl) (fun _ _ _ h => h) (Or.inl ⟨by rfl, ?_⟩) (by assumption) ?_
              rotate_left
              · (intro w hSw; (try dsimp only at hSw); go_simp; try with_reducible rfl)
              try simp only [Act.put, List.setIfInBounds_toArray, List.set_cons_zero, List.set_cons_succ]
              refine wpAnyH_ready (rs := [24]) (by kernel_rfl) (by simp) ?_
              refine AllReadyH.cons rfl (fun K hK => ?_) AllReadyH.nil
              go_simp
              skip
              refine hK.out _ _ ?_ (fun hHeld => ?_)
              · (try dsimp only) <;> exact ⟨far_cell kB1 hgb, far_cell kBc0 hgcb, far_cell kBc1 hgcb, far_cell kBc2 hgcb⟩
              clear hK K
              try simp only [Act.put, List.setIfInBounds_toArray, List.set_cons_zero, List.set_cons_succ]
              refine wpAnyH_done (by kernel_rfl) ?_ _
            all_goals
              clear k1 k3 f3 kB1 kB3 fB3 kBc0 kBc1 kBc2 hgb hgcb hlgc q0 q1 q2
              have hST9 := CelJ.step (i := i) (a1 := a1) (x1 := x1) HBM.out HP7.out hrl HRL.out HNX.out.2.2 HMM8.out HML.out HMI.out HWF.out HCLn.out HB8z.out HBW2.out HWA1.out HWX1.out (by rw [← HCS.out, ← HVM.out]; exact HPG.out)
              have HST9 := Lib.hid hST9
              have HL9 := Lib.hid (HLINE.out _ r' (i + 1) (HCz.out.trans (Chg.of_below (S := fun k => k = g7) hST9.choose_spec.choose_spec.2.2.2.2.2.2.2) (fun i hi => .inl hi)) HNX.out.2.2)
              have zi : IntKind.i64.wrap ((i : Int) + 1) = (i : Int) + 1 := IntWalk.i64_in _ (by omega)
              rw [show ((i + 1 : Nat) : Int) = (i : Int) + 1 by omega] at HL9
              clear hST9
              go_wp2_with fail
              refine HL9.out.mono ?_
              rintro e w9 ⟨rfl, rfl⟩
              go_wp2
              go_roundw
              case rel => exact ⟨i + 1, r', _, m, by go_num, rfl, rfl, rfl, rfl, by omega, HST9.out⟩
              case measure => simp [intOf]; omega
        · have HPB : Hid (P = .bad (i + 1)) := Lib.hid (by rw [HST.out, if_neg hmb])
          have hx : b ≤ m := by omega
          clear hmb HST
          go_wp2_with fail
          go_quiet (fail)
          rename_i nq
          obtain ⟨w9, hw9⟩ : ∃ w9, w9 = w6b.drewN nq := ⟨_, rfl⟩
          rw [← hw9]
          have hC9 : Chg (fun k => k = g7) w2 w9 := by rw [hw9]; exact HC8.out.trans (Chg.of_below (S := fun k => k = g7) (below_drewN (Below.refl _ w6b) nq)) (fun i hi => .inl hi)
          have HF := Lib.hid (HFB.out w9 (i + 1) ((i : Int) + 1) hC9 HPB.out rfl)
          obtain ⟨⟨c0, c1, c2, c3⟩, ⟨f0, f1, f2, f3⟩, s0, s1, s2, s3⟩ := HZ2.out w9 hC9
          clear hC9 hw9
          go_upto_region 25 with (fail)
          repeat go_step
          try simp only [Exit.inBlock, Exit.then]
          exact bodyPost_ret (v := .tuple #[.agg #[.slice none 0 0, .slice none 0 0, .slice none 0 0, .int .i64 0], .int .i64 ((i : Int) + 1), .int .i64 2]) (by simp [results, Tryz.results25, go_sem, c0, c1, c2, c3]) rfl HF.out
    · have HP7 : Hid (P = cycF v ms ord rest.length [] rest (i + 1)) := Lib.hid (by rw [HPR.out, HSTEP.out, if_neg hbeg])
      have hbf : beginsT (wCell ++ [32]) (peekT rest) = false := Bool.eq_false_iff.2 hbeg
      rw [hbf] at HBG
      have HMT : Hid (∀ b9, b9 = (cutT rest).isSome → CutJ wz bm P s v b (.int .i64 (i : Nat)) (.string (bs (peekT rest))) (.bool b9) (.bool ord) wr) := Lib.hid fun b9 h9 => ⟨i, rest, ord, us, ms, rfl, rfl, by rw [h9], rfl, HP7.out, HRR.out, hrl, HMM.out, HML.out, HWF.out, HBR.out⟩
      obtain ⟨b9, h9⟩ : ∃ b, b = (cutT rest).isSome := ⟨_, rfl⟩
      have HM9 := Lib.hid (HMT.out b9 h9)
      rw [← h9]
      obtain ⟨px2, hpx2⟩ : ∃ px, px = bs (peekT rest) := ⟨_, rfl⟩
      rw [← hpx2] at HBG HM9 ⊢
      clear h9 hbeg hbf HSTEP hpx2 HMT
      cases b9 with
      | false =>
        go_wp2_with fail
        go_meet
        exact HM9.out
      | true =>
        go_wp2_with fail
        refine (HBG.out _).mono ?_
        rintro e wr' ⟨rfl, rfl⟩
        go_wp2_with fail
        go_meet
        exact HM9.out
end Go.Proofs.YtamgbfkpblpfiaaGreatDoor
/-
  The document's Parse of a witness: the cycles' lines.
-/
namespace Go.Proofs.YtamgbfkpblpfiaaGreatDoor
open Go.ChangeShapes Go.WideShapes Go.ChangeAt Go.RowKit
set_option linter.unusedVariables false
set_option linter.unusedSimpArgs false
set_option maxHeartbeats 8000000 in
set_option maxRecDepth 100000 in
/-- The cycles' lines. -/
theorem cycs_loop {w w2 wp : World} {g g7 bm b i LN cap5 cl : Nat} {A5 al : Option Addr} {LB ord : Bool} {P : PRes} {s rest : List UInt8} {v : List Bool} {ms : List CS} {J K : Act → World → Prop} {y0 y1 y3 y4 y11 y12 y13 y14 y15 y16 y17 y18 y19 y20 y21 y22 y23 y24 y25 y26 y27 y28 y29 y30 y31 y32 y33 y34 y35 y36 y37 y38 y39 y40 y41 y42 y43 y44 y45 y46 y47 y48 y49 y50 y51 y52 y53 y54 y55 y56 y57 y58 y59 y60 y61 y62 y63 y64 y65 y66 y67 y68 y69 y70 y71 y72 y73 y74 y75 y76 y77 y78 y79 y80 y81 y82 y83 y84 y85 y86 y87 y88 y89 y90 y91 y92 y93 y94 y95 y96 y97 y98 y99 y100 y101 y102 y103 y104 y105 y106 y107 y108 y109 y110 y111 y112 y113 y114 y115 y116 y117 y118 y119 y120 y121 y122 y123 y124 y125 y126 y127 y128 y129 y130 y131 y132 y133 y134 y135 y136 y137 y138 y139 y140 y141 y142 y143 y144 y145 y146 y147 y148 y149 y150 y151 y152 y153 y154 y155 y156 y157 y158 y159 y160 y161 y162 y163 y164 y165 y166 y167 y168 y169 y170 y171 y172 y173 y174 y175 y176 y177 y178 y179 y180 y181 y182 y183 y184 y185 y186 y187 y188 y189 y190 y191 y192 y193 y194 y195 y196 y197 y198 y199 y200 y201 y202 y203 y204 y205 y206 y207 y208 y209 y210 y211 y212 y213 y214 y215 y216 y217 y218 y219 y220 y221 y222 y223 y224 y225 y226 y227 y228 y229 y230 y231 y232 y233 y234 y235 y236 y237 y238 y239 y240 y241 y242 y243 y244 y245 y246 y247 y248 y249 y250 y251 y252 y253 y254 y255 y256 y257 y258 y259 y260 y261 y262 y263 y264 : Value}
    (hl : s.length ≤ 50000) (hLN9 : LN ≤ 50001) (hb4 : b ≤ 4) (HLN : Hid (LN = (linesT s).1.length))
    (HLINE : Hid (∀ (W : World) (rest : List UInt8) (i : Nat), Chg (fun k => k = g7) w2 W → RelL s rest i → Calls Tryz.prog 57 #[.slice A5 LN cap5, .bool LB, .int .i64 (i : Nat)] W fun e w' => e = .returned (.tuple #[.string (bs (peekT rest)), .bool (cutT rest).isSome]) ∧ W = w'))
    (HFB : Hid (∀ (W : World) (n : Nat) (z : Int), Chg (fun k => k = g7) w2 W → P = .bad n → z = ((n : Nat) : Int) → ParseV w P (.returned (.tuple #[.agg #[.slice none 0 0, .slice none 0 0, .slice none 0 0, .int .i64 0], .int .i64 z, .int .i64 2])) W))
    (HZ2 : Hid (∀ W : World, Chg (fun k => k = g7) w2 W → (W.cell? ⟨g, 0, none⟩ = some (.slice none 0 0) ∧ W.cell? ⟨g, 1, none⟩ = some (.slice none 0 0) ∧ W.cell? ⟨g, 2, none⟩ = some (.slice none 0 0) ∧ W.cell? ⟨g, 3, none⟩ = some (.int .i64 0)) ∧ (W.frozen? ⟨g, 0, none⟩ = false ∧ W.frozen? ⟨g, 1, none⟩ = false ∧ W.frozen? ⟨g, 2, none⟩ = false ∧ W.frozen? ⟨g, 3, none⟩ = false) ∧ (W.setCell ⟨g, 0, none⟩ (.slice none 0 0) = W ∧ W.setCell ⟨g, 1, none⟩ (.slice none 0 0) = W ∧ W.setCell ⟨g, 2, none⟩ (.slice none 0 0) = W ∧ W.setCell ⟨g, 3, none⟩ (.int .i64 0) = W)))
    (HCP : Hid (Chg (fun k => k = g7) w2 wp)) (hgc : g7 < wp.heap.size) (HI2 : Hid (CycJ wp g7 bm P s v (.slice al v.length cl) b ms ord i rest wp))
    (hJ : ∀ (a' : Act) (w' : World), (∃ u3 u4 u8 u9 u10 u19 u20 u189 u190 u191 u192 u193 u194 u195 u196 u197 u198 u199 u200 u201 u202 u203 u204 u205 u206 u207 u208 u209 u210 u211 u212 u213 u214 u215 u216 u217 u218 u219 : Value, CutK wp g7 bm P s v (.slice al v.length cl) b ms ord u8 u9 u10 w' ∧ a' = ⟨#[y0, y1, .pointer (some ⟨g, 0, none⟩), u3, u4, .slice A5 LN cap5, .bool LB, .pointer (some ⟨g7, 0, none⟩), u8, u9, u10, y11, y12, y13, y14, y15, y16, y17, y18, u19, u20, y21, y22, y23, y24, y25, y26, y27, y28, y29, y30, y31, y32, y33, y34, y35, y36, y37, y38, y39, y40, y41, y42, y43, y44, y45, y46, y47, y48, y49, y50, y51, y52, y53, y54, y55, y56, y57, y58, y59, y60, y61, y62, y63, y64, y65, y66, y67, y68, y69, y70, y71, y72, y73, y74, y75, y76, y77, y78, y79, y80, y81, y82, y83, y84, y85, y86, y87, y88, y89, y90, y91, y92, y93, y94, y95, y96, y97, y98, y99, y100, y101, y102, y103, y104, y105, y106, y107, y108, y109, y110, y111, y112, y113, y114, y115, y116, y117, y118, y119, y120, y121, y122, y123, y124, y125, y126, y127, y128, y129, y130, y131, y132, y133, y134, y135, y136, y137, y138, y139, y140, y141, y142, y143, y144, y145, y146, y147, y148, y149, y150, y151, y152, y153, y154, y155, y156, y157, y158, y159, y160, y161, y162, y163, y164, y165, y166, y167, y168, y169, y170, y171, y172, y173, y174, y175, y176, y177, y178, y179, y180, y181, y182, y183, y184, y185, y186, y187, y188, u189, u190, u191, u192, u193, u194, u195, u196, u197, u198, u199, u200, u201, u202, u203, u204, u205, u206, u207, u208, u209, u210, u211, u212, u213, u214, u215, u216, u217, u218, u219, y220, y221, y222, y223, y224, y225, y226, y227, y228, y229, y230, y231, y232, y233, y234, y235, y236, y237, y238, y239, y240, y241, y242, y243, y244, y245, y246, y247, y248, y249, y250, y251, y252, y253, y254, y255, y256, y257, y258, y259, y260, y261, y262, y263, y264], []⟩) → J a' w')
    (hK : ∀ (a' : Act) (w' : World), Met J a' w' → K a' w') :
    (blkOf Tryz.f25 2).wp Tryz.prog (Exit.then K (bodyPost Tryz.prog Tryz.f25 (ParseV w P))) ⟨#[y0, y1, .pointer (some ⟨g, 0, none⟩), y3, y4, .slice A5 LN cap5, .bool LB, .pointer (some ⟨g7, 0, none⟩), .int .i64 (i : Nat), .string (bs (peekT rest)), .bool (cutT rest).isSome, y11, y12, y13, y14, y15, y16, y17, y18, y19, y20, y21, y22, y23, y24, y25, y26, y27, y28, y29, y30, y31, y32, y33, y34, y35, y36, y37, y38, y39, y40, y41, y42, y43, y44, y45, y46, y47, y48, y49, y50, y51, y52, y53, y54, y55, y56, y57, y58, y59, y60, y61, y62, y63, y64, y65, y66, y67, y68, y69, y70, y71, y72, y73, y74, y75, y76, y77, y78, y79, y80, y81, y82, y83, y84, y85, y86, y87, y88, y89, y90, y91, y92, y93, y94, y95, y96, y97, y98, y99, y100, y101, y102, y103, y104, y105, y106, y107, y108, y109, y110, y111, y112, y113, y114, y115, y116, y117, y118, y119, y120, y121, y122, y123, y124, y125, y126, y127, y128, y129, y130, y131, y132, y133, y134, y135, y136, y137, y138, y139, y140, y141, y142, y143, y144, y145, y146, y147, y148, y149, y150, y151, y152, y153, y154, y155, y156, y157, y158, y159, y160, y161, y162, y163, y164, y165, y166, y167, y168, y169, y170, y171, y172, y173, y174, y175, y176, y177, y178, y179, y180, y181, y182, y183, y184, y185, y186, y187, y188, y189, y190, y191, y192, y193, y194, y195, y196, y197, y198, y199, y200, y201, y202, y203, y204, y205, y206, y207, y208, y209, y210, y211, y212, y213, y214, y215, y216, y217, y218, y219, y220, y221, y222, y223, y224, y225, y226, y227, y228, y229, y230, y231, y232, y233, y234, y235, y236, y237, y238, y239, y240, y241, y242, y243, y244, y245, y246, y247, y248, y249, y250, y251, y252, y253, y254, y255, y256, y257, y258, y259, y260, y261, y262, y263, y264], []⟩ wp := by
  conv => arg 2; whnf
  go_wp2_with fail
  go_loopw [8, 9, 10] (fun at_ x t wr => ∃ i rest, at_ = .int .i64 (i : Nat) ∧ x = .string (bs (peekT rest)) ∧ t = .bool (cutT rest).isSome ∧ CycJ wp g7 bm P s v (.slice al v.length cl) b ms ord i rest wr) (fun at_ _ _ _ => LN - (intOf at_).toNat)
  case atStart => exact ⟨i, rest, rfl, rfl, rfl, HI2.out⟩
  case round =>
    clear HI2
    obtain ⟨j, rest2, rfl, rfl, rfl, vi, us2, ls, hP, hR, hT, hI, hls, hC⟩ := hrel
    have hrl : rest2.length ≤ 60000 := by omega
    have HPR := Lib.hid hP
    have HRR := Lib.hid hR
    have HTR := Lib.hid hT
    have HIR := Lib.hid hI
    have HLS := Lib.hid hls
    have HCR := Lib.hid hC
    have HCW : Hid (Chg (fun k => k = g7) w2 wr) := Lib.hid (HCP.out.trans hC (fun i hi => .inl hi))
    have HSTEP := Lib.hid (cycF_step v ms ord ls rest2 (j + 1))
    have HBG := Lib.hid (fun W => r15_begins (peekT rest2) (wCyc ++ [32]) W (by have := peekT_len rest2; omega) (by decide))
    have hj9 : j ≤ 50000 := by have := hR.le; omega
    obtain ⟨avi, cvi, hvi, hv1, hv2⟩ := hI.form
    clear hP hR hT hI hls hC
    by_cases hbeg : beginsT (wCyc ++ [32]) (peekT rest2) = true
    · obtain ⟨r', hcs⟩ := begins_some hbeg
      obtain ⟨y, hy, hbr⟩ := cyc_word hbeg hcs
      rw [if_pos hbeg] at HSTEP
      rw [hbeg] at HBG
      have HNX := Lib.hid (HRR.out.next hcs)
      have HRL : Hid (r'.length < rest2.length) := Lib.hid (by have := cutT_len hcs; omega)
      have HBR := Lib.hid hbr
      rw [show (cutT rest2).isSome = true by rw [hcs]; rfl]
      have hLt : j < LN := by
        have h1 := HLN.out
        have h2 := (HRR.out.end_).2 (fun e => by rw [e] at hcs; simp [cutT] at hcs)
        omega
      have hex : (bs (peekT rest2)).extract 6 (bs (peekT rest2)).size = bs y := by rw [bs_extract, bs_list, bs_size, List.take_length, hy]; rfl
      have h6 : (6 : Int) ≤ ((bs (peekT rest2)).size : Int) := by rw [bs_size, hy]; simp; omega
      have h69 : ((bs (peekT rest2)).size : Int) ≤ 100000 := by rw [bs_size]; have := peekT_len rest2; omega
      have HPA := Lib.hid (r15_parse (y := y) (by have := peekT_len rest2; rw [hy] at this; simp at this; omega) wr)
      obtain ⟨px2, hpx2⟩ : ∃ px, px = bs (peekT rest2) := ⟨_, rfl⟩
      rw [← hpx2] at HBG hex h6 h69 ⊢
      obtain ⟨o, hoo⟩ : ∃ o, o = truthsP y := ⟨_, rfl⟩
      rw [← hoo] at HPA HBR
      obtain ⟨sy, hsy⟩ : ∃ sy, sy = bs y := ⟨_, rfl⟩
      rw [← hsy] at HPA hex
      clear hbeg hcs hy hbr hpx2 hoo hsy
      go_wp2_with fail
      refine (HBG.out _).mono ?_
      rintro e wr' ⟨rfl, rfl⟩
      cases o with
      | none =>
        have HPB : Hid (P = .bad (j + 1)) := Lib.hid (by rw [HPR.out, HSTEP.out, HBR.out])
        go_wp2_with fail
        refine HPA.out.mono ?_
        rintro e w9 ⟨rfl, hb⟩
        have hC9 : Chg (fun k => k = g7) w2 w9 := HCW.out.trans (Chg.of_below (S := fun k => k = g7) hb) (fun i hi => .inl hi)
        have HF := Lib.hid (HFB.out w9 (j + 1) ((j : Int) + 1) hC9 HPB.out rfl)
        obtain ⟨⟨c0, c1, c2, c3⟩, ⟨f0, f1, f2, f3⟩, s0, s1, s2, s3⟩ := HZ2.out w9 hC9
        clear hC9 hb hvi
        go_upto_region 35 with (fail)
        repeat go_step
        try simp only [Exit.inBlock, Exit.then]
        exact bodyPost_ret (v := .tuple #[.agg #[.slice none 0 0, .slice none 0 0, .slice none 0 0, .int .i64 0], .int .i64 ((j : Int) + 1), .int .i64 2]) (by simp [results, Tryz.results25, go_sem, c0, c1, c2, c3]) rfl HF.out
      | some l =>
        have HP7 : Hid (P = cycF v ms ord r'.length (ls ++ [l]) r' (j + 1 + 1)) := Lib.hid (by rw [HPR.out, HSTEP.out, HBR.out])
        go_wp2_with fail
        refine HPA.out.mono ?_
        rintro e w6c ⟨ul, rfl, hul⟩
        obtain ⟨al2, cl2, rfl, -, -⟩ := hul.form
        have hlo : ∀ q, (Value.slice al2 l.length cl2).ownBlock = some q → wp.heap.size ≤ q ∧ vi.ownBlock ≠ some q := fun q hq => by
          have h1 := hul.2.2 q hq
          have h2 := HCR.out.size
          exact ⟨by omega, fun e => by have := HIR.out.top.lt q e; omega⟩
        have HLO := Lib.hid hlo
        have HB6c := Lib.hid hul.2.1
        have HT6 := Lib.hid (HTR.out.below HB6c.out HTR.out.lt)
        have HI6 : Hid (InsM wp w6c vi us2 ls) := Lib.hid (HIR.out.chg (S := fun _ => False) (Chg.of_below HB6c.out) (fun k hk => hk.elim))
        have HC6 : Hid (Chg (fun k => k = g7) wp w6c) := Lib.hid (HCR.out.trans (Chg.of_below (S := fun k => k = g7) HB6c.out) (fun i hi => .inl hi))
        have HUL := Lib.hid hul.1
        have c2 : w6c.cell? ⟨g7, 2, none⟩ = some vi := HT6.out.cell 2
        have hg6 : g7 < w6c.heap.size := HT6.out.lt
        obtain ⟨W2, hW2⟩ : ∃ W2, W2 = w6c.alloc (.cells #[.slice al2 l.length cl2] 24) := ⟨_, rfl⟩
        have hB2 : Below w6c.heap.size w6c W2 := by rw [hW2]; exact (Below.refl _ w6c).alloc (Nat.le_refl _) _
        have hrow2 : Row W2 24 1 vi us2.length us2 := HI6.out.top.chg (S := fun _ => False) (Chg.of_below hB2) (fun _ _ h => h)
        have hnew : ∀ j u, [Value.slice al2 l.length cl2][j]? = some u → W2.cell? ⟨w6c.heap.size, 0 + j, none⟩ = some u := fun j u hj => by
          rw [hW2, Nat.zero_add]
          have := (Blk.new w6c 24 #[.slice al2 l.length cl2]).cell j
          rw [this]
          simpa using hj
        have hus : us2.length ≤ 60000 := by have := HI6.out.len; have := HLS.out; omega
        have HBW2 := Lib.hid hB2
        have HROW2 := Lib.hid hrow2
        have HNEW := Lib.hid hnew
        have HW2b := Lib.hid hW2
        rw [hW2] at HROW2 HNEW
        clear hul hlo hB2 hrow2 hnew hW2 HSTEP HPR
        subst hvi
        go_wp2_with (at_builtin; refine wpList_app rfl _ _ _ rfl 24 (.slice none 0 0) 1 24 Tryz.underlying28 infoBL rfl (by decide) (.slice avi ls.length cvi) us2.length us2 rfl ?ho _ _ 1 1 [.slice al2 l.length cl2] rfl rfl ?hn ?hs ?c1 ?c2 ?_)
        case ho => exact HROW2.out
        case hn => exact HNEW.out
        case hs => (intro u hu; simp at hu; subst hu; rfl)
        case c1 => unfold maxLen; omega
        case c2 => omega
        intro v9 wB hpF
        have hpG : AppPost W2 24 1 (.slice avi ls.length cvi) (us2.length + 1) (us2 ++ [.slice al2 l.length cl2]) v9 wB := by rw [HW2b.out]; exact hpF
        have hcB := hpG.2.1
        obtain ⟨gv, cv, rfl, -, -, -⟩ := hpF.1.some_ (by omega)
        have kB2 : wB.cell? ⟨g7, 2, none⟩ = some (.slice avi ls.length cvi) := ((HT6.out.below HBW2.out HT6.out.lt).chg hcB (fun e => by have := HI6.out.own g7 e; omega)).cell 2
        have fB2 : wB.frozen? ⟨g7, 2, none⟩ = false := ((HT6.out.below HBW2.out HT6.out.lt).chg hcB (fun e => by have := HI6.out.own g7 e; omega)).frozen 2
        have HST9 := Lib.hid (CycJ.step (i := j) hgc HP7.out HRL.out HLS.out HNX.out.2.2 HT6.out HI6.out HUL.out rfl HLO.out HC6.out HBW2.out hpG)
        have HL9 := Lib.hid (HLINE.out _ r' (j + 1) (HCP.out.trans HST9.out.2 (fun i hi => .inl hi)) HNX.out.2.2)
        have zi : IntKind.i64.wrap ((j : Int) + 1) = (j : Int) + 1 := IntWalk.i64_in _ (by omega)
        rw [show ((j + 1 : Nat) : Int) = (j : Int) + 1 by omega] at HL9
        clear hpF hpG hcB
        go_wp2_with fail
        refine HL9.out.mono ?_
        rintro e w9 ⟨rfl, rfl⟩
        go_wp2
        go_roundw
        case rel => exact ⟨j + 1, r', by go_num, rfl, rfl, HST9.out.1⟩
        case measure => simp [intOf]; omega
    · have HP7 : Hid (P = finT v ms ord ls rest2 (j + 1)) := Lib.hid (by rw [HPR.out, HSTEP.out, if_neg hbeg])
      have hbf : beginsT (wCyc ++ [32]) (peekT rest2) = false := Bool.eq_false_iff.2 hbeg
      rw [hbf] at HBG
      have HMT : Hid (∀ b9, b9 = (cutT rest2).isSome → CutK wp g7 bm P s v (.slice al v.length cl) b ms ord (.int .i64 (j : Nat)) (.string (bs (peekT rest2))) (.bool b9) wr) := Lib.hid fun b9 h9 => ⟨j, rest2, vi, us2, ls, rfl, rfl, by rw [h9], HP7.out, HRR.out, hrl, HTR.out, HIR.out, HCR.out⟩
      obtain ⟨b9, h9⟩ : ∃ b, b = (cutT rest2).isSome := ⟨_, rfl⟩
      have HM9 := Lib.hid (HMT.out b9 h9)
      rw [← h9]
      obtain ⟨px2, hpx2⟩ : ∃ px, px = bs (peekT rest2) := ⟨_, rfl⟩
      rw [← hpx2] at HBG HM9 ⊢
      clear h9 hbeg hbf HSTEP hpx2 HMT hvi
      cases b9 with
      | false =>
        go_wp2_with fail
        go_meet
        exact HM9.out
      | true =>
        go_wp2_with fail
        refine (HBG.out _).mono ?_
        rintro e wr' ⟨rfl, rfl⟩
        go_wp2_with fail
        go_meet
        exact HM9.out
end Go.Proofs.YtamgbfkpblpfiaaGreatDoor
/-
  The document's Parse of a witness: its end.
-/
namespace Go.Proofs.YtamgbfkpblpfiaaGreatDoor
open Go.ChangeShapes Go.WideShapes Go.ChangeAt Go.RowKit
set_option linter.unusedVariables false
set_option linter.unusedSimpArgs false
/-- The first region of a statement. -/
def fstR : Code → Option Nat
  | .region n _ _ => some n
  | .seq a _ => fstR a
  | _ => none
/-- What stands from a region on. -/
def findFrom (n : Nat) : Code → Option Code
  | .seq a b => if fstR a = some n then some (.seq a b) else match findFrom n a with
    | some c => some c
    | none => findFrom n b
  | .block _ c => findFrom n c
  | .loop c => findFrom n c
  | .scope c => findFrom n c
  | .cond _ a b => match findFrom n a with
    | some c => some c
    | none => findFrom n b
  | _ => none
noncomputable def fromOf (f : Func) (n : Nat) : Code := (f.body.bind (findFrom n)).getD .skip
set_option maxHeartbeats 8000000 in
set_option maxRecDepth 100000 in
/-- The last line, and whether the witness is right. -/
theorem parse_tail {c : Code} (hc : c = fromOf Tryz.f25 38) {w w2 w5 wz wp wc : World} {g g7 bm b LN cap5 cl : Nat} {A5 al : Option Addr} {LB ord : Bool} {P : PRes} {s : List UInt8} {v : List Bool} {us : List Value} {ms : List CS} {u8 u9 u10 : Value} {y0 y1 y3 y4 y11 y12 y13 y14 y16 y17 y18 y19 y20 y21 y22 y23 y24 y25 y26 y27 y28 y29 y30 y31 y32 y33 y34 y35 y36 y37 y38 y39 y40 y41 y42 y43 y44 y45 y46 y47 y48 y49 y50 y51 y52 y53 y54 y55 y56 y57 y58 y59 y60 y61 y62 y63 y64 y65 y66 y67 y68 y69 y70 y71 y72 y73 y74 y75 y76 y77 y78 y79 y80 y81 y82 y83 y84 y85 y86 y87 y88 y89 y90 y91 y92 y93 y94 y95 y96 y97 y98 y99 y100 y101 y102 y103 y104 y105 y106 y107 y108 y109 y110 y111 y112 y113 y114 y115 y116 y117 y118 y119 y120 y121 y122 y123 y124 y125 y126 y127 y128 y129 y130 y131 y132 y133 y134 y135 y136 y137 y138 y139 y140 y141 y142 y143 y144 y145 y146 y147 y148 y149 y150 y151 y152 y153 y154 y155 y156 y157 y158 y159 y160 y161 y162 y163 y164 y165 y166 y167 y168 y169 y170 y171 y172 y173 y174 y175 y176 y177 y178 y179 y180 y181 y182 y183 y184 y185 y186 y187 y188 y189 y190 y191 y192 y193 y194 y195 y196 y197 y198 y199 y200 y201 y202 y203 y204 y205 y206 y207 y208 y209 y210 y211 y212 y213 y214 y215 y216 y217 y218 y219 y220 y221 y222 y223 y224 y225 y226 y227 y228 y229 y230 y231 y232 y233 y234 y235 y236 y237 y238 y239 y240 y241 y242 y243 y244 y245 y246 y247 y248 y249 y250 y251 y252 y253 y254 y255 y256 y257 y258 y259 y260 y261 y262 y263 y264 : Value}
    (hl : s.length ≤ 50000) (hLN9 : LN ≤ 50001) (hb4 : b ≤ 4) (HLN : Hid (LN = (linesT s).1.length))
    (HLINE : Hid (∀ (W : World) (rest : List UInt8) (i : Nat), Chg (fun k => k = g7) w2 W → RelL s rest i → Calls Tryz.prog 57 #[.slice A5 LN cap5, .bool LB, .int .i64 (i : Nat)] W fun e w' => e = .returned (.tuple #[.string (bs (peekT rest)), .bool (cutT rest).isSome]) ∧ W = w'))
    (HFB : Hid (∀ (W : World) (n : Nat) (z : Int), Chg (fun k => k = g7) w2 W → P = .bad n → z = ((n : Nat) : Int) → ParseV w P (.returned (.tuple #[.agg #[.slice none 0 0, .slice none 0 0, .slice none 0 0, .int .i64 0], .int .i64 z, .int .i64 2])) W))
    (HZ2 : Hid (∀ W : World, Chg (fun k => k = g7) w2 W → (W.cell? ⟨g, 0, none⟩ = some (.slice none 0 0) ∧ W.cell? ⟨g, 1, none⟩ = some (.slice none 0 0) ∧ W.cell? ⟨g, 2, none⟩ = some (.slice none 0 0) ∧ W.cell? ⟨g, 3, none⟩ = some (.int .i64 0)) ∧ (W.frozen? ⟨g, 0, none⟩ = false ∧ W.frozen? ⟨g, 1, none⟩ = false ∧ W.frozen? ⟨g, 2, none⟩ = false ∧ W.frozen? ⟨g, 3, none⟩ = false) ∧ (W.setCell ⟨g, 0, none⟩ (.slice none 0 0) = W ∧ W.setCell ⟨g, 1, none⟩ (.slice none 0 0) = W ∧ W.setCell ⟨g, 2, none⟩ (.slice none 0 0) = W ∧ W.setCell ⟨g, 3, none⟩ (.int .i64 0) = W)))
    (HTG : Hid (∀ W : World, Chg (fun k => k = g7) w2 W → Blk W g 30 #[.slice none 0 0, .slice none 0 0, .slice none 0 0, .int .i64 0]))
    (HBW : Hid (∀ W : World, Chg (fun k => k = g7) w2 W → Below w.heap.size w W)) (HG : Hid (g = w.heap.size)) (HGW : Hid (g < g7))
    (HT7 : Hid (Blk w2 g7 30 #[.slice none 0 0, .slice none 0 0, .slice none 0 0, .int .i64 0])) (HB5 : Hid (Below w2.heap.size w2 w5))
    (HROWz : Hid (Row wz 4 1 (.slice al v.length cl) v.length (v.map Value.bool) ∧ ∀ q, (Value.slice al v.length cl).ownBlock = some q → w5.heap.size ≤ q))
    (HTz : Hid (Blk wz g7 30 #[.slice al v.length cl, .slice (some ⟨bm, 0, none⟩) b b, .slice none 0 0, .int .i64 0]))
    (HBM : Hid (bm = wz.heap.size)) (HMP : Hid (MemsM wz wp bm us ms)) (HML : Hid (ms.length = b)) (HWF : Hid (∀ m ∈ ms, ∀ p ∈ m, wf p.1 ∧ wf p.2))
    (HBP : Hid (Below wz.heap.size wz wp)) (HTP : Hid (Blk wp g7 30 #[.slice al v.length cl, .slice (some ⟨bm, 0, none⟩) b b, .slice none 0 0, .int .i64 0]))
    (HCP : Hid (Chg (fun k => k = g7) w2 wp)) (hgc : g7 < wp.heap.size)
    (hcut : CutK wp g7 bm P s v (.slice al v.length cl) b ms ord u8 u9 u10 wc) :
    c.wp Tryz.prog (bodyPost Tryz.prog Tryz.f25 (ParseV w P)) ⟨#[y0, y1, .pointer (some ⟨g, 0, none⟩), y3, y4, .slice A5 LN cap5, .bool LB, .pointer (some ⟨g7, 0, none⟩), u8, u9, u10, y11, y12, y13, y14, .bool ord, y16, y17, y18, y19, y20, y21, y22, y23, y24, y25, y26, y27, y28, y29, y30, y31, y32, y33, y34, y35, y36, y37, y38, y39, y40, y41, y42, y43, y44, y45, y46, y47, y48, y49, y50, y51, y52, y53, y54, y55, y56, y57, y58, y59, y60, y61, y62, y63, y64, y65, y66, y67, y68, y69, y70, y71, y72, y73, y74, y75, y76, y77, y78, y79, y80, y81, y82, y83, y84, y85, y86, y87, y88, y89, y90, y91, y92, y93, y94, y95, y96, y97, y98, y99, y100, y101, y102, y103, y104, y105, y106, y107, y108, y109, y110, y111, y112, y113, y114, y115, y116, y117, y118, y119, y120, y121, y122, y123, y124, y125, y126, y127, y128, y129, y130, y131, y132, y133, y134, y135, y136, y137, y138, y139, y140, y141, y142, y143, y144, y145, y146, y147, y148, y149, y150, y151, y152, y153, y154, y155, y156, y157, y158, y159, y160, y161, y162, y163, y164, y165, y166, y167, y168, y169, y170, y171, y172, y173, y174, y175, y176, y177, y178, y179, y180, y181, y182, y183, y184, y185, y186, y187, y188, y189, y190, y191, y192, y193, y194, y195, y196, y197, y198, y199, y200, y201, y202, y203, y204, y205, y206, y207, y208, y209, y210, y211, y212, y213, y214, y215, y216, y217, y218, y219, y220, y221, y222, y223, y224, y225, y226, y227, y228, y229, y230, y231, y232, y233, y234, y235, y236, y237, y238, y239, y240, y241, y242, y243, y244, y245, y246, y247, y248, y249, y250, y251, y252, y253, y254, y255, y256, y257, y258, y259, y260, y261, y262, y263, y264], []⟩ wc := by
  subst hc
  conv => arg 2; whnf
  obtain ⟨j, rest2, vi, us2, ls, rfl, rfl, rfl, hP, hR, hrl, hT, hI, hC⟩ := hcut
  have HRR := Lib.hid hR
  have HTR := Lib.hid hT
  have HIR := Lib.hid hI
  have HCR := Lib.hid hC
  have HCW : Hid (Chg (fun k => k = g7) w2 wc) := Lib.hid (HCP.out.trans hC (fun i hi => .inl hi))
  have HPF := Lib.hid (hP.trans (finT_step v ms ord ls rest2 (j + 1)))
  have HL4 := Lib.hid (HLINE.out wc rest2 j HCW.out hR)
  have hj9 : j ≤ 50000 := by have := hR.le; omega
  obtain ⟨avi, cvi, hvi, hv1, hv2⟩ := hI.form
  obtain ⟨wn, hwn⟩ : ∃ wn, wn = wc.alloc (.cells #[.int .u64 1000] 82) := ⟨_, rfl⟩
  have HBN : Hid (Below wc.heap.size wc wn) := Lib.hid (by rw [hwn]; exact (Below.refl _ wc).alloc (Nat.le_refl _) _)
  have HNN := Lib.hid (r15_numbers (w := wn) (peekT rest2) wBad [1000] (bm := wc.heap.size) (cap := 1) (by have := peekT_len rest2; omega) ⟨by decide, by decide⟩ (fun j hj => by
    rw [hwn]
    have := (Blk.new wc 82 #[.int .u64 1000]).cell
    match j, hj with
    | 0, _ => exact this 0))
  have HWN := Lib.hid hwn
  obtain ⟨b9, h9⟩ : ∃ b, b = (cutT rest2).isSome := ⟨_, rfl⟩
  have HB9 := Lib.hid h9
  have hlr2 : rest2.length ≤ 60000 := hrl
  rw [← h9] at HL4 ⊢
  obtain ⟨px2, hpx2⟩ : ∃ px, px = bs (peekT rest2) := ⟨_, rfl⟩
  rw [← hpx2] at HL4 HNN ⊢
  have zj : IntKind.i64.wrap ((j : Int) + 1) = (j : Int) + 1 := IntWalk.i64_in _ (by omega)
  clear hP hR hT hI hC hwn h9 hpx2 hrl
  cases ho : numsR wBad [1000] rest2 with
  | none =>
    have HPB : Hid (P = .bad (j + 1)) := Lib.hid (by rw [HPF.out, ho])
    rw [numsT_peek ho (by decide)] at HNN
    clear ho hvi
    go_wp2_with fail
    refine HL4.out.mono ?_
    rintro e wc' ⟨rfl, rfl⟩
    go_wp2_with fail
    rw [← HWN.out]
    refine HNN.out.mono ?_
    rintro e w9 ⟨rfl, hb⟩
    have hC9 : Chg (fun k => k = g7) w2 w9 := HCW.out.trans (Chg.of_below (S := fun k => k = g7) (HBN.out.trans (hb.mono HBN.out.size))) (fun i hi => .inl hi)
    have HF := Lib.hid (HFB.out w9 (j + 1) ((j : Int) + 1) hC9 HPB.out rfl)
    obtain ⟨⟨c0, c1, c2, c3⟩, ⟨f0, f1, f2, f3⟩, s0, s1, s2, s3⟩ := HZ2.out w9 hC9
    clear hC9 hb
    cases b9
    all_goals
      go_upto_region 41 with (fail)
      repeat go_step
      try simp only [Exit.inBlock, Exit.then]
      exact bodyPost_ret (v := .tuple #[.agg #[.slice none 0 0, .slice none 0 0, .slice none 0 0, .int .i64 0], .int .i64 ((j : Int) + 1), .int .i64 2]) (by simp [results, Tryz.results25, go_sem, c0, c1, c2, c3]) rfl HF.out
  | some q =>
    obtain ⟨ns, r'⟩ := q
    obtain ⟨hnl, hrl⟩ := numsR_len ho
    have hnm := numsR_le ho
    obtain ⟨hcs, hns⟩ := numsR_parts ho
    obtain ⟨k, rfl⟩ : ∃ k, ns = [k] := by
      match ns, hnl with
      | [k], _ => exact ⟨k, rfl⟩
    have hk : k ≤ 1000 := hnm.2 0
    rw [hns] at HNN
    have HPX : Hid (P = if r' = [] then (if ord && rightT ⟨v, ms, ls, (k : Int)⟩ then .ok ⟨v, ms, ls, (k : Int)⟩ else .ill) else .bad (j + 1 + 1)) := Lib.hid (by rw [HPF.out, ho]; rfl)
    have hend := ((HRR.out.next hcs).2.2).end_
    rw [← HLN.out] at hend
    obtain rfl : b9 = true := by rw [HB9.out, hcs]; rfl
    clear ho hnl hnm hrl hcs hns HPF
    go_wp2_with fail
    refine HL4.out.mono ?_
    rintro e wc' ⟨rfl, rfl⟩
    go_wp2_with fail
    rw [← HWN.out]
    refine HNN.out.mono ?_
    rintro e w9 ⟨ub, rfl, hub⟩
    obtain ⟨gb, capb, rfl, -, hgb2, hcb⟩ := nums_cells hub (by simp)
    have q0 : w9.cell? ⟨gb, 0, none⟩ = some (.int .u64 (k : Int)) := hcb 0 (by simp)
    have HB9w : Hid (Below wc.heap.size wc w9) := Lib.hid (HBN.out.trans (hub.2.1.mono HBN.out.size))
    have HC9 : Hid (Chg (fun k => k = g7) w2 w9) := Lib.hid (HCW.out.trans (Chg.of_below (S := fun k => k = g7) HB9w.out) (fun i hi => .inl hi))
    clear hub hcb HNN HWN HL4
    by_cases hr0 : r' = []
    · have HPY : Hid (P = if ord && rightT ⟨v, ms, ls, (k : Int)⟩ then .ok ⟨v, ms, ls, (k : Int)⟩ else .ill) := Lib.hid (by rw [HPX.out, if_pos hr0])
      have hlt : ¬ (j : Int) + 1 < (LN : Int) := fun h => (hend.1 (by omega)) hr0
      have zk : IntKind.i64.wrap (k : Int) = (k : Int) := IntWalk.i64_in _ (by omega)
      have HT9 := Lib.hid (HTR.out.below HB9w.out HTR.out.lt)
      obtain ⟨w10, hw10⟩ : ∃ w10, w10 = w9.setCell ⟨g7, 3, none⟩ (.int .i64 (k : Int)) := ⟨_, rfl⟩
      have hT10 : Blk w10 g7 30 #[.slice al v.length cl, .slice (some ⟨bm, 0, none⟩) b b, vi, .int .i64 (k : Int)] := by rw [hw10]; exact HT9.out.set_ 3 _
      have hc10 : Chg (fun k => k = g7) w9 w10 := by rw [hw10]; exact (Chg.refl (fun k => k = g7) w9).setCell (p := ⟨g7, 3, none⟩) (.inl rfl) _
      have HC10 : Hid (Chg (fun k => k = g7) w2 w10) := Lib.hid (HC9.out.trans hc10 (fun i hi => .inl hi))
      have hcp10 : Chg (fun k => k = g7) wp w10 := (HCR.out.trans (Chg.of_below (S := fun k => k = g7) HB9w.out) (fun i hi => .inl hi)).trans hc10 (fun i hi => .inl hi)
      have hI10 : InsM wp w10 vi us2 ls := (HIR.out.chg (S := fun _ => False) (Chg.of_below HB9w.out) (fun k hk => hk.elim)).chg hc10 (fun k hk => by have := HTP.out.lt; omega)
      have hM10 : MemsM wz w10 bm us ms := HMP.out.chg2 hcp10 (fun k hk => by have := HBM.out; have := HTz.out.lt; omega)
      have hV10 : Row w10 4 1 (.slice al v.length cl) v.length (v.map Value.bool) := by
        have h1 := HROWz.out.1.chg (S := fun _ => False) (Chg.of_below HBP.out) (fun _ _ h => h)
        exact h1.chg hcp10 (fun q hq e => by have h2 := HROWz.out.2 q hq; have h3 := HT7.out.lt; have h4 := HB5.out.size; omega)
      have hbl : ms.length ≤ maxLen := by have := HML.out; unfold maxLen; omega
      have HTW : Hid (∀ W, Chg (fun k => k ≤ g) w10 W → TrP W ⟨v, ms, ls, (k : Int)⟩ (.slice al v.length cl) (.slice (some ⟨bm, 0, none⟩) b b) vi) := Lib.hid fun W hW => ⟨row_bo (hV10.chg hW (fun q hq e => by have h2 := HROWz.out.2 q hq; have h3 := HT7.out.lt; have h4 := HB5.out.size; have h5 := HGW.out; omega)), by have := (hM10.chg2 hW (fun k hk => by have h1 := HBM.out; have h2 := HTz.out.lt; have h5 := HGW.out; omega)).ces HWF.out hbl; rw [HML.out] at this; exact this, (hI10.chg hW (fun k hk => by have h5 := HGW.out; omega)).bos⟩
      have HRT := Lib.hid (r15_Right (HTW.out w10 (Chg.refl _ _)))
      unfold trV at HRT
      simp only at HRT
      obtain ⟨⟨c0, c1, c2, c3⟩, ⟨f0, f1, f2, f3⟩, -⟩ := HT9.out.all4
      obtain ⟨⟨p0, p1, p2, p3⟩, -, -⟩ := hT10.all4
      have HT10 := Lib.hid hT10
      have hw10' := hw10.symm
      have hg9 := HT9.out.lt
      have hlj : ¬ (j : Int) + 1 < (LN : Int) := hlt
      clear hw10 hT10 hc10 hcp10 hI10 hM10 hV10 hbl hr0 hend hlt
      subst hvi
      cases ord with
      | false =>
        have HPI : Hid (P = .ill) := Lib.hid (by rw [HPY.out]; rfl)
        have HF : Hid (ParseV w P (.returned (.tuple #[.agg #[.slice none 0 0, .slice none 0 0, .slice none 0 0, .int .i64 0], .int .i64 0, .int .i64 14])) w10) := Lib.hid ⟨HBW.out _ HC10.out, .slice none 0 0, .slice none 0 0, .slice none 0 0, by rw [HPI.out]; rfl, by rw [HPI.out]; exact fun _ _ => TrP.nil _ _⟩
        obtain ⟨⟨d0, d1, d2, d3⟩, ⟨e0, e1, e2, e3⟩, s0, s1, s2, s3⟩ := HZ2.out w10 HC10.out
        go_upto_region 47 with (fail)
        repeat go_step
        try simp only [Exit.inBlock, Exit.then]
        exact bodyPost_ret (v := .tuple #[.agg #[.slice none 0 0, .slice none 0 0, .slice none 0 0, .int .i64 0], .int .i64 0, .int .i64 14]) (by simp [results, Tryz.results25, go_sem, d0, d1, d2, d3]) rfl HF.out
      | true =>
        cases hrt : rightT ⟨v, ms, ls, (k : Int)⟩ with
        | false =>
          have HPI : Hid (P = .ill) := Lib.hid (by rw [HPY.out, hrt]; rfl)
          rw [hrt] at HRT
          clear hrt
          go_wp2_with fail
          refine HRT.out.mono ?_
          rintro e w11 ⟨rfl, hb⟩
          have hC11 : Chg (fun k => k = g7) w2 w11 := HC10.out.trans (Chg.of_below (S := fun k => k = g7) hb) (fun i hi => .inl hi)
          have HF : Hid (ParseV w P (.returned (.tuple #[.agg #[.slice none 0 0, .slice none 0 0, .slice none 0 0, .int .i64 0], .int .i64 0, .int .i64 14])) w11) := Lib.hid ⟨HBW.out _ hC11, .slice none 0 0, .slice none 0 0, .slice none 0 0, by rw [HPI.out]; rfl, by rw [HPI.out]; exact fun _ _ => TrP.nil _ _⟩
          obtain ⟨⟨d0, d1, d2, d3⟩, ⟨e0, e1, e2, e3⟩, s0, s1, s2, s3⟩ := HZ2.out w11 hC11
          clear hC11 hb
          go_upto_region 47 with (fail)
          repeat go_step
          try simp only [Exit.inBlock, Exit.then]
          exact bodyPost_ret (v := .tuple #[.agg #[.slice none 0 0, .slice none 0 0, .slice none 0 0, .int .i64 0], .int .i64 0, .int .i64 14]) (by simp [results, Tryz.results25, go_sem, d0, d1, d2, d3]) rfl HF.out
        | true =>
          have HPI : Hid (P = .ok ⟨v, ms, ls, (k : Int)⟩) := Lib.hid (by rw [HPY.out, hrt]; rfl)
          rw [hrt] at HRT
          clear hrt
          go_wp2_with fail
          refine HRT.out.mono ?_
          rintro e w11 ⟨rfl, hb⟩
          have hC11 : Chg (fun k => k = g7) w2 w11 := HC10.out.trans (Chg.of_below (S := fun k => k = g7) hb) (fun i hi => .inl hi)
          have hTG := HTG.out w11 hC11
          have hT12 : Blk ((((w11.setCell ⟨g, 0, none⟩ (.slice al v.length cl)).setCell ⟨g, 1, none⟩ (.slice (some ⟨bm, 0, none⟩) b b)).setCell ⟨g, 2, none⟩ (.slice avi ls.length cvi)).setCell ⟨g, 3, none⟩ (.int .i64 (k : Int))) g 30 #[.slice al v.length cl, .slice (some ⟨bm, 0, none⟩) b b, .slice avi ls.length cvi, .int .i64 (k : Int)] := (((hTG.set_ 0 _).set_ 1 _).set_ 2 _).set_ 3 _
          have hc12 : Chg (fun k => k = g) w11 ((((w11.setCell ⟨g, 0, none⟩ (.slice al v.length cl)).setCell ⟨g, 1, none⟩ (.slice (some ⟨bm, 0, none⟩) b b)).setCell ⟨g, 2, none⟩ (.slice avi ls.length cvi)).setCell ⟨g, 3, none⟩ (.int .i64 (k : Int))) := ((((Chg.refl (fun k => k = g) w11).setCell (p := ⟨g, 0, none⟩) (.inl rfl) _).setCell (p := ⟨g, 1, none⟩) (.inl rfl) _).setCell (p := ⟨g, 2, none⟩) (.inl rfl) _).setCell (p := ⟨g, 3, none⟩) (.inl rfl) _
          have hTP := fun W hW => HTW.out W (((Chg.of_below (S := fun k => k ≤ g) hb).trans hc12 (fun i hi => .inl (by omega))).trans (S' := fun k => k < w.heap.size) hW (fun i hi => .inl (by have := HG.out; omega)))
          have hBF := (HBW.out _ hC11).trans (hc12.below (HBW.out _ hC11).size (fun i hi => by rw [hi, HG.out]; exact Nat.le_refl _))
          have HF : Hid (ParseV w P (.returned (.tuple #[.agg #[.slice al v.length cl, .slice (some ⟨bm, 0, none⟩) b b, .slice avi ls.length cvi, .int .i64 (k : Int)], .int .i64 0, .int .i64 0])) ((((w11.setCell ⟨g, 0, none⟩ (.slice al v.length cl)).setCell ⟨g, 1, none⟩ (.slice (some ⟨bm, 0, none⟩) b b)).setCell ⟨g, 2, none⟩ (.slice avi ls.length cvi)).setCell ⟨g, 3, none⟩ (.int .i64 (k : Int)))) := Lib.hid ⟨hBF, _, _, _, by rw [HPI.out]; rfl, by rw [HPI.out]; exact hTP⟩
          obtain ⟨⟨d0, d1, d2, d3⟩, ⟨e0, e1, e2, e3⟩, -⟩ := hTG.all4
          obtain ⟨⟨t0, t1, t2, t3⟩, -, -⟩ := hT12.all4
          clear p0 p1 p2 p3
          obtain ⟨⟨p0, p1, p2, p3⟩, -, -⟩ := (HT10.out.below hb HT10.out.lt).all4
          clear hC11 hb hTG hT12 hc12 hTP hBF
          go_upto_region 48 with (fail)
          repeat go_step
          try simp only [Exit.inBlock, Exit.then]
          exact bodyPost_ret (v := .tuple #[.agg #[.slice al v.length cl, .slice (some ⟨bm, 0, none⟩) b b, .slice avi ls.length cvi, .int .i64 (k : Int)], .int .i64 0, .int .i64 0]) (by simp [results, Tryz.results25, go_sem, t0, t1, t2, t3]) rfl HF.out
    · have HPB : Hid (P = .bad (j + 1 + 1)) := Lib.hid (by rw [HPX.out, if_neg hr0])
      have hlt : (j : Int) + 1 < (LN : Int) := by have := hend.2 hr0; omega
      have zj2 : IntKind.i64.wrap ((j : Int) + 1 + 1) = (j : Int) + 1 + 1 := IntWalk.i64_in _ (by omega)
      have HF := Lib.hid (HFB.out w9 (j + 1 + 1) ((j : Int) + 1 + 1) HC9.out HPB.out rfl)
      obtain ⟨⟨c0, c1, c2, c3⟩, ⟨f0, f1, f2, f3⟩, s0, s1, s2, s3⟩ := HZ2.out w9 HC9.out
      clear hr0 hend hvi
      go_upto_region 44 with (fail)
      repeat go_step
      try simp only [Exit.inBlock, Exit.then]
      exact bodyPost_ret (v := .tuple #[.agg #[.slice none 0 0, .slice none 0 0, .slice none 0 0, .int .i64 0], .int .i64 ((j : Int) + 1 + 1), .int .i64 2]) (by simp [results, Tryz.results25, go_sem, c0, c1, c2, c3]) rfl HF.out
end Go.Proofs.YtamgbfkpblpfiaaGreatDoor
