/-
  Package trace: the reader's lines, all of them, walked.
-/
import Derived.Test.YtamgbfkpblpfiaaGreatDoorTpP
import Derived.Deep.QuietTactic
import Derived.BigQuiet

namespace Go.Proofs.YtamgbfkpblpfiaaGreatDoor
open Go.ChangeShapes Go.WideShapes Go.ChangeAt Go.RowKit
set_option linter.unusedVariables false
set_option linter.unusedSimpArgs false
/-- A witness half made, in its slots. -/
def ShT (t : Value) : Prop := ∃ A1 n1 c1 A2 n2 c2 A3 n3 c3, t = .agg #[.slice A1 n1 c1, .slice A2 n2 c2, .slice A3 n3 c3, .int .i64 0]
theorem sht {A1 A2 A3 : Option Addr} {n1 n2 n3 c1 c2 c3 : Nat} : ShT (.agg #[.slice A1 n1 c1, .slice A2 n2 c2, .slice A3 n3 c3, .int .i64 0]) := ⟨_, _, _, _, _, _, _, _, _, rfl⟩
def TraceQ (w : World) (r : Nat) (p : PRes) (e : Ending) (w' : World) : Prop := Chg (fun k => k = r) w w' ∧
  ((∃ n t b v, ShT t ∧ p = .bad n ∧ e = .returned (.tuple #[t, .bool b, v]) ∧ Bad w' 2 n v) ∨
   (∃ d ord vl vm vi, e = .returned (.tuple #[trV d vl vm vi, .bool ord, .nilIface]) ∧ (∀ W, Chg (fun k => k < w.heap.size) w' W → TrP W d vl vm vi) ∧ p = if ord && rightT d then .ok d else .ill))
theorem infoCL : (Tryz.prog.info? 119).map (fun i => (i.zero, i.size, i.bytes)) = some (some (.slice none 0 0), 1, 24) := by kernel_rfl
theorem infoBL : (Tryz.prog.info? 24).map (fun i => (i.zero, i.size, i.bytes)) = some (some (.slice none 0 0), 1, 24) := by kernel_rfl
theorem infoCE : (Tryz.prog.info? 121).map (fun i => (i.zero, i.size, i.bytes)) = some (some (.agg #[.int .u64 0, .int .u64 0]), 2, 16) := by kernel_rfl
/-- What stands when so many cells were read. -/
def CelI (w4 : World) (r g bm : Nat) (P : PRes) (lat : List Bool) (vl : Value) (b : Nat) (ord : Bool) (last : Nat) (wr : World) : Prop := ∃ rest n us ms,
  P = celF lat b rest.length ms last ord rest n ∧ n + rest.length ≤ 60000 ∧ RdAt wr r rest n ∧ Blk wr g 30 #[vl, .slice (some ⟨bm, 0, none⟩) b b, .slice none 0 0, .int .i64 0] ∧ MemsM w4 wr bm us ms ∧ ms.length = b ∧
  (∀ m ∈ ms, ∀ p ∈ m, wf p.1 ∧ wf p.2) ∧ (∀ i, (ms.getD i []).length + rest.length ≤ 60000) ∧ Chg (fun k => k = r ∨ k = g) w4 wr
theorem CelI.step {wz w7 W2 wB : World} {r g bm b m n a1 x1 : Nat} {P : PRes} {lat : List Bool} {vl v9 : Value} {us : List Value} {ms : List CS} {rest r' : List UInt8} {ord : Bool}
    (hbm : bm = wz.heap.size) (hg : g < bm) (hr : r < g) (hP : P = celF lat b r'.length (ms.set m (ms.getD m [] ++ [((a1 : Int), (x1 : Int))])) m ord r' (n + 1))
    (hn : n + rest.length ≤ 60000) (hl : r'.length < rest.length) (hrd : RdAt w7 r r' (n + 1)) (hT : Blk w7 g 30 #[vl, .slice (some ⟨bm, 0, none⟩) b b, .slice none 0 0, .int .i64 0])
    (hM : MemsM wz w7 bm us ms) (hml : ms.length = b) (hm : m < ms.length) (hwf : ∀ m ∈ ms, ∀ p ∈ m, wf p.1 ∧ wf p.2) (hcl : ∀ i, (ms.getD i []).length + rest.length ≤ 60000)
    (hC : Chg (fun k => k = r ∨ k = g) wz w7) (hB : Below w7.heap.size w7 W2) (wa : wf (a1 : Int)) (wx : wf (x1 : Int))
    (hp : AppPost W2 121 2 (us.getD m undef) ((ms.getD m []).length + 1) ((ms.getD m []).flatMap celC ++ [Value.int .u64 (a1 : Int), .int .u64 (x1 : Int)]) v9 wB) :
    CelI wz r g bm P lat vl b ord m (wB.setCell ⟨bm, m, none⟩ v9) ∧ restLen (wB.setCell ⟨bm, m, none⟩ v9) r = r'.length := by
  have hbl := hM.blk.lt
  have hM2 := hM.below hB
  have hz2 : wz.heap.size ≤ W2.heap.size := Nat.le_trans hC.size hB.size
  have hA := hM2.app hm ((a1 : Int), (x1 : Int)) hz2 hM2.blk.lt hp
  have hown : ∀ q, (us.getD m undef).ownBlock = some q → wz.heap.size ≤ q ∧ q ≠ bm := fun q hq => hM.own m q hm hq
  have hcB := hp.2.1
  have hcS : Chg (fun k => k = bm) wB (wB.setCell ⟨bm, m, none⟩ v9) := (Chg.refl (fun k => k = bm) wB).setCell (p := ⟨bm, m, none⟩) (.inl rfl) _
  have hrd9 : RdAt (wB.setCell ⟨bm, m, none⟩ v9) r r' (n + 1) := ((hrd.below hB).chg hcB (fun e => by have := (hown r e).1; omega)).chg hcS (by omega)
  refine ⟨⟨r', n + 1, _, _, hP, by omega, hrd9, ((hT.below hB hT.lt).chg hcB (fun e => by have := (hown g e).1; omega)).chg hcS (by omega), hA, by rw [List.length_set]; exact hml, fun l hl' p hp' => ?_, fun i => ?_, ((hC.trans (Chg.of_below (S := fun k => k = r ∨ k = g) hB) (fun i hi => .inl hi)).trans hcB (fun i hi => .inr (hown i hi).1)).trans hcS (fun i hi => .inr (by omega))⟩, hrd9.len⟩
  · rcases List.mem_or_eq_of_mem_set hl' with h | h
    · exact hwf l h p hp'
    · subst h
      rcases List.mem_append.1 hp' with h | h
      · rw [List.getD_eq_getElem?_getD, List.getElem?_eq_getElem hm] at h
        exact hwf _ (List.getElem_mem hm) p h
      · rw [List.mem_singleton.1 h]
        exact ⟨wa, wx⟩
  · rw [getD_setG _ _ _ _ _ hm]
    have h1 := hcl i
    have h2 := hcl m
    split
    · rw [List.length_append, List.length_singleton]; omega
    · omega
/-- What stands when so many cycles were read. -/
def CycI (w1 : World) (r g bm : Nat) (P : PRes) (lat : List Bool) (vl : Value) (b : Nat) (ms : List CS) (ord : Bool) (wr : World) : Prop := ∃ rest n vi us ls,
  P = cycF lat ms ord rest.length ls rest n ∧ n + rest.length ≤ 60000 ∧ RdAt wr r rest n ∧ Blk wr g 30 #[vl, .slice (some ⟨bm, 0, none⟩) b b, vi, .int .i64 0] ∧ InsM w1 wr vi us ls ∧ ls.length + rest.length ≤ 60000 ∧ Chg (fun k => k = r ∨ k = g) w1 wr
theorem CycI.step {w1 w6 W2 wB : World} {r g bm b n : Nat} {P : PRes} {lat l : List Bool} {vl vi v' u : Value} {us : List Value} {ms : List CS} {ls : List (List Bool)} {rest r' : List UInt8} {ord : Bool}
    (hr : r < g) (hg : g < w1.heap.size) (hP : P = cycF lat ms ord r'.length (ls ++ [l]) r' (n + 1)) (hn : n + rest.length ≤ 60000) (hl : r'.length < rest.length) (hls : ls.length + rest.length ≤ 60000)
    (hrd : RdAt w6 r r' (n + 1)) (hT : Blk w6 g 30 #[vl, .slice (some ⟨bm, 0, none⟩) b b, vi, .int .i64 0]) (hI : InsM w1 w6 vi us ls) (hu : Row w6 4 1 u l.length (l.map Value.bool)) (hs : u.oneCell' = true)
    (hlo : ∀ q, u.ownBlock = some q → w1.heap.size ≤ q ∧ vi.ownBlock ≠ some q) (hC : Chg (fun k => k = r ∨ k = g) w1 w6) (hB : Below w6.heap.size w6 W2) (hp : AppPost W2 24 1 vi (us.length + 1) (us ++ [u]) v' wB) :
    CycI w1 r g bm P lat vl b ms ord (wB.setCell ⟨g, 2, none⟩ v') ∧ restLen (wB.setCell ⟨g, 2, none⟩ v') r = r'.length := by
  have hz2 : w1.heap.size ≤ W2.heap.size := Nat.le_trans hC.size hB.size
  have hI2 : InsM w1 W2 vi us ls := hI.chg (S := fun _ => False) (Chg.of_below hB) (fun _ h => h.elim)
  have hA := hI2.app (hu.chg (S := fun _ => False) (Chg.of_below hB) (fun _ _ h => h)) hs hz2 hlo hp
  have hcB := hp.2.1
  have hcS : Chg (fun k => k = g) wB (wB.setCell ⟨g, 2, none⟩ v') := (Chg.refl (fun k => k = g) wB).setCell (p := ⟨g, 2, none⟩) (.inl rfl) _
  have hrd9 : RdAt (wB.setCell ⟨g, 2, none⟩ v') r r' (n + 1) := ((hrd.below hB).chg hcB (fun e => by have := hI.own r e; omega)).chg hcS (by omega)
  refine ⟨⟨r', n + 1, v', _, _, hP, by omega, hrd9, ?_, hA.chg hcS (fun k hk => by omega), by rw [List.length_append, List.length_singleton]; omega, ((hC.trans (Chg.of_below (S := fun k => k = r ∨ k = g) hB) (fun i hi => .inl hi)).trans hcB (fun i hi => .inr (hI.own i hi))).trans hcS (fun i hi => .inl (.inr hi))⟩, hrd9.len⟩
  have := ((hT.below hB hT.lt).chg hcB (fun e => by have := hI.own g e; omega)).set_ 2 v'
  exact this
theorem below_of_drew {w w' : World} {n : Nat} (h : Below ((w.drewN n).drew).heap.size ((w.drewN n).drew) w') : Below w.heap.size w w' := ((below_drewN (Below.refl _ w) n).drew).trans h
set_option maxHeartbeats 4000000 in
set_option maxRecDepth 100000 in
theorem trace_ {w : World} {r : Nat} {s : List UInt8} (h : RdAt w r s 1) (hm : MaxL w) (hL : Laid w) (hr : r ≠ 0 ∧ r ≠ 2) (hl : s.length ≤ 50000) :
    Calls Tryz.prog 84 #[rdp r] w (TraceQ w r (parseT s)) := by
  obtain ⟨g, hg⟩ : ∃ g, g = w.heap.size := ⟨_, rfl⟩
  have hrg : r < g := by rw [hg]; exact h.lt
  obtain ⟨P, hP⟩ : ∃ P, P = parseT s := ⟨_, rfl⟩
  have HP := Lib.hid hP
  have HPS := Lib.hid (parseT_head s)
  rw [← hP]
  obtain ⟨wA, hwA⟩ : ∃ wA, wA = (w.alloc (.cells #[.slice none 0 0, .slice none 0 0, .slice none 0 0, .int .i64 0] 30)).alloc (.cells #[.int .u64 4096, .int .u64 4] 82) := ⟨_, rfl⟩
  have hB0 : Below w.heap.size w wA := by rw [hwA]; exact ((Below.refl _ w).alloc (Nat.le_refl _) _).alloc (by simp) _
  have hTA : Blk wA g 30 #[.slice none 0 0, .slice none 0 0, .slice none 0 0, .int .i64 0] := by rw [hwA, hg]; exact (Blk.new w _ _).alloc _
  have hgA : g < wA.heap.size := hTA.lt
  have hNM := numbers_ (bm := g + 1) (cap := 2) (h.below hB0) (hm.below hB0) (hL.below hB0) hr.1 (by omega) (by omega) wTrace [4096, 4] ⟨by decide, by decide⟩ (fun j hj => by
    rw [hwA, hg]
    have := (Blk.new (w.alloc (.cells #[.slice none 0 0, .slice none 0 0, .slice none 0 0, .int .i64 0] 30)) 82 #[.int .u64 4096, .int .u64 4]).cell
    rw [show (w.alloc (.cells #[.slice none 0 0, .slice none 0 0, .slice none 0 0, .int .i64 0] 30)).heap.size = w.heap.size + 1 by simp] at this
    match j, hj with
    | 0, _ => exact this 0
    | 1, _ => exact this 1) (by omega)
  have HNM := Lib.hid hNM
  have HB0 := Lib.hid hB0
  have HTA := Lib.hid hTA
  have HWA := Lib.hid hwA
  have HM := Lib.hid hm
  have HL := Lib.hid hL
  have HRL := Lib.hid h.lt
  have HG := Lib.hid hg
  have HERR : Hid (∀ w1 t b v n, ShT t → Chg (fun k => k = r) w w1 → Bad w1 2 n v → P = .bad n → TraceQ w r P (.returned (.tuple #[t, .bool b, v])) w1) := Lib.hid fun w1 t b v n hs hc hb hp => ⟨hc, .inl ⟨n, t, b, v, hs, hp, rfl, hb⟩⟩
  clear hNM hB0 hTA hm hL h hP hg hwA
  cases ho : numsR wTrace [4096, 4] s with
  | none =>
    rw [ho] at HNM HPS
    have HP1 : Hid (P = .bad 1) := Lib.hid (by rw [HP.out, HPS.out])
    clear ho
    go_enter Tryz.func84, Tryz.ntmps84
    go_wp2_with fail
    go_step3
    go_wp2_with fail
    rw [← HG.out, ← HWA.out]
    refine HNM.out.mono ?_
    rintro e w1 ⟨hc, v, rfl, hb⟩
    obtain ⟨x, rfl⟩ := hb.iface
    have HC := Lib.hid hc
    have HF := Lib.hid (HERR.out w1 (.agg #[.slice none 0 0, .slice none 0 0, .slice none 0 0, .int .i64 0]) false _ 1 (by first | exact sht | (rw [hvi]; exact sht)) ((Chg.of_below HB0.out).trans HC.out (fun i hi => .inl hi)) hb HP1.out)
    obtain ⟨⟨c0, c1, c2, c3⟩, ⟨f0, f1, f2, f3⟩, s0, s1, s2, s3⟩ := (HTA.out.chg hc (by omega)).all4
    clear hc hb
    go_wp2
    repeat rw [Exit.noGoto_ret]
    refine bodyPost_ret (v := .tuple #[.agg #[.slice none 0 0, .slice none 0 0, .slice none 0 0, .int .i64 0], .bool false, .iface 49 x]) (by simp [results, Tryz.results84, go_sem, c0, c1, c2, c3]) rfl HF.out
  | some q =>
    obtain ⟨ns, r1⟩ := q
    obtain ⟨hnl, hrl⟩ := numsR_len ho
    have hnm := (numsR_le ho).2
    rw [ho] at HNM HPS
    obtain ⟨a, b, rfl⟩ : ∃ a b, ns = [a, b] := by
      match ns, hnl with
      | [a, b], _ => exact ⟨a, b, rfl⟩
    have ha : a ≤ 4096 := hnm 0
    have hb4 : b ≤ 4 := hnm 1
    have HP1 : Hid (P = match boolsR wLat r1 with | some (v, r2) => if v.length = a then celF v b r2.length (List.replicate b []) 0 true r2 3 else .bad 2 | none => .bad 2) := Lib.hid (by rw [HP.out, HPS.out]; rfl)
    have HR1 := Lib.hid hrl
    clear ho hnl hrl hnm HP HPS
    go_enter Tryz.func84, Tryz.ntmps84
    go_wp2_with fail
    go_step3
    go_wp2_with fail
    rw [← HG.out, ← HWA.out]
    refine HNM.out.mono ?_
    rintro e w1 ⟨hc, u, rfl, hN, hrd⟩
    have HC1 : Hid (Chg (fun k => k = r) w w1) := Lib.hid ((Chg.of_below HB0.out).trans hc (fun i hi => .inl hi))
    have HT1 : Hid (Blk w1 g 30 #[.slice none 0 0, .slice none 0 0, .slice none 0 0, .int .i64 0]) := Lib.hid (HTA.out.chg hc (by omega))
    have hg1 := HT1.out.lt
    have HG1 := Lib.hid hg1
    obtain ⟨gh, caph, rfl, -, -, hgh1, hcell⟩ : ∃ gh cap, u = .slice (some ⟨gh, 0, none⟩) 2 cap ∧ 2 ≤ cap ∧ cap ≤ maxLen ∧ gh < w1.heap.size ∧ (∀ j, j < 2 → w1.cell? ⟨gh, j, none⟩ = some (([a, b].map KU.enc).getD j undef)) := by
      rcases hN.1.form with ⟨-, h0, -⟩ | ⟨gh, cap, e, h1, h2, h3, h4⟩
      · simp at h0
      · exact ⟨gh, cap, e, h1, h2, h3, fun j hj => (h4 j (by simpa using hj)).1⟩
    have hghA : wA.heap.size ≤ gh := hN.2 gh rfl
    have k0 : w1.cell? ⟨gh, 0, none⟩ = some (.int .u64 (a : Int)) := hcell 0 (by omega)
    have k1 : w1.cell? ⟨gh, 1, none⟩ = some (.int .u64 (b : Int)) := hcell 1 (by omega)
    have hne : gh ≠ r ∧ gh ≠ g := ⟨by omega, by omega⟩
    have HNE := Lib.hid hne
    have HGH1 := Lib.hid hgh1
    have K0 := Lib.hid k0
    have K1 := Lib.hid k1
    have HRD1 := Lib.hid hrd
    have HM1 := Lib.hid (HM.out.chg HC1.out (by omega))
    have HL1 := Lib.hid (HL.out.chg HC1.out (by omega))
    have HBL := Lib.hid (bools_ hrd HM1.out HL1.out hr.1 (by have := HR1.out; omega) (by omega) wLat)
    have cr : w1.cell? ⟨r, 1, none⟩ = some (.int .i64 2) := hrd.cell 1
    clear hc hN hrd hghA hgh1 hne k0 k1 hcell
    cases ho : boolsR wLat r1 with
    | none =>
      rw [ho] at HBL HP1
      clear ho
      go_wp2_with fail
      refine HBL.out.mono ?_
      rintro e w2 ⟨hc, v, rfl, hb⟩
      obtain ⟨x, rfl⟩ := hb.iface
      have HF := Lib.hid (HERR.out w2 (.agg #[.slice none 0 0, .slice none 0 0, .slice none 0 0, .int .i64 0]) false _ 2 (by first | exact sht | (rw [hvi]; exact sht)) (HC1.out.trans hc (fun i hi => .inl hi)) hb HP1.out)
      obtain ⟨⟨c0, c1, c2, c3⟩, ⟨f0, f1, f2, f3⟩, s0, s1, s2, s3⟩ := (HT1.out.chg hc (by omega)).all4
      clear hc hb
      go_wp2
      repeat rw [Exit.noGoto_ret]
      refine bodyPost_ret (v := .tuple #[.agg #[.slice none 0 0, .slice none 0 0, .slice none 0 0, .int .i64 0], .bool false, .iface 49 x]) (by simp [results, Tryz.results84, go_sem, c0, c1, c2, c3]) rfl HF.out
    | some q =>
      obtain ⟨v, r2⟩ := q
      have hr2 := boolsR_len ho
      have HR2 := Lib.hid hr2
      rw [ho] at HBL HP1
      clear ho hr2
      go_wp2_with fail
      refine HBL.out.mono ?_
      rintro e w2 ⟨hc, ul, rfl, hul, hrd⟩
      obtain ⟨al, cl, hulf, hcl⟩ : ∃ A cap, ul = .slice A v.length cap ∧ cap ≤ maxLen := by
        rcases hul.1.form with ⟨e, h0, -⟩ | ⟨q, cap, e, h1, h2, -, -⟩
        · exact ⟨none, 0, by rw [e, h0], by simp⟩
        · exact ⟨_, cap, e, h2⟩
      subst hulf
      have hT2 := HT1.out.chg hc (by omega)
      obtain ⟨⟨c0, c1, c2, c3⟩, ⟨f0, f1, f2, f3⟩, -⟩ := hT2.all4
      have HC2 : Hid (Chg (fun k => k = r) w w2) := Lib.hid (HC1.out.trans hc (fun i hi => .inl hi))
      obtain ⟨w3, hw3⟩ : ∃ w3, w3 = w2.setCell ⟨g, 0, none⟩ (.slice al v.length cl) := ⟨_, rfl⟩
      have hc3 : Chg (fun k => k = g) w2 w3 := by rw [hw3]; exact (Chg.refl (fun k => k = g) w2).setCell (p := ⟨g, 0, none⟩) (.inl rfl) _
      have HC3 : Hid (Chg (fun k => k = r) w w3) := Lib.hid (by rw [hw3]; exact HC2.out.setCell (p := ⟨g, 0, none⟩) (.inr (by rw [HG.out]; exact Nat.le_refl _)) _)
      have HT3 : Hid (Blk w3 g 30 #[.slice al v.length cl, .slice none 0 0, .slice none 0 0, .int .i64 0]) := Lib.hid (by rw [hw3]; exact hT2.set_ 0 _)
      have HRD3 : Hid (RdAt w3 r r2 3) := Lib.hid (Blk.chg hrd hc3 (by omega))
      have HROW3 : Hid (Row w3 4 1 (.slice al v.length cl) v.length (v.map Value.bool) ∧ ∀ q, (Value.slice al v.length cl).ownBlock = some q → w1.heap.size ≤ q) := Lib.hid ⟨hul.1.chg hc3 (fun q hq e => by have := hul.2 q hq; have := HG1.out; omega), hul.2⟩
      have HK3 : Hid (w3.cell? ⟨gh, 0, none⟩ = some (.int .u64 (a : Int)) ∧ w3.cell? ⟨gh, 1, none⟩ = some (.int .u64 (b : Int)) ∧ gh < w3.heap.size) := Lib.hid (by
        have e1 := hc.block gh HGH1.out (fun e => HNE.out.1 e)
        have hl2 := Nat.lt_of_lt_of_le HGH1.out hc.size
        have e2 := hc3.block gh hl2 (fun e => HNE.out.2 e)
        exact ⟨by rw [World.cell?_of_block (w := w2) e2, World.cell?_of_block (w := w1) e1]; exact K0.out, by rw [World.cell?_of_block (w := w2) e2, World.cell?_of_block (w := w1) e1]; exact K1.out, Nat.lt_of_lt_of_le hl2 hc3.size⟩)
      obtain ⟨⟨d0, d1, d2, d3⟩, ⟨e0, e1, e2, e3⟩, z0, z1, z2, z3⟩ := HT3.out.all4
      have kk0 := HK3.out.1
      have kk1 := HK3.out.2.1
      have HW3 := Lib.hid hw3
      have HV9 : Hid (v.length ≤ 9223372036854775807) := Lib.hid (by
        rcases hul.1.form with ⟨-, h0, -⟩ | ⟨q, cap, e, h1, h2, -, -⟩
        · omega
        · exact Nat.le_trans h1 h2)
      clear hc hul hrd hT2 hc3
      have zw : IntKind.i64.wrap (a : Int) = (a : Int) := IntWalk.i64_in _ (by omega)
      have hw3' := hw3.symm
      clear hw3
      by_cases hva : v.length = a
      · have HP2 : Hid (P = celF v b r2.length (List.replicate b []) 0 true r2 3) := Lib.hid (by rw [HP1.out, if_pos hva])
        have hx : ((v.length : Int) != (a : Int)) = false := by rw [bne_eq_false_iff_eq]; omega
        clear HP1 hva
        have hmk := fun W => run_makeN (P := Tryz.prog) 25 119 (.slice none 0 0) 1 24 Tryz.underlying25 infoCL .u64 .u64 b b (Nat.le_refl _) (by omega) (by omega) W
        go_wp2_with fail
        go_quiet (fail)
        rename_i nq
        have HB4 : Hid (Below w3.heap.size w3 (w3.drewN nq)) := Lib.hid (below_drewN (Below.refl _ w3) nq)
        obtain ⟨w4, hw4⟩ : ∃ w4, w4 = w3.drewN nq := ⟨_, rfl⟩
        rw [← hw4] at HB4 ⊢
        have HT4 := Lib.hid (HT3.out.below HB4.out HT3.out.lt)
        have HC4 : Hid (Chg (fun k => k = r) w w4) := Lib.hid (HC3.out.trans (Chg.of_below (S := fun k => k = r) HB4.out) (fun i hi => .inl hi))
        have HRD4 := Lib.hid (HRD3.out.below HB4.out)
        have HROW4 : Hid (Row w4 4 1 (.slice al v.length cl) v.length (v.map Value.bool)) := Lib.hid (HROW3.out.1.chg (S := fun _ => False) (Chg.of_below HB4.out) (fun _ _ h => h))
        have HK4 : Hid (w4.cell? ⟨gh, 1, none⟩ = some (.int .u64 (b : Int)) ∧ gh < w4.heap.size) := Lib.hid ⟨cell_below HK3.out.2.1 HB4.out, Nat.lt_of_lt_of_le HK3.out.2.2 HB4.out.size⟩
        clear d0 d1 d2 d3 e0 e1 e2 e3 z0 z1 z2 z3 kk0 kk1 hw4 hw3'
        obtain ⟨⟨d0, d1, d2, d3⟩, ⟨e0, e1, e2, e3⟩, -⟩ := HT4.out.all4
        have kk1 := HK4.out.1
        obtain ⟨bm, hbm⟩ : ∃ bm, bm = w4.heap.size := ⟨_, rfl⟩
        have HBM := Lib.hid hbm
        clear hbm
        have hg4 := HT4.out.lt
        have HG4 := Lib.hid hg4
        go_wp2_with fail
        obtain ⟨wz, hwz⟩ : ∃ wz, wz = w4.setCell ⟨g, 1, none⟩ (.slice (some ⟨w4.heap.size, 0, none⟩) b b) := ⟨_, rfl⟩
        obtain ⟨w5, hw5⟩ : ∃ w5, w5 = wz.alloc (.cells (madeCells #[.slice none 0 0] b) 119) := ⟨_, rfl⟩
        rw [← hwz, ← hw5]
        have hsz : wz.heap.size = w4.heap.size := by rw [hwz]; simp
        have hCz : Chg (fun k => k = g) w4 wz := by rw [hwz]; exact (Chg.refl (fun k => k = g) _).setCell (p := ⟨g, 1, none⟩) (.inl rfl) _
        have HTz : Hid (Blk wz g 30 #[.slice al v.length cl, .slice (some ⟨bm, 0, none⟩) b b, .slice none 0 0, .int .i64 0]) := Lib.hid (by rw [hwz, HBM.out]; exact HT4.out.set_ 1 _)
        have HRDz : Hid (RdAt wz r r2 3) := Lib.hid (HRD4.out.chg hCz (by omega))
        have HROWz : Hid (Row wz 4 1 (.slice al v.length cl) v.length (v.map Value.bool)) := Lib.hid (HROW4.out.chg hCz (fun q hq e => by have := HROW3.out.2 q hq; have := HG1.out; omega))
        have HKz : Hid (wz.cell? ⟨gh, 1, none⟩ = some (.int .u64 (b : Int)) ∧ gh < wz.heap.size) := Lib.hid ⟨by rw [World.cell?_of_block (w := w4) (hCz.block gh HK4.out.2 (fun e => HNE.out.2 e))]; exact HK4.out.1, by rw [hsz]; exact HK4.out.2⟩
        have HCz : Hid (Chg (fun k => k = r) w wz) := Lib.hid (HC4.out.trans hCz (fun i hi => .inr (by rw [hi, HG.out]; exact Nat.le_refl _)))
        have HBMz : Hid (bm = wz.heap.size) := Lib.hid (by rw [hsz]; exact HBM.out)
        have HB5 : Hid (Below wz.heap.size wz w5) := Lib.hid (by rw [hw5]; exact (Below.refl _ _).alloc (Nat.le_refl _) _)
        have hI5 : CelI wz r g bm P v (.slice al v.length cl) b true 0 w5 := by
          have hmm := MemsM.made wz b
          rw [Nat.mul_one, ← HBMz.out, ← hw5] at hmm
          refine ⟨r2, 3, _, _, HP2.out, by have := HR1.out; have := HR2.out; omega, HRDz.out.below HB5.out, HTz.out.below HB5.out HTz.out.lt, hmm, by simp, fun m hm p hp => ?_, fun i => ?_, Chg.of_below HB5.out⟩
          · rw [(List.mem_replicate.1 hm).2] at hp
            simp at hp
          · rw [rep_get]
            have := HR1.out
            have := HR2.out
            simp
            omega
        have HI5 := Lib.hid hI5
        clear hI5 hwz hw5 hCz hsz d0 d1 d2 d3 e0 e1 e2 e3 kk1 hmk hx zw
        go_step3
        go_wp2
        go_loopw [3, 7] (fun o l wr => ∃ ord last, o = .bool ord ∧ l = .int .i64 (last : Nat) ∧ last ≤ 4 ∧ CelI wz r g bm P v (.slice al v.length cl) b ord last wr) (fun _ _ wr => restLen wr r)
        case atStart => exact ⟨true, 0, rfl, rfl, by omega, HI5.out⟩
        case round =>
          obtain ⟨ord, last, rfl, rfl, hlast, rest, n, us, ms, hP, hn, hrd, hT, hmm, hml, hwf, hcl, hC⟩ := hrel
          have hlt : r < wr.heap.size := hrd.lt
          have HPR := Lib.hid hP
          have HRR := Lib.hid hrd
          have HTR := Lib.hid hT
          have HMM := Lib.hid hmm
          have HML := Lib.hid hml
          have HWF := Lib.hid hwf
          have HCLn := Lib.hid hcl
          have HCR := Lib.hid hC
          have hlr : rest.length ≤ 60000 := by omega
          have hzr : wz.heap.size ≤ wr.heap.size := hC.size
          have HMAX : Hid (MaxL wr) := Lib.hid ((HM.out.chg HCz.out (by omega)).chg hC (fun h => by rcases h with h | h; omega; have := HM.out.2; have := HG.out; omega))
          have HLR : Hid (Laid wr) := Lib.hid ((HL.out.chg HCz.out (by omega)).chg hC (fun h => by rcases h with h | h; omega; have := HL.out.2; have := HG.out; omega))
          have HPK := Lib.hid (peek_ hrd HMAX.out (by omega))
          have HBG := Lib.hid (fun W => begins_ (peekT rest) (wCell ++ [32]) W (by have := peekT_len rest; omega) (by decide))
          have HSTEP := Lib.hid (celF_step v b ms last ord rest n)
          clear hP hrd hT hmm hml hwf hcl hC
          go_wp2_with fail
          refine HPK.out.mono ?_
          rintro e wp ⟨rfl, kp, hkp⟩
          have hbp : Below wr.heap.size wr wp := by rw [hkp]; exact below_drewN (Below.refl _ wr) kp
          have HBP := Lib.hid hbp
          clear hkp hbp
          go_wp2_with fail
          refine (HBG.out _).mono ?_
          rintro e wp2 ⟨rfl, rfl⟩
          by_cases hbeg : beginsT (wCell ++ [32]) (peekT rest) = true
          · rw [if_pos hbeg] at HSTEP
            rw [hbeg]
            clear hbeg
            have cr : wp.cell? ⟨r, 1, none⟩ = some (.int .i64 (n : Int)) := (HRR.out.below HBP.out).cell 1
            obtain ⟨wn, hwn⟩ : ∃ wn, wn = wp.alloc (.cells #[.int .u64 3, .int .u64 18446744073709551615, .int .u64 18446744073709551615] 82) := ⟨_, rfl⟩
            have hBn : Below wr.heap.size wr wn := by rw [hwn]; exact HBP.out.alloc HBP.out.size _
            have HNN := Lib.hid (numbers_ (bm := wp.heap.size) (cap := 3) (HRR.out.below hBn) (HMAX.out.below hBn) (HLR.out.below hBn) hr.1 (by omega) (by omega) wCell mostC ⟨by decide, by decide⟩ (fun j hj => by
              rw [hwn]
              have := (Blk.new wp 82 #[.int .u64 3, .int .u64 18446744073709551615, .int .u64 18446744073709551615]).cell
              match j, hj with
              | 0, _ => exact this 0
              | 1, _ => exact this 1
              | 2, _ => exact this 2) (by have := HBP.out.size; omega))
            have HBN := Lib.hid hBn
            have HWN := Lib.hid hwn
            clear hBn hwn
            cases ho : numsR wCell mostC rest with
            | none =>
              rw [ho] at HNN HSTEP
              have HPB : Hid (P = .bad n) := Lib.hid (by rw [HPR.out, HSTEP.out])
              clear ho
              go_wp2_with fail
              rw [← HWN.out]
              refine HNN.out.mono ?_
              rintro e w6 ⟨hc, x0, rfl, hb⟩
              obtain ⟨x, rfl⟩ := hb.iface
              have HF := Lib.hid (HERR.out w6 (.agg #[.slice al v.length cl, .slice (some ⟨bm, 0, none⟩) b b, .slice none 0 0, .int .i64 0]) false _ n (by first | exact sht | (rw [hvi]; exact sht)) (((HCz.out.trans HCR.out (fun i hi => hi.imp id (fun e => by rw [e, HG.out]; exact Nat.le_refl _))).trans (Chg.of_below (S := fun k => k = r) HBN.out) (fun i hi => .inl hi)).trans hc (fun i hi => .inl hi)) hb HPB.out)
              obtain ⟨⟨c0, c1, c2, c3⟩, ⟨f0, f1, f2, f3⟩, s0, s1, s2, s3⟩ := ((HTR.out.below HBN.out HTR.out.lt).chg hc (by omega)).all4
              clear hc hb cr
              go_wp2
              repeat rw [Exit.noGoto_ret]
              exact bodyPost_ret (v := .tuple #[.agg #[.slice al v.length cl, .slice (some ⟨bm, 0, none⟩) b b, .slice none 0 0, .int .i64 0], .bool false, .iface 49 x]) (by simp [results, Tryz.results84, go_sem, c0, c1, c2, c3]) rfl HF.out
            | some q =>
              obtain ⟨ns, r'⟩ := q
              obtain ⟨hnl, hrl⟩ := numsR_len ho
              have hnm := numsR_le ho
              obtain ⟨m, a1, x1, rfl⟩ : ∃ m a x, ns = [m, a, x] := by
                match ns, hnl with
                | [m, a, x], _ => exact ⟨m, a, x, rfl⟩
              have hm3 : m ≤ 3 := hnm.2 0
              have hwa : wf (a1 : Int) := by have := hnm.1 a1 (by simp); unfold wf; omega
              have hwx : wf (x1 : Int) := by have := hnm.1 x1 (by simp); unfold wf; omega
              rw [ho] at HNN HSTEP
              have HST : Hid (P = if m < b then celF v b r'.length (ms.set m (ms.getD m [] ++ [((a1 : Int), (x1 : Int))])) m (ord && decide (last ≤ m)) r' (n + 1) else .bad n) := Lib.hid (by rw [HPR.out, HSTEP.out]; rfl)
              have HWA1 := Lib.hid hwa
              have HWX1 := Lib.hid hwx
              have HRL1 := Lib.hid hrl
              clear ho hnl hrl hnm HSTEP hwa hwx
              go_wp2_with fail
              rw [← HWN.out]
              refine HNN.out.mono ?_
              rintro e w6 ⟨hc, uc, rfl, hN, hrd6⟩
              obtain ⟨gc, capc, rfl, hgc1, hgc2, hcell⟩ : ∃ gc cap, uc = .slice (some ⟨gc, 0, none⟩) 3 cap ∧ gc < w6.heap.size ∧ wn.heap.size ≤ gc ∧ (∀ j, j < 3 → w6.cell? ⟨gc, j, none⟩ = some (([m, a1, x1].map KU.enc).getD j undef)) := by
                rcases hN.1.form with ⟨-, h0, -⟩ | ⟨gc, cap, e, h1, h2, h3, h4⟩
                · simp at h0
                · exact ⟨gc, cap, e, h3, hN.2 gc (by rw [e]; rfl), fun j hj => (h4 j (by simpa using hj)).1⟩
              have q0 : w6.cell? ⟨gc, 0, none⟩ = some (.int .u64 (m : Int)) := hcell 0 (by omega)
              have q1 : w6.cell? ⟨gc, 1, none⟩ = some (.int .u64 (a1 : Int)) := hcell 1 (by omega)
              have q2 : w6.cell? ⟨gc, 2, none⟩ = some (.int .u64 (x1 : Int)) := hcell 2 (by omega)
              have hgn : gc ≠ bm ∧ gc ≠ g ∧ gc ≠ r := by
                have := HBN.out.size
                have := HMM.out.blk.lt
                have := HTR.out.lt
                refine ⟨by omega, by omega, by omega⟩
              have HC6 : Hid (Chg (fun k => k = r ∨ k = g) wz w6) := Lib.hid ((HCR.out.trans (Chg.of_below (S := fun k => k = r) HBN.out) (fun i hi => .inl (.inl hi))).trans hc (fun i hi => .inl (.inl hi)))
              have HT6 : Hid (Blk w6 g 30 #[.slice al v.length cl, .slice (some ⟨bm, 0, none⟩) b b, .slice none 0 0, .int .i64 0]) := Lib.hid ((HTR.out.below HBN.out HTR.out.lt).chg hc (by omega))
              have HMM6 : Hid (MemsM wz w6 bm us ms) := Lib.hid ((HMM.out.below HBN.out).chg2 hc (fun k hk => by have := HBMz.out; have := HCz.out.size; have := HRL.out; omega))
              have hk6 : w6.cell? ⟨gh, 1, none⟩ = some (.int .u64 (b : Int)) := by
                rw [World.cell?_of_block (w := wz) (HC6.out.block gh HKz.out.2 (fun e => e.elim HNE.out.1 HNE.out.2))]
                exact HKz.out.1
              have HK6 := Lib.hid hk6
              have HR6 := Lib.hid hrd6
              have HQ := Lib.hid (show _ ∧ _ ∧ _ from ⟨q0, q1, q2⟩)
              have HGW : Hid (wr.heap.size ≤ gc) := Lib.hid (Nat.le_trans HBN.out.size hgc2)
              have HWR : Hid (∀ i q, i < ms.length → (us.getD i undef).ownBlock = some q → q < wr.heap.size) := Lib.hid fun i q hi hq => (HMM.out.row i hi).lt q hq
              have HGC := Lib.hid hgc1
              have HGN := Lib.hid hgn
              clear hc hN hcell hrd6 cr hgc1 hgc2 hgn HBN HWN HNN HBP
              by_cases hmb : m < b
              · have HP7 : Hid (P = celF v b r'.length (ms.set m (ms.getD m [] ++ [((a1 : Int), (x1 : Int))])) m (ord && decide (last ≤ m)) r' (n + 1)) := Lib.hid (by rw [HST.out, if_pos hmb])
                have hx : ¬ b ≤ m := by omega
                have HMB := Lib.hid hmb
                clear HST hmb
                go_wp2_with fail
                go_quiet (fail)
                rename_i nq
                have HB7 : Hid (Below w6.heap.size w6 (w6.drewN nq)) := Lib.hid (below_drewN (Below.refl _ w6) nq)
                obtain ⟨w7, hw7⟩ : ∃ w7, w7 = w6.drewN nq := ⟨_, rfl⟩
                rw [← hw7] at HB7 ⊢
                have HT7 := Lib.hid (HT6.out.below HB7.out HT6.out.lt)
                have HMM7 := Lib.hid (HMM6.out.below HB7.out)
                have HC7 : Hid (Chg (fun k => k = r ∨ k = g) wz w7) := Lib.hid (HC6.out.trans (Chg.of_below (S := fun k => k = r ∨ k = g) HB7.out) (fun i hi => .inl hi))
                have HR7 := Lib.hid (HR6.out.below HB7.out)
                have HQ7 : Hid (∀ W, Below w7.heap.size w7 W → W.cell? ⟨gc, 0, none⟩ = some (.int .u64 (m : Int)) ∧ W.cell? ⟨gc, 1, none⟩ = some (.int .u64 (a1 : Int)) ∧ W.cell? ⟨gc, 2, none⟩ = some (.int .u64 (x1 : Int))) := Lib.hid fun W hW => ⟨cell_below (cell_below HQ.out.1 HB7.out) hW, cell_below (cell_below HQ.out.2.1 HB7.out) hW, cell_below (cell_below HQ.out.2.2 HB7.out) hW⟩
                have HGC7 : Hid (gc < w7.heap.size) := Lib.hid (Nat.lt_of_lt_of_le HGC.out HB7.out.size)
                clear q0 q1 q2 hk6 hw7
                obtain ⟨q0, q1, q2⟩ := HQ7.out w7 (Below.refl _ _)
                have zm : IntKind.i64.wrap (m : Int) = (m : Int) := IntWalk.i64_in _ (by omega)
                have hmb' : (m : Int) < (b : Int) := by omega
                obtain ⟨vM, hvM⟩ : ∃ vM, vM = us.getD m undef := ⟨_, rfl⟩
                have hmi : m < ms.length := by have := HML.out; omega
                have k3 : w7.cell? ⟨bm, m, none⟩ = some vM := by rw [hvM]; exact HMM7.out.cell hmi
                have f3 : w7.frozen? ⟨bm, m, none⟩ = false := HMM7.out.blk.frozen m
                have k1 : w7.cell? ⟨g, 1, none⟩ = some (.slice (some ⟨bm, 0, none⟩) b b) := HT7.out.cell 1
                have hlg := HT7.out.lt
                have hlb := HMM7.out.blk.lt
                have hlc := HGC7.out
                have hrow : Row w7 121 2 vM (ms.getD m []).length ((ms.getD m []).flatMap celC) := by rw [hvM]; exact HMM7.out.row m hmi
                obtain ⟨cs, hcs⟩ : ∃ cs, cs = ms.getD m [] := ⟨_, rfl⟩
                rw [← hcs] at hrow
                have hcl : cs.length ≤ 60000 := by rw [hcs]; have := HCLn.out m; omega
                have hown : ∀ q, vM.ownBlock = some q → wz.heap.size ≤ q ∧ q ≠ bm := fun q hq => HMM7.out.own m q hmi (by rw [← hvM]; exact hq)
                have HGV : Hid (¬ vM.ownBlock = some gc) := Lib.hid fun e => by
                  have h1 := HWR.out m gc hmi (by rw [← hvM]; exact e)
                  have h2 := HGW.out
                  omega
                have HROW := Lib.hid hrow
                have HOWN := Lib.hid hown
                have HCS := Lib.hid hcs
                have HVM := Lib.hid hvM
                have HMI := Lib.hid hmi
                obtain ⟨W2, hW2⟩ : ∃ W2, W2 = w7.drew.alloc (.cells #[.int .u64 (a1 : Int), .int .u64 (x1 : Int)] 121) := ⟨_, rfl⟩
                have hB2 : Below w7.heap.size w7 W2 := by rw [hW2]; exact ((Below.refl _ w7).drew).alloc (Nat.le_refl _) _
                have HB2 := Lib.hid hB2
                have hrow2 : Row W2 121 2 vM cs.length (cs.flatMap celC) := hrow.chg (S := fun _ => False) (Chg.of_below hB2) (fun _ _ h => h)
                have hnew : ∀ j u, [Value.int .u64 (a1 : Int), .int .u64 (x1 : Int)][j]? = some u → W2.cell? ⟨w7.heap.size, 0 + j, none⟩ = some u := fun j u hj => by
                  rw [hW2, Nat.zero_add]
                  have := (Blk.new w7.drew 121 #[.int .u64 (a1 : Int), .int .u64 (x1 : Int)]).cell j
                  rw [show w7.drew.heap.size = w7.heap.size from rfl] at this
                  rw [this]
                  simpa using hj
                have HROW2 := Lib.hid hrow2
                have HNEW := Lib.hid hnew
                have HW2 := Lib.hid hW2
                rw [hW2] at HROW2 HNEW
                clear hvM hmi hrow hcs hown hB2 hrow2 hnew hW2
                go_wp2_with fail
                have hSd : ∀ W, Below w7.heap.size w7 W → W.cell? ⟨g, 1, none⟩ = some (.slice (some ⟨bm, 0, none⟩) b b) ∧ W.cell? ⟨gc, 1, none⟩ = some (.int .u64 (a1 : Int)) ∧ W.cell? ⟨gc, 2, none⟩ = some (.int .u64 (x1 : Int)) := fun W hW => ⟨cell_below k1 hW, cell_below q1 hW, cell_below q2 hW⟩
                have HSD := Lib.hid hSd
                have hgb : g ≠ bm := by have := HBMz.out; have := HTz.out.lt; omega
                clear hSd
                refine wp_region_held_drew (S := (fun w' => w'.cell? ⟨g, 1, none⟩ = some (.slice (some ⟨bm, 0, none⟩) b b) ∧ w'.cell? ⟨gc, 1, none⟩ = some (.int .u64 (a1 : Int)) ∧ w'.cell? ⟨gc, 2, none⟩ = some (.int .u64 (x1 : Int)))) (by kernel_rfl) ?_ (fun hHeld => ?_)
                · (try dsimp only) <;> exact HSD.out _ ((Below.refl _ w7).drew)
                refine wpAnyH_take (i := 0) (v := ?_) rfl (by kernel_rfl) (by kernel_rfl) (by kernel_rfl) (fun _ _ _ h => h) (Or.inl ⟨by rfl, ?_⟩) (by assumption) ?_
                rotate_left
                · (intro w hSw; (try dsimp only at hSw); go_simp; try with_reducible rfl)
                try simp only [Act.put, List.setIfInBounds_toArray, List.set_cons_zero, List.set_cons_succ]
                refine wpAnyH_take (i := 1) (v := ?_) rfl (by kernel_rfl) (by kernel_rfl) (by kernel_rfl) (fun _ _ _ h => h) (Or.inl ⟨by rfl, ?_⟩) (by assumption) ?_
                rotate_left
                · (intro w hSw; (try dsimp only at hSw); go_simp; try with_reducible rfl)
                try simp only [Act.put, List.setIfInBounds_toArray, List.set_cons_zero, List.set_cons_succ]
                refine wpAnyH_take (i := 2) (v := ?_) rfl (by kernel_rfl) (by kernel_rfl) (by kernel_rfl) (fun _ _ _ h => h) (Or.inl ⟨by rfl, ?_⟩) (by assumption) ?_
                rotate_left
                · (intro w hSw; (try dsimp only at hSw); go_simp; try with_reducible rfl)
                try simp only [Act.put, List.setIfInBounds_toArray, List.set_cons_zero, List.set_cons_succ]
                refine wpAnyH_take (i := 3) (v := ?_) rfl (by kernel_rfl) (by kernel_rfl) (by kernel_rfl) (fun _ _ _ h => h) (Or.inl ⟨by rfl, ?_⟩) (by assumption) ?_
                rotate_left
                · (intro w hSw; (try dsimp only at hSw); go_simp; try with_reducible rfl)
                try simp only [Act.put, List.setIfInBounds_toArray, List.set_cons_zero, List.set_cons_succ]
                refine wpAnyH_take (i := 4) (v := ?_) rfl (by kernel_rfl) (by kernel_rfl) (by kernel_rfl) (fun _ _ _ h => h) (Or.inl ⟨by rfl, ?_⟩) (by assumption) ?_
                rotate_left
                · (intro w hSw; (try dsimp only at hSw); go_simp; try with_reducible rfl)
                try simp only [Act.put, List.setIfInBounds_toArray, List.set_cons_zero, List.set_cons_succ]
                refine wpAnyH_take (i := 5) (v := ?_) rfl (by kernel_rfl) (by kernel_rfl) (by kernel_rfl) (fun _ _ _ h => h) (Or.inl ⟨by rfl, ?_⟩) (by assumption) ?_
                rotate_left
                · (intro w hSw; (try dsimp only at hSw); go_simp; try with_reducible rfl)
                try simp only [Act.put, List.setIfInBounds_toArray, List.set_cons_zero, List.set_cons_succ]
                refine wpAnyH_take (i := 6) (v := ?_) rfl (by kernel_rfl) (by kernel_rfl) (by kernel_rfl) (fun _ _ _ h => h) (Or.inl ⟨by rfl, ?_⟩) (by assumption) ?_
                rotate_left
                · (intro w hSw; (try dsimp only at hSw); go_simp; try with_reducible rfl)
                try simp only [Act.put, List.setIfInBounds_toArray, List.set_cons_zero, List.set_cons_succ]
                refine wpAnyH_take (i := 7) (v := ?_) rfl (by kernel_rfl) (by kernel_rfl) (by kernel_rfl) (fun _ _ _ h => h) (Or.inl ⟨by rfl, ?_⟩) (by assumption) ?_
                rotate_left
                · (intro w hSw; (try dsimp only at hSw); go_simp; try with_reducible rfl)
                try simp only [Act.put, List.setIfInBounds_toArray, List.set_cons_zero, List.set_cons_succ]
                refine wpAnyH_take (i := 8) (v := ?_) rfl (by kernel_rfl) (by kernel_rfl) (by kernel_rfl) (fun _ _ _ h => h) (Or.inl ⟨by rfl, ?_⟩) (by assumption) ?_
                rotate_left
                · (intro w hSw; (try dsimp only at hSw); go_simp; try with_reducible rfl)
                try simp only [Act.put, List.setIfInBounds_toArray, List.set_cons_zero, List.set_cons_succ]
                refine wpAnyH_take (i := 10) (v := ?_) rfl (by kernel_rfl) (by kernel_rfl) (by kernel_rfl) (fun _ _ _ h => h) (Or.inl ⟨by rfl, ?_⟩) (by assumption) ?_
                rotate_left
                · (intro w hSw; (try dsimp only at hSw); go_simp; try with_reducible rfl)
                try simp only [Act.put, List.setIfInBounds_toArray, List.set_cons_zero, List.set_cons_succ]
                refine wpAnyH_take (i := 11) (v := ?_) rfl (by kernel_rfl) (by kernel_rfl) (by kernel_rfl) (fun _ _ _ h => h) (Or.inl ⟨by rfl, ?_⟩) (by assumption) ?_
                rotate_left
                · (intro w hSw; (try dsimp only at hSw); go_simp; try with_reducible rfl)
                try simp only [Act.put, List.setIfInBounds_toArray, List.set_cons_zero, List.set_cons_succ]
                refine wpAnyH_take (i := 12) (v := ?_) rfl (by kernel_rfl) (by kernel_rfl) (by kernel_rfl) (fun _ _ _ h => h) (Or.inl ⟨by rfl, ?_⟩) (by assumption) ?_
                rotate_left
                · (intro w hSw; (try dsimp only at hSw); go_simp; try with_reducible rfl)
                try simp only [Act.put, List.setIfInBounds_toArray, List.set_cons_zero, List.set_cons_succ]
                refine wpAnyH_take (i := 13) (v := ?_) rfl (by kernel_rfl) (by kernel_rfl) (by kernel_rfl) (fun _ _ _ h => h) (Or.inl ⟨by rfl, ?_⟩) (by assumption) ?_
                rotate_left
                · (intro w hSw; (try dsimp only at hSw); go_simp; try with_reducible rfl)
                try simp only [Act.put, List.setIfInBounds_toArray, List.set_cons_zero, List.set_cons_succ]
                refine wpAnyH_take (i := 14) (v := ?_) rfl (by kernel_rfl) (by kernel_rfl) (by kernel_rfl) (fun _ _ _ h => h) (Or.inl ⟨by rfl, ?_⟩) (by assumption) ?_
                rotate_left
                · (intro w hSw; (try dsimp only at hSw); go_simp; try with_reducible rfl)
                try simp only [Act.put, List.setIfInBounds_toArray, List.set_cons_zero, List.set_cons_succ]
                refine wpAnyH_take (i := 15) (v := ?_) rfl (by kernel_rfl) (by kernel_rfl) (by kernel_rfl) (fun _ _ _ h => h) (Or.inl ⟨by rfl, ?_⟩) (by assumption) ?_
                rotate_left
                · (intro w hSw; (try dsimp only at hSw); go_simp; try with_reducible rfl)
                try simp only [Act.put, List.setIfInBounds_toArray, List.set_cons_zero, List.set_cons_succ]
                refine wpAnyH_take (i := 16) (v := ?_) rfl (by kernel_rfl) (by kernel_rfl) (by kernel_rfl) (fun _ _ _ h => h) (Or.inl ⟨by rfl, ?_⟩) (by assumption) ?_
                rotate_left
                · (intro w hSw; (try dsimp only at hSw); go_simp; try with_reducible rfl)
                try simp only [Act.put, List.setIfInBounds_toArray, List.set_cons_zero, List.set_cons_succ]
                refine wpAnyH_ready (rs := [9, 17]) (by kernel_rfl) (by simp) ?_
                refine AllReadyH.cons rfl (fun K hK => ?_) (AllReadyH.cons rfl (fun K hK => ?_) AllReadyH.nil)
                focus
                  go_simp
                  refine hK.out _ _ ?_ (fun hHeld => ?_)
                  · exact HSD.out _ ((Below.refl _ w7).drew)
                  clear hK K
                  try simp only [Act.put, List.setIfInBounds_toArray, List.set_cons_zero, List.set_cons_succ]
                  refine wpAnyH_ready (rs := [17]) (by kernel_rfl) (by simp) ?_
                  refine AllReadyH.cons rfl (fun K hK => ?_) AllReadyH.nil
                  go_simp
                  skip
                  refine hK.out _ _ ?_ (fun hHeld => ?_)
                  · (try dsimp only) <;> exact HSD.out _ (((Below.refl _ w7).drew).alloc (Nat.le_refl _) _)
                  clear hK K
                  try simp only [Act.put, List.setIfInBounds_toArray, List.set_cons_zero, List.set_cons_succ]
                rotate_left
                focus
                  go_simp
                  refine hK.out _ _ ?_ (fun hHeld => ?_)
                  · exact HSD.out _ (((Below.refl _ w7).drew).alloc (Nat.le_refl _) _)
                  clear hK K
                  try simp only [Act.put, List.setIfInBounds_toArray, List.set_cons_zero, List.set_cons_succ]
                  refine wpAnyH_ready (rs := [9]) (by kernel_rfl) (by simp) ?_
                  refine AllReadyH.cons rfl (fun K hK => ?_) AllReadyH.nil
                  go_simp
                  skip
                  refine hK.out _ _ ?_ (fun hHeld => ?_)
                  · (try dsimp only) <;> exact HSD.out _ (((Below.refl _ w7).drew).alloc (Nat.le_refl _) _)
                  clear hK K
                  try simp only [Act.put, List.setIfInBounds_toArray, List.set_cons_zero, List.set_cons_succ]
                all_goals
                  refine wpAnyH_ready (rs := [18]) (by kernel_rfl) (by simp) ?_
                  refine AllReadyH.cons rfl (fun K hK => ?_) AllReadyH.nil
                  refine step_app rfl (.tmp 100) (.tmp 108) _ rfl 121 (.agg #[.int .u64 0, .int .u64 0]) 2 16 Tryz.underlying119 infoCE rfl (by decide) vM cs.length (cs.flatMap celC) rfl ?ho w7.heap.size 0 1 1 [.int .u64 (a1 : Int), .int .u64 (x1 : Int)] rfl rfl ?hn ?hs ?c1 ?c2 ?_
                  case ho => exact HROW2.out
                  case hn => exact HNEW.out
                  case hs => (intro u hu; simp at hu; rcases hu with rfl | rfl <;> rfl)
                  case c1 => unfold maxLen; omega
                  case c2 => omega
                  intro v9 wB hpF
                  have hpG : AppPost W2 121 2 vM (cs.length + 1) (cs.flatMap celC ++ [Value.int .u64 (a1 : Int), .int .u64 (x1 : Int)]) v9 wB := by rw [HW2.out]; exact hpF
                  have HPG := Lib.hid hpG
                  obtain ⟨gv, cv, rfl, -, -, -⟩ := hpF.1.some_ (by omega)
                  have hcB : Chg (fun k => vM.ownBlock = some k) W2 wB := hpG.2.1
                  have kB1 : wB.cell? ⟨g, 1, none⟩ = some (.slice (some ⟨bm, 0, none⟩) b b) := ((HT7.out.below HB2.out HT7.out.lt).chg hcB (fun e => by have := (HOWN.out g e).1; have := HTz.out.lt; omega)).cell 1
                  have kB3 : wB.cell? ⟨bm, m, none⟩ = some vM := by
                    have := (HMM7.out.below HB2.out).blk.chg hcB (fun e => (HOWN.out bm e).2 rfl)
                    rw [this.cell m, ← (HMM7.out.below HB2.out).blk.cell m, (HMM7.out.below HB2.out).cell HMI.out, HVM.out]
                  have fB3 : wB.frozen? ⟨bm, m, none⟩ = false := ((HMM7.out.below HB2.out).blk.chg hcB (fun e => (HOWN.out bm e).2 rfl)).frozen m
                  have hlg2 : gc < W2.heap.size := Nat.lt_of_lt_of_le HGC7.out HB2.out.size
                  have kBc1 : wB.cell? ⟨gc, 1, none⟩ = some (.int .u64 (a1 : Int)) := by
                    rw [World.cell?_of_block (w := W2) (hcB.block gc hlg2 (HGV.out))]
                    exact cell_below q1 HB2.out
                  have kBc2 : wB.cell? ⟨gc, 2, none⟩ = some (.int .u64 (x1 : Int)) := by
                    rw [World.cell?_of_block (w := W2) (hcB.block gc hlg2 (HGV.out))]
                    exact cell_below q2 HB2.out
                  have hgcb : gc ≠ bm := HGN.out.1
                  clear hpF hpG hcB
                  refine hK.out _ _ ?_ (fun hHeld => ?_)
                  · exact ⟨kB1, kBc1, kBc2⟩
                  clear hK K
                  try simp only [Act.put, List.setIfInBounds_toArray, List.set_cons_zero, List.set_cons_succ]
                  refine wpAnyH_take (i := 19) (v := ?_) rfl (by kernel_rfl) (by kernel_rfl) (by kernel_rfl) (fun _ _ _ h => h) (Or.inl ⟨by rfl, ?_⟩) (by assumption) ?_
                  rotate_left
                  · (intro w hSw; (try dsimp only at hSw); go_simp; try with_reducible rfl)
                  try simp only [Act.put, List.setIfInBounds_toArray, List.set_cons_zero, List.set_cons_succ]
                  refine wpAnyH_ready (rs := [20]) (by kernel_rfl) (by simp) ?_
                  refine AllReadyH.cons rfl (fun K hK => ?_) AllReadyH.nil
                  go_simp
                  skip
                  refine hK.out _ _ ?_ (fun hHeld => ?_)
                  · (try dsimp only) <;> exact ⟨far_cell kB1 hgb, far_cell kBc1 hgcb, far_cell kBc2 hgcb⟩
                  clear hK K
                  try simp only [Act.put, List.setIfInBounds_toArray, List.set_cons_zero, List.set_cons_succ]
                  refine wpAnyH_done (by kernel_rfl) ?_ _
                all_goals
                  clear k1 k3 f3 kB1 kB3 fB3 kBc1 kBc2 hgb hgcb hlg2 q0 q1 q2
                  cases ord
                all_goals
                  go_wp2
                  have HST9 := Lib.hid (CelI.step (n := n) (a1 := a1) (x1 := x1) HBMz.out (by have := HBMz.out; have := HTz.out.lt; omega) hrg HP7.out hn HRL1.out HR7.out HT7.out HMM7.out HML.out HMI.out HWF.out HCLn.out HC7.out HB2.out HWA1.out HWX1.out (by rw [← HCS.out, ← HVM.out]; exact HPG.out))
                  go_roundw
                  case rel => exact ⟨_, m, rfl, rfl, by omega, by first | exact HST9.out.1 | (have hh := HST9.out.1; simp only [Bool.true_and, Bool.false_and] at hh; exact hh)⟩
                  case measure => (rw [HST9.out.2, HRR.out.len]; exact HRL1.out)
              · have HPB : Hid (P = .bad n) := Lib.hid (by rw [HST.out, if_neg hmb])
                have hx : b ≤ m := by omega
                have HNW := Lib.hid (fun W => New_B 2 n (by decide) W)
                clear HST hmb
                go_wp2_with fail
                go_quiet (fail)
                obtain ⟨⟨d0, d1, d2, d3⟩, ⟨e0, e1, e2, e3⟩, z0, z1, z2, z3⟩ := HT6.out.all4
                go_wp2_with fail
                go_region_with (go_at_call 45; refine (HNW.out _).mono ?_; rintro e w7 ⟨x0, rfl, hb, hB⟩; have hB5 := below_of_drew hB; have HB7 := Lib.hid hB5; have HBB := Lib.hid hb; obtain ⟨x, rfl⟩ := hb.iface; obtain ⟨⟨p0, p1, p2, p3⟩, ⟨f0, f1, f2, f3⟩, y0, y1, y2, y3⟩ := (HT6.out.below hB5 HT6.out.lt).all4; clear hb hB hB5)
                all_goals go_wp2
                all_goals (repeat rw [Exit.noGoto_ret])
                all_goals exact bodyPost_ret (v := .tuple #[.agg #[.slice al v.length cl, .slice (some ⟨bm, 0, none⟩) b b, .slice none 0 0, .int .i64 0], .bool false, .iface 49 x]) (by simp [results, Tryz.results84, go_sem, p0, p1, p2, p3]) rfl (HERR.out w7 _ false _ n (by first | exact sht | (rw [hvi]; exact sht)) ((HCz.out.trans HC6.out (fun i hi => hi.imp id (fun e => by rw [e, HG.out]; exact Nat.le_refl _))).trans (Chg.of_below (S := fun k => k = r) HB7.out) (fun i hi => .inl hi)) HBB.out HPB.out)
          · rw [if_neg hbeg] at HSTEP
            have HP1 : Hid (P = cycF v ms ord rest.length [] rest n) := Lib.hid (by rw [HPR.out, HSTEP.out])
            rw [Bool.eq_false_iff.2 hbeg]
            have HCP : Hid (Chg (fun k => k = r ∨ k = g) wz wp) := Lib.hid (HCR.out.trans (Chg.of_below (S := fun k => k = r ∨ k = g) HBP.out) (fun i hi => .inl hi))
            have HTP := Lib.hid (HTR.out.below HBP.out HTR.out.lt)
            have HRP := Lib.hid (HRR.out.below HBP.out)
            have HMP := Lib.hid (HMM.out.below HBP.out)
            have HXP : Hid (MaxL wp) := Lib.hid (HMAX.out.below HBP.out)
            have HLP : Hid (Laid wp) := Lib.hid (HLR.out.below HBP.out)
            have hgp : g < wp.heap.size := HTP.out.lt
            have hrw : w.heap.size ≤ wp.heap.size := Nat.le_trans HCz.out.size HCP.out.size
            have HCW : Hid (∀ W, Chg (fun k => k = r ∨ k = g) wp W → Chg (fun k => k = r) w W) := Lib.hid fun W hW => HCz.out.trans (HCP.out.trans hW (fun i hi => .inl hi)) (fun i hi => hi.imp id (fun e => by rw [e, HG.out]; exact Nat.le_refl _))
            have HI2 : Hid (CycI wp r g bm P v (.slice al v.length cl) b ms ord wp) := Lib.hid ⟨rest, n, _, _, _, HP1.out, hn, HRP.out, HTP.out, InsM.start wp, by simp; omega, Chg.refl _ _⟩
            clear hbeg HSTEP HPR HMAX HLR HBG HPK HMM HTR HRR
            go_wp2
            go_loopw [3] (fun o w2 => o = .bool ord ∧ CycI wp r g bm P v (.slice al v.length cl) b ms ord w2) (fun _ w2 => restLen w2 r)
            case atStart => exact ⟨rfl, HI2.out⟩
            case round =>
              obtain ⟨rfl, rest2, n2, vi, us2, ls, hP, hn2, hrd, hT, hI, hls, hC⟩ := hrel
              have HPR := Lib.hid hP
              have HRR := Lib.hid hrd
              have HTR := Lib.hid hT
              have HII := Lib.hid hI
              have HLS := Lib.hid hls
              have HCR2 := Lib.hid hC
              have hlr2 : rest2.length ≤ 60000 := by omega
              have hne0 : ∀ k, k < g → k ≠ r → ¬ (k = r ∨ k = g) := fun k h1 h2 h3 => by omega
              have h0g : 0 < g ∧ 2 < g := by have := HM.out.2; have := HG.out; omega
              have HMAX : Hid (MaxL wr) := Lib.hid (HXP.out.chg hC (hne0 2 h0g.2 (Ne.symm hr.2)))
              have HLR : Hid (Laid wr) := Lib.hid (HLP.out.chg hC (hne0 0 h0g.1 (Ne.symm hr.1)))
              have HPK := Lib.hid (peek_ hrd HMAX.out (by omega))
              have HBG := Lib.hid (fun W => begins_ (peekT rest2) (wCyc ++ [32]) W (by have := peekT_len rest2; omega) (by decide))
              have HSTEP := Lib.hid (cycF_step v ms ord ls rest2 n2)
              clear hP hrd hT hI hls hC hne0
              go_wp2_with fail
              refine HPK.out.mono ?_
              rintro e wq ⟨rfl, kq, hkq⟩
              have hbq : Below wr.heap.size wr wq := by rw [hkq]; exact below_drewN (Below.refl _ wr) kq
              have HBQ := Lib.hid hbq
              clear hkq hbq
              go_wp2_with fail
              refine (HBG.out _).mono ?_
              rintro e wq2 ⟨rfl, rfl⟩
              have HTQ := Lib.hid (HTR.out.below HBQ.out HTR.out.lt)
              have HRQ := Lib.hid (HRR.out.below HBQ.out)
              have HIQ : Hid (InsM wp wq vi us2 ls) := Lib.hid (HII.out.chg (S := fun _ => False) (Chg.of_below HBQ.out) (fun _ h => h.elim))
              have HCQ : Hid (Chg (fun k => k = r ∨ k = g) wp wq) := Lib.hid (HCR2.out.trans (Chg.of_below (S := fun k => k = r ∨ k = g) HBQ.out) (fun i hi => .inl hi))
              have HXQ : Hid (MaxL wq) := Lib.hid (HMAX.out.below HBQ.out)
              have HLQ : Hid (Laid wq) := Lib.hid (HLR.out.below HBQ.out)
              have hlen2 := HRR.out.len
              have HLEN2 := Lib.hid hlen2
              obtain ⟨avi, cvi, hvi, hv1, hv2⟩ := HIQ.out.form
              have hgq : g < wq.heap.size := HTQ.out.lt
              clear hlen2 HPK HBG HMAX HLR HRR HTR HII
              by_cases hbeg : beginsT (wCyc ++ [32]) (peekT rest2) = true
              · rw [if_pos hbeg] at HSTEP
                rw [hbeg]
                clear hbeg
                have HBL2 := Lib.hid (bools_ HRQ.out HXQ.out HLQ.out hr.1 (by omega) (by omega) wCyc)
                cases ho : boolsR wCyc rest2 with
                | none =>
                  rw [ho] at HBL2 HSTEP
                  have HPB : Hid (P = .bad n2) := Lib.hid (by rw [HPR.out, HSTEP.out])
                  clear ho
                  go_wp2_with fail
                  refine HBL2.out.mono ?_
                  rintro e w6 ⟨hc, x0, rfl, hb⟩
                  obtain ⟨x, rfl⟩ := hb.iface
                  have HF := Lib.hid (HERR.out w6 (.agg #[.slice al v.length cl, .slice (some ⟨bm, 0, none⟩) b b, vi, .int .i64 0]) false _ n2 (by first | exact sht | (rw [hvi]; exact sht)) ((HCW.out _ HCQ.out).trans hc (fun i hi => .inl hi)) hb HPB.out)
                  obtain ⟨⟨c0, c1, c2, c3⟩, ⟨f0, f1, f2, f3⟩, s0, s1, s2, s3⟩ := (HTQ.out.chg hc (by omega)).all4
                  subst hvi
                  clear hc hb
                  go_wp2
                  repeat rw [Exit.noGoto_ret]
                  exact bodyPost_ret (v := .tuple #[.agg #[.slice al v.length cl, .slice (some ⟨bm, 0, none⟩) b b, .slice avi ls.length cvi, .int .i64 0], .bool false, .iface 49 x]) (by simp [results, Tryz.results84, go_sem, c0, c1, c2, c3]) rfl HF.out
                | some q =>
                  obtain ⟨l, r'⟩ := q
                  have HRL2 := Lib.hid (boolsR_len ho)
                  rw [ho] at HBL2 HSTEP
                  have HP7 : Hid (P = cycF v ms ord r'.length (ls ++ [l]) r' (n2 + 1)) := Lib.hid (by rw [HPR.out, HSTEP.out])
                  clear ho
                  go_wp2_with fail
                  refine HBL2.out.mono ?_
                  rintro e w6 ⟨hc, ul, rfl, hul, hrd6⟩
                  obtain ⟨al2, cl2, rfl⟩ : ∃ A cap, ul = .slice A l.length cap := by
                    rcases hul.1.form with ⟨e, h0, -⟩ | ⟨q, cap, e, -, -, -, -⟩
                    · exact ⟨none, 0, by rw [e, h0]⟩
                    · exact ⟨_, cap, e⟩
                  have hlo : ∀ q, (Value.slice al2 l.length cl2).ownBlock = some q → wp.heap.size ≤ q ∧ vi.ownBlock ≠ some q := fun q hq => by
                    have h1 := hul.2 q hq
                    have h2 := HCQ.out.size
                    exact ⟨by omega, fun e => by have := HIQ.out.top.lt q e; omega⟩
                  have HLO := Lib.hid hlo
                  have HT6 := Lib.hid (HTQ.out.chg hc (by omega))
                  have HI6 : Hid (InsM wp w6 vi us2 ls) := Lib.hid (HIQ.out.chg hc (fun k hk => by have := HRP.out.lt; omega))
                  have HC6 : Hid (Chg (fun k => k = r ∨ k = g) wp w6) := Lib.hid (HCQ.out.trans hc (fun i hi => .inl (.inl hi)))
                  have HR6 := Lib.hid hrd6
                  have HUL := Lib.hid hul.1
                  have c2 : w6.cell? ⟨g, 2, none⟩ = some vi := HT6.out.cell 2
                  have hg6 : g < w6.heap.size := HT6.out.lt
                  obtain ⟨W2, hW2⟩ : ∃ W2, W2 = w6.alloc (.cells #[.slice al2 l.length cl2] 24) := ⟨_, rfl⟩
                  have hB2 : Below w6.heap.size w6 W2 := by rw [hW2]; exact (Below.refl _ w6).alloc (Nat.le_refl _) _
                  have hrow2 : Row W2 24 1 vi us2.length us2 := HI6.out.top.chg (S := fun _ => False) (Chg.of_below hB2) (fun _ _ h => h)
                  have hnew : ∀ j u, [Value.slice al2 l.length cl2][j]? = some u → W2.cell? ⟨w6.heap.size, 0 + j, none⟩ = some u := fun j u hj => by
                    rw [hW2, Nat.zero_add]
                    have := (Blk.new w6 24 #[.slice al2 l.length cl2]).cell j
                    rw [this]
                    simpa using hj
                  have hus : us2.length ≤ 60000 := by have := HI6.out.len; have := HLS.out; omega
                  have HB2 := Lib.hid hB2
                  have HROW2 := Lib.hid hrow2
                  have HNEW := Lib.hid hnew
                  have HW2 := Lib.hid hW2
                  rw [hW2] at HROW2 HNEW
                  clear hc hul hrd6 hlo hB2 hrow2 hnew hW2 HSTEP HPR
                  subst hvi
                  go_wp2_with (at_builtin; refine wpList_app rfl _ _ _ rfl 24 (.slice none 0 0) 1 24 Tryz.underlying28 infoBL rfl (by decide) (.slice avi ls.length cvi) us2.length us2 rfl ?ho _ _ 1 1 [.slice al2 l.length cl2] rfl rfl ?hn ?hs ?c1 ?c2 ?_)
                  case ho => exact HROW2.out
                  case hn => exact HNEW.out
                  case hs => (intro u hu; simp at hu; subst hu; rfl)
                  case c1 => unfold maxLen; omega
                  case c2 => omega
                  intro v9 wB hpF
                  have hpG : AppPost W2 24 1 (.slice avi ls.length cvi) (us2.length + 1) (us2 ++ [.slice al2 l.length cl2]) v9 wB := by rw [HW2.out]; exact hpF
                  have hcB := hpG.2.1
                  obtain ⟨gv, cv, rfl, -, -, -⟩ := hpF.1.some_ (by omega)
                  have kB2 : wB.cell? ⟨g, 2, none⟩ = some (.slice avi ls.length cvi) := ((HT6.out.below HB2.out HT6.out.lt).chg hcB (fun e => by have := HI6.out.own g e; omega)).cell 2
                  have fB2 : wB.frozen? ⟨g, 2, none⟩ = false := ((HT6.out.below HB2.out HT6.out.lt).chg hcB (fun e => by have := HI6.out.own g e; omega)).frozen 2
                  have HST9 := Lib.hid (CycI.step (n := n2) hrg hgp HP7.out hn2 HRL2.out HLS.out HR6.out HT6.out HI6.out HUL.out rfl HLO.out HC6.out HB2.out hpG)
                  clear hpF hpG hcB
                  go_wp2
                  go_roundw
                  case rel => exact ⟨rfl, HST9.out.1⟩
                  case measure => (rw [HST9.out.2, HLEN2.out]; exact HRL2.out)
              · rw [if_neg hbeg] at HSTEP
                rw [Bool.eq_false_iff.2 hbeg]
                have HPF : Hid (P = finT v ms ord ls rest2 n2) := Lib.hid (by rw [HPR.out, HSTEP.out])
                have HPS2 := Lib.hid (finT_step v ms ord ls rest2 n2)
                obtain ⟨wn, hwn⟩ : ∃ wn, wn = wq.alloc (.cells #[.int .u64 1000] 82) := ⟨_, rfl⟩
                have hBn : Below wq.heap.size wq wn := by rw [hwn]; exact (Below.refl _ wq).alloc (Nat.le_refl _) _
                have HNN := Lib.hid (numbers_ (bm := wq.heap.size) (cap := 1) (HRQ.out.below hBn) (HXQ.out.below hBn) (HLQ.out.below hBn) hr.1 (by omega) (by omega) wBad [1000] ⟨by decide, by decide⟩ (fun j hj => by
                  rw [hwn]
                  have := (Blk.new wq 82 #[.int .u64 1000]).cell
                  match j, hj with
                  | 0, _ => exact this 0) (by omega))
                have HBN := Lib.hid hBn
                have HWN := Lib.hid hwn
                have HCN : Hid (Chg (fun k => k = r) w wn) := Lib.hid ((HCW.out _ HCQ.out).trans (Chg.of_below (S := fun k => k = r) hBn) (fun i hi => .inl hi))
                clear hbeg hBn hwn HSTEP
                cases ho : numsR wBad [1000] rest2 with
                | none =>
                  rw [ho] at HNN HPS2
                  have HPB : Hid (P = .bad n2) := Lib.hid (by rw [HPF.out, HPS2.out])
                  clear ho
                  go_wp2_with fail
                  rw [← HWN.out]
                  refine HNN.out.mono ?_
                  rintro e w6 ⟨hc, x0, rfl, hb⟩
                  obtain ⟨x, rfl⟩ := hb.iface
                  have HF := Lib.hid (HERR.out w6 (.agg #[.slice al v.length cl, .slice (some ⟨bm, 0, none⟩) b b, vi, .int .i64 0]) false _ n2 (by first | exact sht | (rw [hvi]; exact sht)) (HCN.out.trans hc (fun i hi => .inl hi)) hb HPB.out)
                  obtain ⟨⟨c0, c1, c2, c3⟩, ⟨f0, f1, f2, f3⟩, s0, s1, s2, s3⟩ := ((HTQ.out.below HBN.out HTQ.out.lt).chg hc (by omega)).all4
                  subst hvi
                  clear hc hb
                  go_wp2
                  repeat rw [Exit.noGoto_ret]
                  exact bodyPost_ret (v := .tuple #[.agg #[.slice al v.length cl, .slice (some ⟨bm, 0, none⟩) b b, .slice avi ls.length cvi, .int .i64 0], .bool false, .iface 49 x]) (by simp [results, Tryz.results84, go_sem, c0, c1, c2, c3]) rfl HF.out
                | some q =>
                  obtain ⟨ns, r'⟩ := q
                  obtain ⟨hnl, hrl⟩ := numsR_len ho
                  have hnm := numsR_le ho
                  obtain ⟨k, rfl⟩ : ∃ k, ns = [k] := by
                    match ns, hnl with
                    | [k], _ => exact ⟨k, rfl⟩
                  have hk : k ≤ 1000 := hnm.2 0
                  rw [ho] at HNN HPS2
                  have HPX : Hid (P = if r' = [] then (if ord && rightT ⟨v, ms, ls, (k : Int)⟩ then .ok ⟨v, ms, ls, (k : Int)⟩ else .ill) else .bad (n2 + 1)) := Lib.hid (by rw [HPF.out, HPS2.out]; rfl)
                  clear ho hnl hnm hrl HPS2
                  go_wp2_with fail
                  rw [← HWN.out]
                  refine HNN.out.mono ?_
                  rintro e w6 ⟨hc, uc, rfl, hN, hrd6⟩
                  obtain ⟨gc, capc, rfl, hgc1, hcell⟩ : ∃ gc cap, uc = .slice (some ⟨gc, 0, none⟩) 1 cap ∧ gc < w6.heap.size ∧ (∀ j, j < 1 → w6.cell? ⟨gc, j, none⟩ = some (([k].map KU.enc).getD j undef)) := by
                    rcases hN.1.form with ⟨-, h0, -⟩ | ⟨gc, cap, e, h1, h2, h3, h4⟩
                    · simp at h0
                    · exact ⟨gc, cap, e, h3, fun j hj => (h4 j (by simpa using hj)).1⟩
                  have q0 : w6.cell? ⟨gc, 0, none⟩ = some (.int .u64 (k : Int)) := hcell 0 (by omega)
                  have HR6 := Lib.hid hrd6
                  have HC6 : Hid (Chg (fun k => k = r) w w6) := Lib.hid (HCN.out.trans hc (fun i hi => .inl hi))
                  have HT6 := Lib.hid ((HTQ.out.below HBN.out HTQ.out.lt).chg hc (by omega))
                  have HI6 : Hid (InsM wp w6 vi us2 ls) := Lib.hid ((HIQ.out.chg (S := fun _ => False) (Chg.of_below HBN.out) (fun _ h => h.elim)).chg hc (fun k hk => by have := HRP.out.lt; omega))
                  have HCQ6 : Hid (Chg (fun k => k = r ∨ k = g) wp w6) := Lib.hid ((HCQ.out.trans (Chg.of_below (S := fun k => k = r ∨ k = g) HBN.out) (fun i hi => .inl hi)).trans hc (fun i hi => .inl (.inl hi)))
                  have cr0 : w6.cell? ⟨r, 0, none⟩ = some (.string (bs r')) := hrd6.cell 0
                  have hg6 : g < w6.heap.size := HT6.out.lt
                  clear hc hN hrd6 hcell HBN HWN HNN
                  by_cases hr0 : r' = []
                  · have HPY : Hid (P = if ord && rightT ⟨v, ms, ls, (k : Int)⟩ then .ok ⟨v, ms, ls, (k : Int)⟩ else .ill) := Lib.hid (by rw [HPX.out, if_pos hr0])
                    have hx : (bs r').toList.isEmpty = true := by rw [Lib.toList_data, bs_list, hr0]; rfl
                    have zk : IntKind.i64.wrap (k : Int) = (k : Int) := IntWalk.i64_in _ (by omega)
                    obtain ⟨w7, hw7⟩ : ∃ w7, w7 = w6.setCell ⟨g, 3, none⟩ (.int .i64 (k : Int)) := ⟨_, rfl⟩
                    have hT7 : Blk w7 g 30 #[.slice al v.length cl, .slice (some ⟨bm, 0, none⟩) b b, vi, .int .i64 (k : Int)] := by rw [hw7]; exact HT6.out.set_ 3 _
                    have hc7 : Chg (fun k => k = g) w6 w7 := by rw [hw7]; exact (Chg.refl (fun k => k = g) w6).setCell (p := ⟨g, 3, none⟩) (.inl rfl) _
                    have hcr7 : Chg (fun k => k = r) w w7 := HC6.out.trans hc7 (fun i hi => .inr (by rw [hi, HG.out]; exact Nat.le_refl _))
                    have hcp7 : Chg (fun k => k = r ∨ k = g) wp w7 := HCQ6.out.trans hc7 (fun i hi => .inl (.inr hi))
                    have hI7 : InsM wp w7 vi us2 ls := HI6.out.chg hc7 (fun k hk => by omega)
                    have hM7 : MemsM wz w7 bm us ms := HMP.out.chg2 hcp7 (fun k hk => by have := HBMz.out; have := HRDz.out.lt; have := HTz.out.lt; omega)
                    have hV7 : Row w7 4 1 (.slice al v.length cl) v.length (v.map Value.bool) := by
                      have hx := HROWz.out.chg (S := fun k => k = r ∨ k = g) (HCP.out.trans hcp7 (fun i hi => .inl hi)) (fun q hq e => by have h1 := HROW3.out.2 q hq; have h2 := HG1.out; omega)
                      exact hx
                    have hbl : ms.length ≤ maxLen := by have := HML.out; unfold maxLen; omega
                    have hTP : ∀ W, Chg (fun k => k < w.heap.size) w7 W → TrP W ⟨v, ms, ls, (k : Int)⟩ (.slice al v.length cl) (.slice (some ⟨bm, 0, none⟩) b b) vi := fun W hW => ⟨row_bo (hV7.chg hW (fun q hq e => by have h1 := HROW3.out.2 q hq; have h2 := HC1.out.size; omega)), by have := (hM7.chg2 hW (fun k hk => by have h1 := HBMz.out; have h2 := HCz.out.size; omega)).ces HWF.out hbl; rw [HML.out] at this; exact this, (hI7.chg hW (fun k hk => by omega)).bos⟩
                    have HF : Hid (TraceQ w r P (.returned (.tuple #[.agg #[.slice al v.length cl, .slice (some ⟨bm, 0, none⟩) b b, vi, .int .i64 (k : Int)], .bool ord, .nilIface])) w7) := Lib.hid ⟨hcr7, .inr ⟨⟨v, ms, ls, (k : Int)⟩, ord, _, _, _, rfl, hTP, HPY.out⟩⟩
                    obtain ⟨⟨c0, c1, c2, c3⟩, ⟨f0, f1, f2, f3⟩, -⟩ := HT6.out.all4
                    obtain ⟨⟨p0, p1, p2, p3⟩, ⟨g0, g1, g2, g3⟩, s0, s1, s2, s3⟩ := hT7.all4
                    have hw7' := hw7.symm
                    clear hw7 hT7 hc7 hcr7 hcp7 hI7 hM7 hV7 hTP hbl hr0
                    subst hvi
                    go_wp2
                    repeat rw [Exit.noGoto_ret]
                    exact bodyPost_ret (v := .tuple #[.agg #[.slice al v.length cl, .slice (some ⟨bm, 0, none⟩) b b, .slice avi ls.length cvi, .int .i64 (k : Int)], .bool ord, .nilIface]) (by simp [results, Tryz.results84, go_sem, p0, p1, p2, p3]) rfl HF.out
                  · have HPB : Hid (P = .bad (n2 + 1)) := Lib.hid (by rw [HPX.out, if_neg hr0])
                    have hx : (bs r').toList.isEmpty = false := by
                      rw [Lib.toList_data, bs_list]
                      cases r' with
                      | nil => exact absurd rfl hr0
                      | cons c r' => rfl
                    have HBD := Lib.hid (fun W (hW : Below w6.heap.size w6 W) => bad_ (HR6.out.below hW))
                    obtain ⟨⟨c0, c1, c2, c3⟩, -, -⟩ := HT6.out.all4
                    subst hvi
                    clear hr0
                    go_wp2_with fail
                    go_region_with (go_at_call 109; refine (HBD.out _ ((Below.refl _ w6).drew)).mono ?_; rintro e w7 ⟨x0, rfl, hb, hB⟩; have hB5 : Below w6.heap.size w6 w7 := ((Below.refl _ w6).drew).trans hB; have HB7 := Lib.hid hB5; have HBB := Lib.hid hb; obtain ⟨x, rfl⟩ := hb.iface; obtain ⟨⟨p0, p1, p2, p3⟩, ⟨f0, f1, f2, f3⟩, y0, y1, y2, y3⟩ := (HT6.out.below hB5 HT6.out.lt).all4; clear hb hB hB5)
                    all_goals go_wp2
                    all_goals (repeat rw [Exit.noGoto_ret])
                    all_goals exact bodyPost_ret (v := .tuple #[.agg #[.slice al v.length cl, .slice (some ⟨bm, 0, none⟩) b b, .slice avi ls.length cvi, .int .i64 0], .bool false, .iface 49 x]) (by simp [results, Tryz.results84, go_sem, p0, p1, p2, p3]) rfl (HERR.out w7 _ false _ (n2 + 1) (by first | exact sht | (rw [hvi]; exact sht)) (HC6.out.trans (Chg.of_below (S := fun k => k = r) HB7.out) (fun i hi => .inl hi)) HBB.out HPB.out)
      · have HPB : Hid (P = .bad 2) := Lib.hid (by rw [HP1.out, if_neg hva])
        have hx : ((v.length : Int) != (a : Int)) = true := by rw [bne_iff_ne]; omega
        have HNW := Lib.hid (fun W => New_B 2 2 (by decide) W)
        clear HP1 hva
        go_wp2_with fail
        go_quiet (fail)
        go_wp2_with fail
        go_region_with (go_at_call 45; refine (HNW.out _).mono ?_; rintro e w4 ⟨x0, rfl, hb, hB⟩; have hB5 := below_of_drew hB; have HB4 := Lib.hid hB5; have HBB := Lib.hid hb; obtain ⟨x, rfl⟩ := hb.iface; obtain ⟨⟨q0, q1, q2, q3⟩, ⟨p0, p1, p2, p3⟩, y0, y1, y2, y3⟩ := (HT3.out.below hB5 HT3.out.lt).all4; clear hb hB hB5)
        all_goals go_wp2
        all_goals (repeat rw [Exit.noGoto_ret])
        all_goals exact bodyPost_ret (v := .tuple #[.agg #[.slice al v.length cl, .slice none 0 0, .slice none 0 0, .int .i64 0], .bool false, .iface 49 x]) (by simp [results, Tryz.results84, go_sem, q0, q1, q2, q3]) rfl (HERR.out w4 _ false _ 2 (by first | exact sht | (rw [hvi]; exact sht)) (HC3.out.trans (Chg.of_below (S := fun k => k = r) HB4.out) (fun i hi => .inl hi)) HBB.out HPB.out)
end Go.Proofs.YtamgbfkpblpfiaaGreatDoor
/-
  Package trace: Parse, walked.
-/
namespace Go.Proofs.YtamgbfkpblpfiaaGreatDoor
open Go.ChangeShapes Go.WideShapes Go.ChangeAt Go.RowKit
set_option linter.unusedVariables false
set_option linter.unusedSimpArgs false
/-- What is parsed, where it went wrong, how. -/
def resD : PRes → TrD
  | .ok d => d
  | _ => ⟨[], [], [], 0⟩
def resN : PRes → Nat
  | .bad n => n
  | _ => 0
def resF : PRes → Int
  | .bad _ => 2
  | .ill => 14
  | .ok _ => 0
/-- The same, whatever turns that was there before. -/
def ParseV (w : World) (p : PRes) (e : Ending) (w' : World) : Prop := Below w.heap.size w w' ∧ ∃ vl vm vi, e = .returned (.tuple #[trV (resD p) vl vm vi, .int .i64 (resN p : Nat), .int .i64 (resF p)]) ∧ ∀ W, Chg (fun k => k < w.heap.size) w' W → TrP W (resD p) vl vm vi
def ParseQ (w : World) (p : PRes) (e : Ending) (w' : World) : Prop := Below w.heap.size w w' ∧ ∃ vl vm vi, e = .returned (.tuple #[trV (resD p) vl vm vi, .int .i64 (resN p : Nat), .int .i64 (resF p)]) ∧ TrP w' (resD p) vl vm vi
theorem TrP.nil (w : World) (k : Int) : TrP w ⟨[], [], [], k⟩ (.slice none 0 0) (.slice none 0 0) (.slice none 0 0) := ⟨Seq.nil _ _ _ _, Seq.nil _ _ _ _, Seq.nil _ _ _ _⟩
set_option maxHeartbeats 4000000 in
set_option maxRecDepth 100000 in
theorem trace_ParseV {w : World} {s : List UInt8} (hm : MaxL w) (hL : Laid w) (hl : s.length ≤ 50000) :
    Calls Tryz.prog 44 #[.string (bs s)] w (ParseV w (parseT s)) := by
  obtain ⟨g, hg⟩ : ∃ g, g = w.heap.size := ⟨_, rfl⟩
  obtain ⟨P, hP⟩ : ∃ P, P = parseT s := ⟨_, rfl⟩
  rw [← hP]
  obtain ⟨wA, hwA⟩ : ∃ wA, wA = (w.alloc (.cells #[.slice none 0 0, .slice none 0 0, .slice none 0 0, .int .i64 0] 30)).alloc (.cells #[.string (bs s), .int .i64 1] 143) := ⟨_, rfl⟩
  have hB0 : Below w.heap.size w wA := by rw [hwA]; exact ((Below.refl _ w).alloc (Nat.le_refl _) _).alloc (by simp) _
  have hTA : Blk wA g 30 #[.slice none 0 0, .slice none 0 0, .slice none 0 0, .int .i64 0] := by rw [hwA, hg]; exact (Blk.new w _ _).alloc _
  have hRA : RdAt wA (g + 1) s 1 := by
    have := Blk.new (w.alloc (.cells #[.slice none 0 0, .slice none 0 0, .slice none 0 0, .int .i64 0] 30)) 143 #[.string (bs s), .int .i64 1]
    rw [show (w.alloc (.cells #[.slice none 0 0, .slice none 0 0, .slice none 0 0, .int .i64 0] 30)).heap.size = w.heap.size + 1 by simp] at this
    rw [hwA, hg]
    exact this
  have h2 := hm.2
  have HT := Lib.hid (trace_ hRA (hm.below hB0) (hL.below hB0) ⟨by omega, by omega⟩ hl)
  rw [← hP] at HT
  have HB0 := Lib.hid hB0
  have HTA := Lib.hid hTA
  have HWA := Lib.hid hwA
  have HG := Lib.hid hg
  have HLA := Lib.hid (hL.below hB0)
  have HGN : Hid (0 < g) := Lib.hid (by omega)
  have HGA : Hid (g < wA.heap.size) := Lib.hid hTA.lt
  clear hm hL hP hg hwA hB0 hTA hRA h2
  generalize bs s = sv at *
  go_enter Tryz.func44, Tryz.ntmps44
  go_wp2_with fail
  rw [← HG.out, ← HWA.out]
  refine HT.out.mono ?_
  rintro e w1 ⟨hc, hor⟩
  have HC : Hid (Chg (fun k => k = g + 1) w w1) := Lib.hid ((Chg.of_below HB0.out).trans hc (fun i hi => .inl hi))
  have hT1 := HTA.out.chg hc (by omega)
  have HT1 := Lib.hid hT1
  have HL1 : Hid (Laid w1) := Lib.hid (HLA.out.chg hc (by omega))
  have hg1 : g < w1.heap.size := hT1.lt
  have HBW : Hid (Below w.heap.size w w1) := Lib.hid (HC.out.below (Nat.le_refl _) (fun i hi => by rw [hi, HG.out]; omega))
  obtain ⟨⟨c0, c1, c2, c3⟩, ⟨f0, f1, f2, f3⟩, s0, s1, s2, s3⟩ := hT1.all4
  clear hc hT1 HT HWA HTA HLA
  rcases hor with ⟨n, t, b, v, ⟨A1, n1, d1, A2, n2, d2, A3, n3, d3, rfl⟩, hp, rfl, hb⟩ | ⟨d, ord, vl, vm, vi, rfl, hTP, hp⟩
  · have HBD := Lib.hid hb
    have HP := Lib.hid hp
    obtain ⟨x, rfl⟩ := hb.iface
    clear hb hp
    obtain ⟨w2, hw2⟩ : ∃ w2, w2 = w1.alloc (.cells #[.slice A1 n1 d1, .slice A2 n2 d2, .slice A3 n3 d3, .int .i64 0] 30) := ⟨_, rfl⟩
    have hB2 : Below w1.heap.size w1 w2 := by rw [hw2]; exact (Below.refl _ w1).alloc (Nat.le_refl _) _
    have HB2 := Lib.hid hB2
    have HW2 := Lib.hid hw2
    have HIS := Lib.hid (Is_B (HBD.out.below hB2))
    have HTD := Lib.hid (Told_B (HL1.out.below hB2) (HBD.out.below hB2))
    clear hB2 hw2
    go_wp2_with fail
    rw [← HW2.out]
    refine HIS.out.mono ?_
    rintro e w2' ⟨rfl, rfl⟩
    go_wp2_with fail
    refine HTD.out.mono ?_
    rintro e w3 ⟨rfl, hb3⟩
    have hB3 : Below w1.heap.size w1 w3 := HB2.out.trans (hb3.mono HB2.out.size)
    have HB3 := Lib.hid hB3
    clear c0 c1 c2 c3 f0 f1 f2 f3 s0 s1 s2 s3 hb3
    obtain ⟨⟨c0, c1, c2, c3⟩, ⟨f0, f1, f2, f3⟩, s0, s1, s2, s3⟩ := (HT1.out.below hB3 HT1.out.lt).all4
    clear hB3
    go_wp2
    refine bodyPost_ret (v := .tuple #[.agg #[.slice none 0 0, .slice none 0 0, .slice none 0 0, .int .i64 0], .int .i64 n, .int .i64 2]) (by simp [results, Tryz.results44, go_sem, c0, c1, c2, c3]) rfl ?_
    refine ⟨HBW.out.trans (HB3.out.mono HBW.out.size), .slice none 0 0, .slice none 0 0, .slice none 0 0, by rw [HP.out]; rfl, ?_⟩
    rw [HP.out]
    exact fun W _ => TrP.nil _ _
  · have hTPW := hTP
    replace hTP := hTP w1 (Chg.refl _ _)
    have HTPW := Lib.hid hTPW
    clear hTPW
    obtain ⟨A1, d1, rfl⟩ := hTP.lat.len
    obtain ⟨A2, d2, rfl, -, -⟩ := hTP.mems.form
    obtain ⟨A3, d3, rfl, -, -⟩ := hTP.ins.form
    have HTP := Lib.hid hTP
    have HP := Lib.hid hp
    obtain ⟨n1, hn1⟩ : ∃ n, n = d.lat.length := ⟨_, rfl⟩
    obtain ⟨n2, hn2⟩ : ∃ n, n = d.mems.length := ⟨_, rfl⟩
    obtain ⟨n3, hn3⟩ : ∃ n, n = d.ins.length := ⟨_, rfl⟩
    obtain ⟨bad, hbad⟩ : ∃ n, n = d.bad := ⟨_, rfl⟩
    rw [← hn1, ← hn2, ← hn3] at HTP ⊢
    unfold trV
    rw [← hbad]
    obtain ⟨w2, hw2⟩ : ∃ w2, w2 = w1.alloc (.cells #[.slice A1 n1 d1, .slice A2 n2 d2, .slice A3 n3 d3, .int .i64 bad] 30) := ⟨_, rfl⟩
    have hB2 : Below w1.heap.size w1 w2 := by rw [hw2]; exact (Below.refl _ w1).alloc (Nat.le_refl _) _
    have hb2 : Blk w2 w1.heap.size 30 #[.slice A1 n1 d1, .slice A2 n2 d2, .slice A3 n3 d3, .int .i64 bad] := by rw [hw2]; exact Blk.new w1 _ _
    have HBK := Lib.hid hb2
    have HB2 := Lib.hid hB2
    have HW2 := Lib.hid hw2
    have HRT := Lib.hid (trace_Right (HTP.out.below hB2))
    unfold trV at HRT
    rw [← hbad] at HRT
    have HIS := Lib.hid (Is_nil w2)
    have HT2 := Lib.hid (HT1.out.below hB2 HT1.out.lt)
    have HBAD := Lib.hid hbad
    have HN1 := Lib.hid hn1
    have HN2 := Lib.hid hn2
    have HN3 := Lib.hid hn3
    clear hB2 hb2 hw2 hTP hp hbad hn1 hn2 hn3 c0 c1 c2 c3 f0 f1 f2 f3 s0 s1 s2 s3
    cases ord with
    | false =>
      have HPI : Hid (P = .ill) := Lib.hid (by rw [HP.out]; rfl)
      go_wp2_with fail
      rw [← HW2.out]
      refine HIS.out.mono ?_
      rintro e w2' ⟨rfl, rfl⟩
      obtain ⟨⟨c0, c1, c2, c3⟩, ⟨f0, f1, f2, f3⟩, s0, s1, s2, s3⟩ := HT2.out.all4
      go_wp2
      refine bodyPost_ret (v := .tuple #[.agg #[.slice none 0 0, .slice none 0 0, .slice none 0 0, .int .i64 0], .int .i64 0, .int .i64 14]) (by simp [results, Tryz.results44, go_sem, c0, c1, c2, c3]) rfl ?_
      refine ⟨HBW.out.trans (HB2.out.mono HBW.out.size), .slice none 0 0, .slice none 0 0, .slice none 0 0, by rw [HPI.out]; rfl, ?_⟩
      rw [HPI.out]
      exact fun W _ => TrP.nil _ _
    | true =>
      cases hrt : rightT d with
      | false =>
        have HPI : Hid (P = .ill) := Lib.hid (by rw [HP.out, hrt]; rfl)
        rw [hrt] at HRT
        clear hrt
        obtain ⟨⟨k0, k1, k2, k3⟩, -, -⟩ := HBK.out.all4
        go_wp2_with fail
        rw [← HW2.out]
        refine HIS.out.mono ?_
        rintro e w2' ⟨rfl, rfl⟩
        go_wp2_with fail
        refine HRT.out.mono ?_
        rintro e w3 ⟨rfl, hb3⟩
        have hB3 : Below w1.heap.size w1 w3 := HB2.out.trans (hb3.mono HB2.out.size)
        have HB3 := Lib.hid hB3
        obtain ⟨⟨c0, c1, c2, c3⟩, ⟨f0, f1, f2, f3⟩, s0, s1, s2, s3⟩ := (HT1.out.below hB3 HT1.out.lt).all4
        clear hb3 hB3
        go_wp2
        refine bodyPost_ret (v := .tuple #[.agg #[.slice none 0 0, .slice none 0 0, .slice none 0 0, .int .i64 0], .int .i64 0, .int .i64 14]) (by simp [results, Tryz.results44, go_sem, c0, c1, c2, c3]) rfl ?_
        refine ⟨HBW.out.trans (HB3.out.mono HBW.out.size), .slice none 0 0, .slice none 0 0, .slice none 0 0, by rw [HPI.out]; rfl, ?_⟩
        rw [HPI.out]
        exact fun W _ => TrP.nil _ _
      | true =>
        have HPI : Hid (P = .ok d) := Lib.hid (by rw [HP.out, hrt]; rfl)
        rw [hrt] at HRT
        clear hrt
        obtain ⟨⟨k0, k1, k2, k3⟩, -, -⟩ := HBK.out.all4
        go_wp2_with fail
        rw [← HW2.out]
        refine HIS.out.mono ?_
        rintro e w2' ⟨rfl, rfl⟩
        go_wp2_with fail
        refine HRT.out.mono ?_
        rintro e w3 ⟨rfl, hb3⟩
        have hB3 : Below w1.heap.size w1 w3 := HB2.out.trans (hb3.mono HB2.out.size)
        have HB3 := Lib.hid hB3
        have hT3 := HT1.out.below hB3 HT1.out.lt
        obtain ⟨⟨c0, c1, c2, c3⟩, ⟨f0, f1, f2, f3⟩, -⟩ := hT3.all4
        clear k0 k1 k2 k3
        obtain ⟨⟨k0, k1, k2, k3⟩, -, -⟩ := (HBK.out.below hb3 HBK.out.lt).all4
        have hT4 : Blk ((((w3.setCell ⟨g, 0, none⟩ (.slice A1 n1 d1)).setCell ⟨g, 1, none⟩ (.slice A2 n2 d2)).setCell ⟨g, 2, none⟩ (.slice A3 n3 d3)).setCell ⟨g, 3, none⟩ (.int .i64 bad)) g 30 #[.slice A1 n1 d1, .slice A2 n2 d2, .slice A3 n3 d3, .int .i64 bad] := (((hT3.set_ 0 _).set_ 1 _).set_ 2 _).set_ 3 _
        have HT4 := Lib.hid hT4
        have hc4 : Chg (fun k => k = g) w3 ((((w3.setCell ⟨g, 0, none⟩ (.slice A1 n1 d1)).setCell ⟨g, 1, none⟩ (.slice A2 n2 d2)).setCell ⟨g, 2, none⟩ (.slice A3 n3 d3)).setCell ⟨g, 3, none⟩ (.int .i64 bad)) := ((((Chg.refl (fun k => k = g) w3).setCell (p := ⟨g, 0, none⟩) (.inl rfl) _).setCell (p := ⟨g, 1, none⟩) (.inl rfl) _).setCell (p := ⟨g, 2, none⟩) (.inl rfl) _).setCell (p := ⟨g, 3, none⟩) (.inl rfl) _
        have HC4 := Lib.hid hc4
        clear hb3 hB3 hT3 hT4 hc4
        go_wp2
        obtain ⟨⟨p0, p1, p2, p3⟩, -, -⟩ := HT4.out.all4
        refine bodyPost_ret (v := .tuple #[.agg #[.slice A1 n1 d1, .slice A2 n2 d2, .slice A3 n3 d3, .int .i64 bad], .int .i64 0, .int .i64 0]) (by simp [results, Tryz.results44, go_sem, p0, p1, p2, p3]) rfl ?_
        have hb := HBW.out.trans (HB3.out.mono HBW.out.size)
        refine ⟨hb.trans (HC4.out.below hb.size (fun i hi => by rw [hi, HG.out]; exact Nat.le_refl _)), .slice A1 n1 d1, .slice A2 n2 d2, .slice A3 n3 d3, by rw [HPI.out]; unfold trV resD; simp only; rw [← HBAD.out]; rfl, ?_⟩
        rw [HPI.out]
        intro W hcW
        have hW := HTPW.out _ (((Chg.of_below (S := fun k => k < wA.heap.size) HB3.out).trans HC4.out (fun i hi => .inl (by rw [hi]; exact HGA.out))).trans hcW (fun i hi => .inl (Nat.lt_of_lt_of_le hi HB0.out.size)))
        rw [← HN1.out, ← HN2.out, ← HN3.out] at hW
        exact hW
theorem trace_Parse {w : World} {s : List UInt8} (hm : MaxL w) (hL : Laid w) (hl : s.length ≤ 50000) :
    Calls Tryz.prog 44 #[.string (bs s)] w (ParseQ w (parseT s)) := by
  refine (trace_ParseV hm hL hl).mono ?_
  rintro e w' ⟨hb, vl, vm, vi, he, hT⟩
  exact ⟨hb, vl, vm, vi, he, hT w' (Chg.refl _ _)⟩
end Go.Proofs.YtamgbfkpblpfiaaGreatDoor
