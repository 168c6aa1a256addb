/-
  Package report: what its Print is made of.
-/
import Derived.Test.YtamgbfkpblpfiaaGreatDoorRpB
import Derived.Test.YtamgbfkpblpfiaaGreatDoorRpC
import Derived.Deep.CutBlock
import Derived.Deep.DeepCutAuto
namespace Go.Proofs.YtamgbfkpblpfiaaGreatDoor
open Go.ChangeShapes Go.WideShapes Go.ChangeAt Go.RowKit
set_option linter.unusedVariables false
def spT (b : Bool) : List UInt8 := if b then [121, 101, 115] else [110, 111]
def pW (ps : List Int) : List (List UInt8) := if ps = [] then [[45]] else ps.map decT
def rpT (d : RpD) : List UInt8 :=
  lineT [118, 101, 114, 100, 105, 99, 116] [wordV d.verdict] ++ lineT [100, 101, 112, 116, 104] [decT d.depth] ++ lineT [102, 97, 117, 108, 116] [nameV d.fault, decT d.place] ++ lineT [99, 97, 108, 108, 115] [decT d.calls, decT d.conf] ++
  lineT [115, 112, 101, 110, 116] [spT d.spent] ++ lineT [112, 111, 114, 116, 115] (pW d.ports) ++ (if d.verdict = 2 then printT d.tr else [])
theorem wordV_len (v : Int) : (wordV v).length ≤ 10 := by
  by_cases h : v < 0 ∨ 4 ≤ v
  · rw [wordV_out h]; simp
  · obtain ⟨k, rfl⟩ : ∃ k : Nat, v = (k : Int) := ⟨v.toNat, by omega⟩
    rw [wordV_in (by omega)]
    have : ∀ k, k < 4 → (wordsL.getD k []).length ≤ 10 := by decide
    exact this k (by omega)
theorem nameV_len (v : Int) : (nameV v).length ≤ 10 := by
  by_cases h : v < 0 ∨ 18 ≤ v
  · rw [nameV_out h]; simp
  · obtain ⟨k, rfl⟩ : ∃ k : Nat, v = (k : Int) := ⟨v.toNat, by omega⟩
    rw [nameV_in (by omega)]
    have : ∀ k, k < 18 → (namesL.getD k []).length ≤ 10 := by decide
    exact this k (by omega)
theorem itoa_dec {n : Int} (h : 0 ≤ n) : Lib.itoa n = decT n := by unfold Lib.itoa decT; rw [if_neg (by omega)]
theorem itoa_ (n : Int) (h0 : 0 ≤ n) (h1 : n ≤ 9223372036854775807) {w : World} (ht : Tab w) : Calls Tryz.prog 31 #[.int .i64 n] w fun e w' => e = .returned (.string (bs (decT n))) ∧ Below w.heap.size w w' := by
  rw [← itoa_dec h0]
  exact (Tryz.strconv_Itoa n (by omega) h1 w ht).mono fun e w' ⟨h1, k, os, h2⟩ => ⟨h1, by subst h2; exact Lib.below_grow _ w (Nat.le_refl _) k os⟩
theorem itoa_at {w1 W0 : World} {text : List UInt8} (ht : Tab w1) (hI : RPI w1 text W0) (x : Int) (h0 : 0 ≤ x) (h1 : x ≤ 9223372036854775807) : ∀ W, Below W0.heap.size W0 W →
    Calls Tryz.prog 31 #[.int .i64 x] W fun e w' => e = .returned (.string (bs (decT x))) ∧ Below W0.heap.size W0 w' ∧ Below w1.heap.size w1 w' := by
  intro W hW
  have hb : Below w1.heap.size w1 W := hI.2.trans (hW.mono hI.2.size)
  exact (itoa_ x h0 h1 (ht.below hb)).mono fun e w' ⟨h1, h2⟩ => ⟨h1, hW.trans (h2.mono hW.size), hb.trans (h2.mono hb.size)⟩
theorem word_at {w1 W0 : World} {text : List UInt8} (hI : RPI w1 text W0) (v : Int) : ∀ W, Below W0.heap.size W0 W →
    Calls Tryz.prog 12 #[.int .i64 v] W fun e w' => e = .returned (.string (bs (wordV v))) ∧ Below W0.heap.size W0 w' ∧ Below w1.heap.size w1 w' := by
  intro W hW
  have hb : Below w1.heap.size w1 W := hI.2.trans (hW.mono hI.2.size)
  exact (report_Word v W).mono fun e w' ⟨h1, h2⟩ => ⟨h1, hW.trans (h2.mono hW.size), hb.trans (h2.mono hb.size)⟩
theorem name_at {w1 W0 : World} {text : List UInt8} (hI : RPI w1 text W0) (v : Int) : ∀ W, Below W0.heap.size W0 W →
    Calls Tryz.prog 32 #[.int .i64 v] W fun e w' => e = .returned (.string (bs (nameV v))) ∧ Below W0.heap.size W0 w' ∧ Below w1.heap.size w1 w' := by
  intro W hW
  have hb : Below w1.heap.size w1 W := hI.2.trans (hW.mono hI.2.size)
  exact (report_Name v W).mono fun e w' ⟨h1, h2⟩ => ⟨h1, hW.trans (h2.mono hW.size), hb.trans (h2.mono hb.size)⟩
theorem rline_at {w1 W0 : World} {text : List UInt8} (hI : RPI w1 text W0) (cs : Array Value) (x : List UInt8) (r : List (List UInt8)) (hcs : cs = strsA (x :: r)) (n : Nat) (hn : n = (x :: r).length) (hx : x.length ≤ 100) (hr : ∀ l ∈ r, l.length ≤ 5000) (hrn : r.length ≤ 200) (hlen : text.length ≤ 1000000000000) :
    ∀ W, Below W0.heap.size W0 W → Calls Tryz.prog 30 #[.pointer (some ⟨w1.heap.size, 0, none⟩), .slice (some ⟨W.heap.size, 0, none⟩) n n] (W.alloc (.cells cs 9)) fun e w' => e = .returned (.tuple #[]) ∧ RPI w1 (text ++ lineT x r) w' := by
  intro W hW
  subst hcs
  have hW2 : Below W0.heap.size W0 (W.alloc (.cells (strsA (x :: r)) 9)) := hW.alloc hW.size _
  refine rline_ (hI.below hW2) x r hx hr hrn hlen W.heap.size n n hn (by simp) (Nat.le_refl _) (fun j hj => ?_)
  exact strs_cell (Blk.new W 9 _) hj
/-- Blocks of texts are none of the builder's. -/
theorem bd_chg {B b : Nat} {l : List UInt8} {w w' : World} {S : Nat → Prop} (h : R.Bd B b l w) (hc : Chg S w w') (hS : ∀ k, S k → ∃ cs, Blk w k 9 cs) : R.Bd B b l w' := by
  have ne : ∀ {k : Nat} {cs : Array Value} {t : TypeId}, t ≠ 9 → w.heap[k]? = some (.cells cs t (0, 0)) → ¬ S k := fun ht hk hs => by
    obtain ⟨ds, hd⟩ := hS _ hs
    unfold Blk at hd
    rw [hk] at hd
    injection hd with hd
    injection hd with _ hd
    exact ht hd
  have key : ∀ p, Lib.BuilderAt 70 5 B b p (Lib.byteCells l) w → Lib.BuilderAt 70 5 B b p (Lib.byteCells l) w' := by
    rintro p ⟨h0, v, h1, h2, h3⟩
    refine ⟨h0, v, hc.at_ h1 (ne (by decide) h1), ?_, h3⟩
    obtain ⟨hl, h2⟩ := h2
    refine ⟨hl, ?_⟩
    rcases h2 with h2 | ⟨g, cap, cur, rfl, hg, hx, hr⟩
    · exact .inl h2
    · exact .inr ⟨g, cap, cur, rfl, hg, hc.at_ hx (ne (by decide) hx), hr⟩
  exact h.elim (fun h => .inl (key _ h)) (fun h => .inr (key _ h))
def cellsS (ls : List (List UInt8)) : List Value := ls.map fun l => .string (bs l)
/-- The words of the last line, on the way. -/
def PwRel (w1 : World) (text : List UInt8) (ls : List (List UInt8)) (v : Value) (wr : World) : Prop :=
  Row wr 9 1 v ls.length (cellsS ls) ∧ (∀ g, v.ownBlock = some g → w1.heap.size ≤ g) ∧ RPI w1 text wr
theorem PwRel.below {w1 w w' : World} {text : List UInt8} {ls : List (List UInt8)} {v : Value} (h : PwRel w1 text ls v w) (hb : Below w.heap.size w w') : PwRel w1 text ls v w' :=
  ⟨h.1.chg (S := fun _ => False) (Chg.of_below hb) (fun _ _ h => h), h.2.1, h.2.2.below hb⟩
theorem PwRel.app {w1 wr w' : World} {text : List UInt8} {ls : List (List UInt8)} {v v' : Value} {l : List UInt8} (h : PwRel w1 text ls v wr) (hp : AppPost (wr.alloc (.cells #[.string (bs l)] 9)) 9 1 v (ls.length + 1) (cellsS ls ++ [.string (bs l)]) v' w') : PwRel w1 text (ls ++ [l]) v' w' := by
  have ha : PwRel w1 text ls v (wr.alloc (.cells #[.string (bs l)] 9)) := h.below ((Below.refl _ _).alloc (Nat.le_refl _) _)
  obtain ⟨p1, p2, p3⟩ := hp
  have hs : ∀ k, v.ownBlock = some k → ∃ cs, Blk (wr.alloc (.cells #[.string (bs l)] 9)) k 9 cs := fun k hk => by
    rcases ha.1.2 with ⟨rfl, -⟩ | ⟨g, cap, cur, rfl, -, hx, -⟩
    · simp [Value.ownBlock] at hk
    · simp [Value.ownBlock] at hk
      subst hk
      exact ⟨cur, hx⟩
  refine ⟨?_, fun g hg => ?_, bd_chg ha.2.2.1 p2 hs, ha.2.2.2.trans (p2.below ha.2.2.2.size (fun i hi => ha.2.1 i hi))⟩
  · unfold cellsS at *
    rw [List.length_append, List.map_append]
    exact p1
  · rcases p3 with e | e
    · rw [e] at hg; exact h.2.1 g hg
    · rw [e] at hg
      injection hg with hg
      have := ha.2.2.2.size
      omega
theorem PwRel.start {w1 W : World} {t : List UInt8} (hI : RPI w1 t W) (l : List UInt8) : PwRel w1 t [l] (.slice (some ⟨W.heap.size, 0, none⟩) 1 1) (W.alloc (.cells #[.string (bs l)] 9)) :=
  ⟨⟨rfl, .inr ⟨W.heap.size, 1, _, rfl, Nat.zero_le _, heap_alloc_new W _, Nat.le_refl _, by unfold maxLen; decide, rfl, rfl⟩⟩, fun g hg => by
    simp [Value.ownBlock] at hg
    have := hI.2.size
    omega, hI.below ((Below.refl _ _).alloc (Nat.le_refl _) _)⟩
theorem PwRel.at_ {w1 wr : World} {text : List UInt8} {ls : List (List UInt8)} {v : Value} (h : PwRel w1 text ls v wr) (hne : ls ≠ []) : ∃ g cap, v = .slice (some ⟨g, 0, none⟩) ls.length cap ∧ g < wr.heap.size ∧ ls.length ≤ cap ∧ ∀ j, j < ls.length → wr.cell? ⟨g, j, none⟩ = some (.string (bs (ls.getD j []))) := by
  have hpos : 0 < ls.length := List.length_pos_iff.2 hne
  rcases h.1.form with ⟨-, h0, -⟩ | ⟨g, cap, rfl, h1, -, h3, h4⟩
  · omega
  · refine ⟨g, cap, rfl, h3, h1, fun j hj => ?_⟩
    rw [(h4 j (by simpa [cellsS] using hj)).1]
    simp [cellsS, List.getD, hj]
theorem pW_len (ps : List Int) (h : ∀ j, j < ps.length → 0 ≤ ps.getD j 0 ∧ ps.getD j 0 < 64) : ∀ l ∈ pW ps, l.length ≤ 5000 := by
  unfold pW
  split
  · intro l hl; simp at hl; subst hl; simp
  · intro l hl
    obtain ⟨x, hx, rfl⟩ := List.mem_map.1 hl
    obtain ⟨j, hj, rfl⟩ := List.getElem_of_mem hx
    have := h j hj
    have e : ps.getD j 0 = ps[j] := by simp [List.getD, hj]
    rw [e] at this
    have := decT_len (n := ps[j]) (by omega)
    omega
theorem printT_len {w : World} {d : TrD} {vl vm vi : Value} (h : TrP w d vl vm vi) (hr : rightT d = true) : (printT d).length ≤ 100000000 := by
  obtain ⟨b1, b2, b3, b4, b5, b6, b7⟩ := right_parts hr
  have h1 := headT_len b1 (by omega)
  have h2 := memsT_len (mems := d.mems) (fun k hk => by
    obtain ⟨b, off, cap2, he, u, hcell, hpr⟩ := h.mems.at_ hk
    exact ⟨pairs_wf hpr, b7 k hk⟩) (by omega) d.mems.length (Nat.le_refl _)
  have h3 := cycs_len (fun k hk => Nat.le_trans (b6 k hk) (by decide)) d.ins.length (Nat.le_refl _)
  rw [List.take_length] at h3
  have h4 := decT_len (n := d.bad) (by omega)
  have h5 : d.mems.length * 409600 ≤ 4 * 409600 := Nat.mul_le_mul_right _ b2
  have h6 : d.ins.length * 5100 ≤ 4096 * 5100 := Nat.mul_le_mul_right _ b3
  unfold printT
  simp only [lineT, wordT, List.flatMap_cons, List.flatMap_nil, List.length_append, List.length_cons, List.length_nil]
  omega
theorem infoS : (Tryz.prog.info? 9).map (fun i => (i.zero, i.size, i.bytes)) = some (some (.string ⟨#[]⟩), 1, 16) := by kernel_rfl
end Go.Proofs.YtamgbfkpblpfiaaGreatDoor
/-
  Package report: Print, walked whole.
-/
namespace Go.Proofs.YtamgbfkpblpfiaaGreatDoor
open Go.ChangeShapes Go.WideShapes Go.ChangeAt Go.RowKit
set_option linter.unusedVariables false
theorem rightR_parts {d : RpD} (h : rightR d = true) : rightT d.tr = true ∧ (0 ≤ d.depth ∧ d.depth ≤ 1099511627776) ∧ (0 ≤ d.place ∧ d.place ≤ 1099511627776) ∧ (0 ≤ d.calls ∧ d.calls ≤ 1099511627776) ∧ (0 ≤ d.conf ∧ d.conf ≤ 1099511627776) ∧ d.ports.length ≤ 64 ∧ ∀ j, j < d.ports.length → 0 ≤ d.ports.getD j 0 ∧ d.ports.getD j 0 < 64 := by
  unfold rightR oneR withR within at h
  simp only [Bool.and_eq_true, decide_eq_true_eq] at h
  obtain ⟨⟨⟨⟨⟨⟨_, _⟩, h3⟩, h4⟩, ⟨⟨h5, h6⟩, h7⟩, h8⟩, h9⟩, _⟩ := h
  refine ⟨h4, h5, h6, h7, h8, h3, fun j hj => ?_⟩
  unfold portsB at h9
  rw [List.all_eq_true] at h9
  have := h9 j (by simpa using hj)
  unfold okP at this
  simp only [Bool.and_eq_true, decide_eq_true_eq] at this
  exact this.1
theorem RPI.fresh (w1 : World) : RPI w1 [] (w1.alloc (.cells #[.pointer none, .slice none 0 0] 70)) := ⟨R.Bd.fresh w1, (Below.refl _ _).alloc (Nat.le_refl _) _⟩
def RPost (w : World) (t : List UInt8) (f : Int) (e : Ending) (w' : World) : Prop := e = .returned (.tuple #[.string (bs t), .int .i64 f]) ∧ Below w.heap.size w w'
set_option maxHeartbeats 2000000 in
set_option maxRecDepth 100000 in
theorem report_Print_no {w : World} {d : RpD} {vl vm vi vp : Value} (h : RpP w d vl vm vi vp) (hd : rightR d = false) : Calls Tryz.prog 10 #[rpV d vl vm vi vp] w (RPost w [] 14) := by
  obtain ⟨a1, c1, hv1⟩ := h.tr.lat.len
  obtain ⟨a2, c2, hv2, -, -⟩ := h.tr.mems.form
  obtain ⟨a3, c3, hv3, -, -⟩ := h.tr.ins.form
  obtain ⟨a4, c4, hv4, -⟩ := h.ports
  have HB0 : Hid (∀ x, Below w.heap.size w (w.alloc x)) := Lib.hid fun x => (Below.refl _ _).alloc (Nat.le_refl _) _
  have HR := Lib.hid (fun x => report_Right (h.below (HB0.out x)))
  subst hv1 hv2 hv3 hv4
  have e0 : bs [] = ⟨#[]⟩ := rfl
  rw [hd] at HR
  unfold RPost
  rw [e0]
  unfold rpV at *
  clear h hd e0
  go_enter Tryz.func10, Tryz.ntmps10
  go_wp2_with fail
  refine (HR.out _).mono ?_
  rintro e w1 ⟨rfl, hb1⟩
  have HB1 := Lib.hid ((HB0.out _).trans (hb1.mono (HB0.out _).size))
  clear hb1
  go_wp2
  go_ret2
  exact ⟨rfl, HB1.out⟩
set_option maxHeartbeats 16000000 in
set_option maxRecDepth 100000 in
theorem report_Print_yes {w : World} {d : RpD} {vl vm vi vp : Value} (h : RpP w d vl vm vi vp) (hd : rightR d = true) (ht : Tab w) : Calls Tryz.prog 10 #[rpV d vl vm vi vp] w (RPost w (rpT d) 0) := by
  obtain ⟨b0, ⟨b1, b1'⟩, ⟨b2, b2'⟩, ⟨b3, b3'⟩, ⟨b4, b4'⟩, b5, b6⟩ := rightR_parts hd
  obtain ⟨a1, c1, hv1⟩ := h.tr.lat.len
  obtain ⟨a2, c2, hv2, -, -⟩ := h.tr.mems.form
  obtain ⟨a3, c3, hv3, -, -⟩ := h.tr.ins.form
  obtain ⟨a4, c4, hv4, -, -, -, hcells⟩ := h.ports
  have HB0 : Hid (∀ x, Below w.heap.size w (w.alloc x)) := Lib.hid fun x => (Below.refl _ _).alloc (Nat.le_refl _) _
  have HR := Lib.hid (fun x => report_Right (h.below (HB0.out x)))
  have H := Lib.hid h
  have HT := Lib.hid ht
  have B6 := Lib.hid b6
  have HCE := Lib.hid hcells
  rw [hd] at HR
  have hrt : Hid (rightT d.tr = true) := Lib.hid b0
  have hBx := RBx.new w (rpA d vl vm vi vp)
  have K0 : Hid (∀ W, RBx w (rpA d vl vm vi vp) W → W.cell? ⟨w.heap.size, 0, none⟩ = some (.int .i64 d.verdict) ∧ W.cell? ⟨w.heap.size, 1, none⟩ = some (.int .i64 d.depth) ∧ W.cell? ⟨w.heap.size, 2, none⟩ = some (.int .i64 d.fault) ∧ W.cell? ⟨w.heap.size, 3, none⟩ = some (.int .i64 d.place) ∧ W.cell? ⟨w.heap.size, 4, none⟩ = some vl ∧ W.cell? ⟨w.heap.size, 5, none⟩ = some vm ∧ W.cell? ⟨w.heap.size, 6, none⟩ = some vi ∧ W.cell? ⟨w.heap.size, 7, none⟩ = some (.int .i64 d.tr.bad) ∧ W.cell? ⟨w.heap.size, 8, none⟩ = some (.int .i64 d.calls) ∧ W.cell? ⟨w.heap.size, 9, none⟩ = some (.int .i64 d.conf) ∧ W.cell? ⟨w.heap.size, 10, none⟩ = some (.bool d.spent) ∧ W.cell? ⟨w.heap.size, 11, none⟩ = some vp) := Lib.hid fun W hW => load_agg12 hW.1
  have HBX := Lib.hid hBx
  unfold rpV at *
  unfold rpA at *
  subst hv1 hv2 hv3 hv4
  obtain ⟨np, hnp⟩ : ∃ np, np = d.ports.length := ⟨_, rfl⟩
  rw [← hnp] at HR b5 K0 HBX ⊢
  have NP := Lib.hid hnp
  obtain ⟨vd, hvd⟩ : ∃ x, x = d.verdict := ⟨_, rfl⟩
  obtain ⟨dp, hdp⟩ : ∃ x, x = d.depth := ⟨_, rfl⟩
  obtain ⟨fa, hfa⟩ : ∃ x, x = d.fault := ⟨_, rfl⟩
  obtain ⟨pl, hpl⟩ : ∃ x, x = d.place := ⟨_, rfl⟩
  obtain ⟨ca, hca⟩ : ∃ x, x = d.calls := ⟨_, rfl⟩
  obtain ⟨co, hco⟩ : ∃ x, x = d.conf := ⟨_, rfl⟩
  obtain ⟨sp, hsp⟩ : ∃ x, x = d.spent := ⟨_, rfl⟩
  rw [← hvd, ← hdp, ← hfa, ← hpl, ← hca, ← hco, ← hsp] at HR K0 HBX ⊢
  rw [← hdp] at b1 b1'
  rw [← hpl] at b2 b2'
  rw [← hca] at b3 b3'
  rw [← hco] at b4 b4'
  have HTX : Hid (rpT d = lineT [118, 101, 114, 100, 105, 99, 116] [wordV vd] ++ lineT [100, 101, 112, 116, 104] [decT dp] ++ lineT [102, 97, 117, 108, 116] [nameV fa, decT pl] ++ lineT [99, 97, 108, 108, 115] [decT ca, decT co] ++ lineT [115, 112, 101, 110, 116] [spT sp] ++ lineT [112, 111, 114, 116, 115] (pW d.ports) ++ (if vd = 2 then printT d.tr else [])) := Lib.hid (by unfold rpT; rw [← hvd, ← hdp, ← hfa, ← hpl, ← hca, ← hco, ← hsp])
  generalize rpT d = rt at *
  have eg : ∀ args w, (callFunc 30 args).run Tryz.prog w = .ok (.enter 30 args) w := enters_of Tryz.func30 (by kernel_rfl) rfl
  have eg2 : ∀ args w, (callFunc 31 args).run Tryz.prog w = .ok (.enter 31 args) w := enters_of Tryz.func31 (by kernel_rfl) rfl
  clear h hd ht b0 b6 hnp hcells hBx hvd hdp hfa hpl hca hco hsp
  go_enter Tryz.func10, Tryz.ntmps10
  go_wp2_with fail
  refine (HR.out _).mono ?_
  rintro e w1 ⟨rfl, hb1⟩
  have HB1 := Lib.hid ((HB0.out _).trans (hb1.mono (HB0.out _).size))
  have hbx := HBX.out.below hb1
  have HT1 := Lib.hid (HT.out.below HB1.out)
  have K : Hid (∀ W, Below w1.heap.size w1 W → W.cell? ⟨w.heap.size, 0, none⟩ = some (.int .i64 vd) ∧ W.cell? ⟨w.heap.size, 1, none⟩ = some (.int .i64 dp) ∧ W.cell? ⟨w.heap.size, 2, none⟩ = some (.int .i64 fa) ∧ W.cell? ⟨w.heap.size, 3, none⟩ = some (.int .i64 pl) ∧ W.cell? ⟨w.heap.size, 4, none⟩ = some (.slice a1 d.tr.lat.length c1) ∧ W.cell? ⟨w.heap.size, 5, none⟩ = some (.slice a2 d.tr.mems.length c2) ∧ W.cell? ⟨w.heap.size, 6, none⟩ = some (.slice a3 d.tr.ins.length c3) ∧ W.cell? ⟨w.heap.size, 7, none⟩ = some (.int .i64 d.tr.bad) ∧ W.cell? ⟨w.heap.size, 8, none⟩ = some (.int .i64 ca) ∧ W.cell? ⟨w.heap.size, 9, none⟩ = some (.int .i64 co) ∧ W.cell? ⟨w.heap.size, 10, none⟩ = some (.bool sp) ∧ W.cell? ⟨w.heap.size, 11, none⟩ = some (.slice a4 np c4)) := Lib.hid fun W hW => K0.out W (hbx.below hW)
  have HP := Lib.hid (H.out.below HB1.out)
  have hI0 := RPI.fresh w1
  clear hb1 hbx HR HBX HB0 K0
  have hlen0 : ([] : List UInt8).length ≤ 0 := by simp
  obtain ⟨t0, ht0⟩ : ∃ t : List UInt8, t = [] := ⟨_, rfl⟩
  rw [← ht0] at hI0 hlen0
  have E0 := Lib.hid ht0
  clear ht0
  obtain ⟨k0, -⟩ := K.out _ hI0.2
  have C1 := Lib.hid (word_at hI0 vd _ (Below.refl _ _))
  have hl1 : ∀ l ∈ [wordV vd], l.length ≤ 5000 := by
    have q1 := wordV_len vd
    simp; omega
  have ll1 := lineT_len (x := [118, 101, 114, 100, 105, 99, 116]) (r := [wordV vd]) (by simp) hl1 (by simp)
  have A1 := Lib.hid (rline_at hI0 #[.string ⟨#[118, 101, 114, 100, 105, 99, 116]⟩, .string (bs (wordV vd))] [118, 101, 114, 100, 105, 99, 116] [wordV vd] rfl 2 rfl (by simp) hl1 (by simp) (by omega))
  obtain ⟨t1, ht1⟩ : ∃ t, t = t0 ++ lineT [118, 101, 114, 100, 105, 99, 116] [wordV vd] := ⟨_, rfl⟩
  have hlen1 : t1.length ≤ 1*1100000 := by rw [ht1, List.length_append]; omega
  rw [← ht1] at A1
  have E1 := Lib.hid ht1
  clear ht1 hl1 ll1
  clear hI0
  go_wp2_with fail
  refine C1.out.mono ?_
  rintro e w2 ⟨rfl, q2, -⟩
  have AA := Lib.hid (A1.out _ q2)
  clear q2 k0 C1 A1
  go_wp2_with fail
  refine AA.out.mono ?_
  rintro e w3 ⟨rfl, hI1⟩
  obtain ⟨-, k1, -⟩ := K.out _ hI1.2
  have C1 := Lib.hid (itoa_at HT1.out hI1 dp b1 (by omega) _ (Below.refl _ _))
  have hl2 : ∀ l ∈ [decT dp], l.length ≤ 5000 := by
    have q1 := decT_len (n := dp) (by omega)
    simp; omega
  have ll2 := lineT_len (x := [100, 101, 112, 116, 104]) (r := [decT dp]) (by simp) hl2 (by simp)
  have A2 := Lib.hid (rline_at hI1 #[.string ⟨#[100, 101, 112, 116, 104]⟩, .string (bs (decT dp))] [100, 101, 112, 116, 104] [decT dp] rfl 2 rfl (by simp) hl2 (by simp) (by omega))
  obtain ⟨t2, ht2⟩ : ∃ t, t = t1 ++ lineT [100, 101, 112, 116, 104] [decT dp] := ⟨_, rfl⟩
  have hlen2 : t2.length ≤ 2*1100000 := by rw [ht2, List.length_append]; omega
  rw [← ht2] at A2
  have E2 := Lib.hid ht2
  clear ht2 hl2 ll2
  clear hI1 AA
  go_wp2_with fail
  refine C1.out.mono ?_
  rintro e w4 ⟨rfl, q2, -⟩
  have AA := Lib.hid (A2.out _ q2)
  clear q2 k1 C1 A2
  go_wp2_with fail
  refine AA.out.mono ?_
  rintro e w5 ⟨rfl, hI2⟩
  obtain ⟨-, -, k2, k3, -⟩ := K.out _ hI2.2
  have C1 := Lib.hid (name_at hI2 fa)
  have C2 := Lib.hid (itoa_at HT1.out hI2 pl b2 (by omega))
  have HBL := Lib.hid (show Below w5.heap.size w5 w5.drew from (Below.refl _ _).drew)
  have hl3 : ∀ l ∈ [nameV fa, decT pl], l.length ≤ 5000 := by
    have q1 := nameV_len fa
    have q2 := decT_len (n := pl) (by omega)
    simp; omega
  have ll3 := lineT_len (x := [102, 97, 117, 108, 116]) (r := [nameV fa, decT pl]) (by simp) hl3 (by simp)
  have A3 := Lib.hid (rline_at hI2 #[.string ⟨#[102, 97, 117, 108, 116]⟩, .string (bs (nameV fa)), .string (bs (decT pl))] [102, 97, 117, 108, 116] [nameV fa, decT pl] rfl 3 rfl (by simp) hl3 (by simp) (by omega))
  obtain ⟨t3, ht3⟩ : ∃ t, t = t2 ++ lineT [102, 97, 117, 108, 116] [nameV fa, decT pl] := ⟨_, rfl⟩
  have hlen3 : t3.length ≤ 3*1100000 := by rw [ht3, List.length_append]; omega
  rw [← ht3] at A3
  have E3 := Lib.hid ht3
  clear ht3 hl3 ll3
  clear hI2 AA
  go_wp2_with fail
  go_region_held3 (fun w' => w'.cell? ⟨w.heap.size, 2, none⟩ = some (.int .i64 fa) ∧ w'.cell? ⟨w.heap.size, 3, none⟩ = some (.int .i64 pl)) (go_keep) (first
    | (go_at_call 32; (with_reducible refine (C1.out _ HBL.out).mono ?_); rintro e wa ⟨rfl, qa, ra⟩; have QA := Lib.hid qa; obtain ⟨-, -, ka, la, -⟩ := K.out _ ra; clear qa ra)
    | (go_at_call 31; (with_reducible refine (C2.out _ QA.out).mono ?_); rintro e wb ⟨rfl, qb, rb⟩; have QB := Lib.hid qb; obtain ⟨-, -, kb, lb, -⟩ := K.out _ rb; clear qb rb)
    | (go_at_call 30; (with_reducible refine (A3.out _ QB.out).mono ?_); rintro e w6 ⟨rfl, hI3⟩; obtain ⟨-, -, kc, lc, -⟩ := K.out _ hI3.2))
  clear k2 k3 ka la kb lb kc lc C1 C2 A3 HBL QA QB
  obtain ⟨-, -, -, -, -, -, -, -, k8, k9, -⟩ := K.out _ hI3.2
  have C1 := Lib.hid (itoa_at HT1.out hI3 ca b3 (by omega))
  have C2 := Lib.hid (itoa_at HT1.out hI3 co b4 (by omega))
  have HBL := Lib.hid (show Below w6.heap.size w6 w6.drew from (Below.refl _ _).drew)
  have hl4 : ∀ l ∈ [decT ca, decT co], l.length ≤ 5000 := by
    have q1 := decT_len (n := ca) (by omega)
    have q2 := decT_len (n := co) (by omega)
    simp; omega
  have ll4 := lineT_len (x := [99, 97, 108, 108, 115]) (r := [decT ca, decT co]) (by simp) hl4 (by simp)
  have A4 := Lib.hid (rline_at hI3 #[.string ⟨#[99, 97, 108, 108, 115]⟩, .string (bs (decT ca)), .string (bs (decT co))] [99, 97, 108, 108, 115] [decT ca, decT co] rfl 3 rfl (by simp) hl4 (by simp) (by omega))
  obtain ⟨t4, ht4⟩ : ∃ t, t = t3 ++ lineT [99, 97, 108, 108, 115] [decT ca, decT co] := ⟨_, rfl⟩
  have hlen4 : t4.length ≤ 4*1100000 := by rw [ht4, List.length_append]; omega
  rw [← ht4] at A4
  have E4 := Lib.hid ht4
  clear ht4 hl4 ll4
  clear hI3
  go_wp2_with fail
  go_region_held3 (fun w' => w'.cell? ⟨w.heap.size, 8, none⟩ = some (.int .i64 ca) ∧ w'.cell? ⟨w.heap.size, 9, none⟩ = some (.int .i64 co)) (go_keep) (first
    | (go_at_call 31; (with_reducible refine (C1.out _ HBL.out).mono ?_); rintro e wa ⟨rfl, qa, ra⟩; have QA := Lib.hid qa; obtain ⟨-, -, -, -, -, -, -, -, ka, la, -⟩ := K.out _ ra; clear qa ra)
    | (go_at_call 31; (with_reducible refine (C2.out _ QA.out).mono ?_); rintro e wb ⟨rfl, qb, rb⟩; have QB := Lib.hid qb; obtain ⟨-, -, -, -, -, -, -, -, kb, lb, -⟩ := K.out _ rb; clear qb rb)
    | (go_at_call 30; (with_reducible refine (A4.out _ QB.out).mono ?_); rintro e w7 ⟨rfl, hI4⟩; obtain ⟨-, -, -, -, -, -, -, -, kc, lc, -⟩ := K.out _ hI4.2))
  clear k8 k9 ka la kb lb kc lc C1 C2 A4 HBL QA QB
  obtain ⟨-, -, -, -, -, -, -, -, -, -, k10, k11⟩ := K.out _ hI4.2
  have hl5 : ∀ l ∈ [spT sp], l.length ≤ 5000 := by
    cases sp <;> simp [spT]
  have ll5 := lineT_len (x := [115, 112, 101, 110, 116]) (r := [spT sp]) (by simp) hl5 (by simp)
  have A5 := Lib.hid (rline_at hI4 #[.string ⟨#[115, 112, 101, 110, 116]⟩, .string (bs (spT sp))] [115, 112, 101, 110, 116] [spT sp] rfl 2 rfl (by simp) hl5 (by simp) (by omega))
  obtain ⟨t5, ht5⟩ : ∃ t, t = t4 ++ lineT [115, 112, 101, 110, 116] [spT sp] := ⟨_, rfl⟩
  have hlen5 : t5.length ≤ 5*1100000 := by rw [ht5, List.length_append]; omega
  rw [← ht5] at A5
  have E5 := Lib.hid ht5
  clear ht5 hl5 ll5
  have I4 := Lib.hid hI4
  clear hI4
  have AA := Lib.hid (A5.out w7 (Below.refl _ _))
  have e1 : spT true = [121, 101, 115] := rfl
  have e2 : spT false = [110, 111] := rfl
  have b3 : bs [121, 101, 115] = ⟨#[121, 101, 115]⟩ := rfl
  have b4 : bs [110, 111] = ⟨#[110, 111]⟩ := rfl
  have HAA : Hid (Calls Tryz.prog 30 #[.pointer (some ⟨w1.heap.size, 0, none⟩), .slice (some ⟨w7.heap.size, 0, none⟩) 2 2] (w7.alloc (.cells #[.string ⟨#[115, 112, 101, 110, 116]⟩, .string (if sp then ⟨#[121, 101, 115]⟩ else ⟨#[110, 111]⟩)] 9)) fun e w' => e = .returned (.tuple #[]) ∧ RPI w1 t5 w') := Lib.hid (by
    have := AA.out
    cases sp
    · rw [e2, b4] at this; exact this
    · rw [e1, b3] at this; exact this)
  clear AA A5 e1 e2 b3 b4
  generalize hss : (if sp then (⟨#[121, 101, 115]⟩ : ByteArray) else ⟨#[110, 111]⟩) = ss at *
  have HSS := Lib.hid hss
  clear hss
  go_upto_if 52 with (fail)
  go_cut [7] (fun s7 wx => s7 = .string ss ∧ wx = w7)
  case first =>
    have hs := HSS.out
    cases sp with
    | false =>
      simp only [Bool.false_eq_true, if_false] at hs
      subst hs
      go_wp2_with fail
      go_meet
      exact ⟨rfl, rfl⟩
    | true =>
      simp only [if_true] at hs
      subst hs
      go_wp2_with fail
      go_meet
      exact ⟨rfl, rfl⟩
  case rest =>
    obtain ⟨rfl, hwc⟩ := hcut
    subst hwc
    go_wp2_with fail
    refine HAA.out.mono ?_
    rintro e w8 ⟨rfl, hI5⟩
    obtain ⟨-, -, -, -, -, -, -, -, -, -, -, m11⟩ := K.out _ (hI5.below ((Below.refl _ w8).alloc (Nat.le_refl _) (.cells #[.string ⟨#[112, 111, 114, 116, 115]⟩] 9))).2
    have PW0 := Lib.hid (PwRel.start hI5 [112, 111, 114, 116, 115])
    clear hI5 HAA k10 k11 I4
    go_wp2
    clear m11
    go_loopw [8, 61] (fun v i wr => ∃ k : Nat, k ≤ np ∧ i = .int .i64 k ∧ PwRel w1 t5 ([112, 111, 114, 116, 115] :: (d.ports.take k).map decT) v wr) (fun _ i _ => np - (intOf i).toNat)
    case atStart => exact ⟨0, Nat.zero_le _, rfl, PW0.out⟩
    case round =>
      obtain ⟨k, hk, rfl, hpw⟩ := hrel
      by_cases hlt : (k : Int) < (np : Int)
      · have hkn : k < d.ports.length := by have := NP.out; omega
        obtain ⟨b, off, rfl, hcell⟩ := ints_cells HCE.out hkn
        have q := hcell _ (HB1.out.trans (hpw.2.2.2.mono HB1.out.size))
        obtain ⟨x, hx⟩ : ∃ x, x = d.ports.getD k 0 := ⟨_, rfl⟩
        obtain ⟨x0, x1⟩ := B6.out k hkn
        rw [← hx] at q x0 x1
        have hst : (d.ports.take (k + 1)).map decT = (d.ports.take k).map decT ++ [decT x] := by
          rw [List.take_succ_eq_append_getElem hkn, List.map_append, hx]
          simp [List.getD, hkn]
        have C1 := Lib.hid (itoa_at HT1.out hpw.2.2 x x0 (by omega) _ (Below.refl _ _))
        have HPW := Lib.hid hpw
        have HST := Lib.hid hst
        have hst2 : ([112, 111, 114, 116, 115] :: (d.ports.take (k + 1)).map decT) = ([112, 111, 114, 116, 115] :: (d.ports.take k).map decT) ++ [decT x] := by rw [hst]; rfl
        obtain ⟨ls, hls⟩ : ∃ ls, ls = [112, 111, 114, 116, 115] :: (d.ports.take k).map decT := ⟨_, rfl⟩
        have hll : ls.length = k + 1 := by rw [hls, List.length_cons, List.length_map, List.length_take]; omega
        rw [← hls] at hst2 HPW
        have HST2 := Lib.hid hst2
        have HLL := Lib.hid hll
        clear hls hst2
        clear hcell hx hpw hst hll
        go_wp2_with fail
        refine C1.out.mono ?_
        rintro e w9 ⟨rfl, q2, -⟩
        have hp9 := HPW.out.below q2
        have HP9 := Lib.hid hp9
        clear q2
        go_wp2_with (at_builtin; refine wpList_app rfl (.tmp 65) (.tmp 69) 44 rfl 9 (.string ⟨#[]⟩) 1 16 Tryz.underlying44 infoS rfl (by decide) u8 ls.length (cellsS ls) rfl ?ho w9.heap.size 0 1 1 [.string (bs (decT x))] rfl rfl ?hn ?hs ?c1 ?c2 ?_)
        case ho => exact HP9.out.1.alloc _
        case hn =>
          intro j y hj
          match j, hj with
          | 0, hj => simp at hj; subst hj; exact (Blk.new w9 9 #[.string (bs (decT x))]).cell 0
        case hs => intro y hy; simp at hy; subst hy; rfl
        case c1 => unfold maxLen; rw [HLL.out]; omega
        case c2 => rw [HLL.out]; omega
        intro v' w' hp
        have HN : Hid (PwRel w1 t5 ([112, 111, 114, 116, 115] :: (d.ports.take (k + 1)).map decT) v' w') := Lib.hid (by
          have := PwRel.app HP9.out hp
          rw [HST2.out]
          exact this)
        clear hp hp9
        go_wp2
        go_roundw
        case rel => exact ⟨k + 1, by omega, by go_num, HN.out⟩
        case measure => simp [intOf]; omega
      · have hkn : k = d.ports.length := by have := NP.out; omega
        rw [hkn, List.take_length] at hpw
        have HPW := Lib.hid hpw
        obtain ⟨-, -, -, -, -, -, -, -, -, -, -, m11⟩ := K.out _ hpw.2.2.2
        clear hpw hkn PW0
        go_upto_if 75 with (fail)
        go_cut [8] (fun v wx => PwRel w1 t5 ([112, 111, 114, 116, 115] :: pW d.ports) v wx)
        case first =>
          by_cases hz : np = 0
          · have hnil : d.ports = [] := List.eq_nil_of_length_eq_zero (by rw [← NP.out]; exact hz)
            have hpw := HPW.out
            rw [hnil, List.map_nil] at hpw
            have HP9 := Lib.hid hpw
            have HNIL := Lib.hid hnil
            have hzb : ((np : Int) == 0) = true := by rw [hz]; rfl
            clear hz hnil hpw
            go_wp2_with (at_builtin; refine wpList_app rfl (.tmp 76) (.tmp 77) 44 rfl 9 (.string ⟨#[]⟩) 1 16 Tryz.underlying44 infoS rfl (by decide) u8 1 (cellsS [[112, 111, 114, 116, 115]]) rfl ?ho wr.heap.size 0 1 1 [.string ⟨#[45]⟩] rfl rfl ?hn ?hs ?c1 ?c2 ?_)
            case ho => exact HP9.out.1.alloc _
            (try case hn => (intro j y hj; match j, hj with | 0, hj => (simp at hj; subst hj; exact (Blk.new wr 9 #[.string ⟨#[45]⟩]).cell 0)))
            (try case hs => first | rfl | (intro y hy; simp at hy; subst hy; rfl))
            (try case c1 => first | omega | (unfold maxLen; omega))
            (try case c2 => omega)
            intro v' w' hp
            have HN : Hid (PwRel w1 t5 ([112, 111, 114, 116, 115] :: pW d.ports) v' w') := Lib.hid (by
              have := PwRel.app HP9.out hp
              rw [HNIL.out]
              exact this)
            clear hp
            go_wp2_with fail
            go_meet
            exact HN.out
          · have hpn : d.ports ≠ [] := fun e => hz (by rw [NP.out, e]; rfl)
            have hpw := HPW.out
            have e : d.ports.map decT = pW d.ports := by unfold pW; rw [if_neg hpn]
            rw [e] at hpw
            have HN := Lib.hid hpw
            have hzb : ((np : Int) == 0) = false := by rw [beq_eq_false_iff_ne]; omega
            clear hz hpn hpw e
            go_wp2_with fail
            go_meet
            exact HN.out
        case rest =>
          clear HPW m11
          obtain ⟨g, cap, hve, hg1, hg2, hg3⟩ := hcut.at_ (by simp)
          have hpl := pW_len d.ports B6.out
          have hpn : (pW d.ports).length ≤ 64 := by
            unfold pW
            split
            · simp
            · rw [List.length_map, ← NP.out]; exact b5
          have A6 := Lib.hid (rline_ hcut.2.2 [112, 111, 114, 116, 115] (pW d.ports) (by simp) hpl (by omega) (by omega) g ([112, 111, 114, 116, 115] :: pW d.ports).length cap rfl hg1 hg2 hg3)
          have ll6 := lineT_len (x := [112, 111, 114, 116, 115]) (r := pW d.ports) (by simp) hpl (by omega)
          obtain ⟨t6, ht6⟩ : ∃ t, t = t5 ++ lineT [112, 111, 114, 116, 115] (pW d.ports) := ⟨_, rfl⟩
          have hlen6 : t6.length ≤ 6*1100000 := by rw [ht6, List.length_append]; omega
          rw [← ht6] at A6
          have E6 := Lib.hid ht6
          generalize ([112, 111, 114, 116, 115] :: pW d.ports).length = wn at *
          subst hve
          clear ht6 hg1 hg2 hg3 hpl hpn ll6 hcut
          go_wp2_with fail
          refine A6.out.mono ?_
          rintro e w10 ⟨rfl, hI6⟩
          obtain ⟨m0, -, -, -, m4, m5, m6, m7, -⟩ := K.out _ hI6.2
          have HI6 := Lib.hid hI6
          clear hI6 A6
          by_cases hv : vd = 2
          · have hvb : (vd == 2) = true := by rw [beq_iff_eq]; exact hv
            have HRT : Hid (rt = t6 ++ printT d.tr) := Lib.hid (by rw [HTX.out, if_pos hv, E6.out, E5.out, E4.out, E3.out, E2.out, E1.out, E0.out]; simp [List.append_assoc])
            have P1 := Lib.hid (trace_Print_yes (HP.out.tr.below HI6.out.2) hrt.out (HT1.out.below HI6.out.2))
            have hpl := printT_len HP.out.tr hrt.out
            unfold PrintPost trV at P1
            have W1 := Lib.hid (fun W (hW : Below w10.heap.size w10 W) => (HI6.out.below hW).1.write (printT d.tr) (by omega) (HI6.out.below hW).2.size)
            have W2 := Lib.hid (fun W (hW : Below w10.heap.size w10 W) => (HI6.out.below hW).2)
            have W3 : Hid (∀ W, Below w10.heap.size w10 W → Calls Tryz.prog 34 #[.pointer (some ⟨w1.heap.size, 0, none⟩), .string (bs (printT d.tr))] W fun e w' => e = .returned (.tuple #[.int .i64 (printT d.tr).length, .nilIface]) ∧ RPI w1 rt w') := Lib.hid fun W hW => (W1.out W hW).mono fun e w' ⟨h1, h2, h3, _⟩ => ⟨h1, by rw [HRT.out]; exact h2, (W2.out W hW).trans h3⟩
            have hne : rt ≠ [] := fun e => by
              have := HTX.out
              rw [e] at this
              have := congrArg List.length this
              simp [lineT] at this
            generalize bs (printT d.tr) = sp2 at *
            generalize (printT d.tr).length = lp at *
            clear hv hpl W1 W2
            go_wp2_with fail
            refine P1.out.mono ?_
            rintro e w11 ⟨rfl, hb⟩
            have W4 := Lib.hid (W3.out _ hb)
            clear hb W3
            go_wp2_with fail
            refine W4.out.mono ?_
            rintro e w12 ⟨rfl, hI7⟩
            have HS : Hid (Calls Tryz.prog 35 #[.pointer (some ⟨w1.heap.size, 0, none⟩)] w12 fun e w' => e = .returned (.string (bs rt)) ∧ Below w1.heap.size w12 w') := Lib.hid (hI7.1.string hne)
            have HB7 := Lib.hid (HB1.out.trans (hI7.2.mono HB1.out.size))
            have HBS : Hid (w.heap.size ≤ w1.heap.size) := Lib.hid HB1.out.size
            clear hI7 hne
            go_wp2_with fail
            refine HS.out.mono ?_
            rintro e w13 ⟨rfl, hb⟩
            have HB8 := Lib.hid (HB7.out.trans (hb.mono HBS.out))
            clear hb
            go_wp2
            go_ret2
            exact ⟨rfl, HB8.out⟩
          · have hvb : (vd == 2) = false := by rw [beq_eq_false_iff_ne]; exact hv
            have HRT : Hid (rt = t6) := Lib.hid (by rw [HTX.out, if_neg hv, E6.out, E5.out, E4.out, E3.out, E2.out, E1.out, E0.out]; simp [List.append_assoc])
            have hne : t6 ≠ [] := fun e => by
              have := E6.out
              rw [e] at this
              have := congrArg List.length this
              simp [lineT] at this
            have HS : Hid (Calls Tryz.prog 35 #[.pointer (some ⟨w1.heap.size, 0, none⟩)] w10 fun e w' => e = .returned (.string (bs rt)) ∧ Below w1.heap.size w10 w') := Lib.hid (by rw [HRT.out]; exact HI6.out.1.string hne)
            have HB7 := Lib.hid (HB1.out.trans (HI6.out.2.mono HB1.out.size))
            have HBS : Hid (w.heap.size ≤ w1.heap.size) := Lib.hid HB1.out.size
            clear hne hv
            go_wp2_with fail
            refine HS.out.mono ?_
            rintro e w13 ⟨rfl, hb⟩
            have HB8 := Lib.hid (HB7.out.trans (hb.mono HBS.out))
            clear hb
            go_wp2
            go_ret2
            exact ⟨rfl, HB8.out⟩
end Go.Proofs.YtamgbfkpblpfiaaGreatDoor
