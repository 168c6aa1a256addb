/-
  Package report: what its Print is made of.
-/
import Derived.Test.YtojeomjabihieaaDoorRpB
import Derived.Test.YtojeomjabihieaaDoorRpC
namespace Go.Proofs.YtojeomjabihieaaDoor
open Go.ChangeShapes Go.WideShapes Go.ChangeAt Go.RowKit
set_option linter.unusedVariables false
def spT (b : Bool) : List UInt8 := if b then [121, 101, 115] else [110, 111]
def pW (ps : List Int) : List (List UInt8) := if ps = [] then [[45]] else ps.map decT
def rpT (d : RpD) : List UInt8 :=
  lineT [118, 101, 114, 100, 105, 99, 116] [wordV d.verdict] ++ lineT [100, 101, 112, 116, 104] [decT d.depth] ++ lineT [102, 97, 117, 108, 116] [nameV d.fault, decT d.place] ++ lineT [99, 97, 108, 108, 115] [decT d.calls, decT d.conf] ++
  lineT [115, 112, 101, 110, 116] [spT d.spent] ++ lineT [112, 111, 114, 116, 115] (pW d.ports) ++ (if d.verdict = 2 then printT d.tr else [])
theorem wordV_len (v : Int) : (wordV v).length ≤ 10 := by
  by_cases h : v < 0 ∨ 4 ≤ v
  · rw [wordV_out h]; simp
  · obtain ⟨k, rfl⟩ : ∃ k : Nat, v = (k : Int) := ⟨v.toNat, by omega⟩
    rw [wordV_in (by omega)]
    have : ∀ k, k < 4 → (wordsL.getD k []).length ≤ 10 := by decide
    exact this k (by omega)
theorem nameV_len (v : Int) : (nameV v).length ≤ 10 := by
  by_cases h : v < 0 ∨ 18 ≤ v
  · rw [nameV_out h]; simp
  · obtain ⟨k, rfl⟩ : ∃ k : Nat, v = (k : Int) := ⟨v.toNat, by omega⟩
    rw [nameV_in (by omega)]
    have : ∀ k, k < 18 → (namesL.getD k []).length ≤ 10 := by decide
    exact this k (by omega)
theorem itoa_dec {n : Int} (h : 0 ≤ n) : Lib.itoa n = decT n := by unfold Lib.itoa decT; rw [if_neg (by omega)]
theorem itoa_ (n : Int) (h0 : 0 ≤ n) (h1 : n ≤ 9223372036854775807) {w : World} (ht : Tab w) : Calls Tryd.prog 23 #[.int .i64 n] w fun e w' => e = .returned (.string (bs (decT n))) ∧ Below w.heap.size w w' := by
  rw [← itoa_dec h0]
  exact (Tryd.strconv_Itoa n (by omega) h1 w ht).mono fun e w' ⟨h1, k, os, h2⟩ => ⟨h1, by subst h2; exact Lib.below_grow _ w (Nat.le_refl _) k os⟩
theorem itoa_at {w1 W0 : World} {text : List UInt8} (ht : Tab w1) (hI : RPI w1 text W0) (x : Int) (h0 : 0 ≤ x) (h1 : x ≤ 9223372036854775807) : ∀ W, Below W0.heap.size W0 W →
    Calls Tryd.prog 23 #[.int .i64 x] W fun e w' => e = .returned (.string (bs (decT x))) ∧ Below W0.heap.size W0 w' ∧ Below w1.heap.size w1 w' := by
  intro W hW
  have hb : Below w1.heap.size w1 W := hI.2.trans (hW.mono hI.2.size)
  exact (itoa_ x h0 h1 (ht.below hb)).mono fun e w' ⟨h1, h2⟩ => ⟨h1, hW.trans (h2.mono hW.size), hb.trans (h2.mono hb.size)⟩
theorem word_at {w1 W0 : World} {text : List UInt8} (hI : RPI w1 text W0) (v : Int) : ∀ W, Below W0.heap.size W0 W →
    Calls Tryd.prog 5 #[.int .i64 v] W fun e w' => e = .returned (.string (bs (wordV v))) ∧ Below W0.heap.size W0 w' ∧ Below w1.heap.size w1 w' := by
  intro W hW
  have hb : Below w1.heap.size w1 W := hI.2.trans (hW.mono hI.2.size)
  exact (report_Word v W).mono fun e w' ⟨h1, h2⟩ => ⟨h1, hW.trans (h2.mono hW.size), hb.trans (h2.mono hb.size)⟩
theorem name_at {w1 W0 : World} {text : List UInt8} (hI : RPI w1 text W0) (v : Int) : ∀ W, Below W0.heap.size W0 W →
    Calls Tryd.prog 7 #[.int .i64 v] W fun e w' => e = .returned (.string (bs (nameV v))) ∧ Below W0.heap.size W0 w' ∧ Below w1.heap.size w1 w' := by
  intro W hW
  have hb : Below w1.heap.size w1 W := hI.2.trans (hW.mono hI.2.size)
  exact (report_Name v W).mono fun e w' ⟨h1, h2⟩ => ⟨h1, hW.trans (h2.mono hW.size), hb.trans (h2.mono hb.size)⟩
theorem rline_at {w1 W0 : World} {text : List UInt8} (hI : RPI w1 text W0) (cs : Array Value) (x : List UInt8) (r : List (List UInt8)) (hcs : cs = strsA (x :: r)) (n : Nat) (hn : n = (x :: r).length) (hx : x.length ≤ 100) (hr : ∀ l ∈ r, l.length ≤ 5000) (hrn : r.length ≤ 200) (hlen : text.length ≤ 1000000000000) :
    ∀ W, Below W0.heap.size W0 W → Calls Tryd.prog 22 #[.pointer (some ⟨w1.heap.size, 0, none⟩), .slice (some ⟨W.heap.size, 0, none⟩) n n] (W.alloc (.cells cs 9)) fun e w' => e = .returned (.tuple #[]) ∧ RPI w1 (text ++ lineT x r) w' := by
  intro W hW
  subst hcs
  have hW2 : Below W0.heap.size W0 (W.alloc (.cells (strsA (x :: r)) 9)) := hW.alloc hW.size _
  refine rline_ (hI.below hW2) x r hx hr hrn hlen W.heap.size n n hn (by simp) (Nat.le_refl _) (fun j hj => ?_)
  exact strs_cell (Blk.new W 9 _) hj
/-- Blocks of texts are none of the builder's. -/
theorem bd_chg {B b : Nat} {l : List UInt8} {w w' : World} {S : Nat → Prop} (h : R.Bd B b l w) (hc : Chg S w w') (hS : ∀ k, S k → ∃ cs, Blk w k 9 cs) : R.Bd B b l w' := by
  have ne : ∀ {k : Nat} {cs : Array Value} {t : TypeId}, t ≠ 9 → w.heap[k]? = some (.cells cs t (0, 0)) → ¬ S k := fun ht hk hs => by
    obtain ⟨ds, hd⟩ := hS _ hs
    unfold Blk at hd
    rw [hk] at hd
    injection hd with hd
    injection hd with _ hd
    exact ht hd
  have key : ∀ p, Lib.BuilderAt 53 5 B b p (Lib.byteCells l) w → Lib.BuilderAt 53 5 B b p (Lib.byteCells l) w' := by
    rintro p ⟨h0, v, h1, h2, h3⟩
    refine ⟨h0, v, hc.at_ h1 (ne (by decide) h1), ?_, h3⟩
    obtain ⟨hl, h2⟩ := h2
    refine ⟨hl, ?_⟩
    rcases h2 with h2 | ⟨g, cap, cur, rfl, hg, hx, hr⟩
    · exact .inl h2
    · exact .inr ⟨g, cap, cur, rfl, hg, hc.at_ hx (ne (by decide) hx), hr⟩
  exact h.elim (fun h => .inl (key _ h)) (fun h => .inr (key _ h))
def cellsS (ls : List (List UInt8)) : List Value := ls.map fun l => .string (bs l)
/-- The words of the last line, on the way. -/
def PwRel (w1 : World) (text : List UInt8) (ls : List (List UInt8)) (v : Value) (wr : World) : Prop :=
  Row wr 9 1 v ls.length (cellsS ls) ∧ (∀ g, v.ownBlock = some g → w1.heap.size ≤ g) ∧ RPI w1 text wr
theorem PwRel.below {w1 w w' : World} {text : List UInt8} {ls : List (List UInt8)} {v : Value} (h : PwRel w1 text ls v w) (hb : Below w.heap.size w w') : PwRel w1 text ls v w' :=
  ⟨h.1.chg (S := fun _ => False) (Chg.of_below hb) (fun _ _ h => h), h.2.1, h.2.2.below hb⟩
theorem PwRel.app {w1 wr w' : World} {text : List UInt8} {ls : List (List UInt8)} {v v' : Value} {l : List UInt8} (h : PwRel w1 text ls v wr) (hp : AppPost (wr.alloc (.cells #[.string (bs l)] 9)) 9 1 v (ls.length + 1) (cellsS ls ++ [.string (bs l)]) v' w') : PwRel w1 text (ls ++ [l]) v' w' := by
  have ha : PwRel w1 text ls v (wr.alloc (.cells #[.string (bs l)] 9)) := h.below ((Below.refl _ _).alloc (Nat.le_refl _) _)
  obtain ⟨p1, p2, p3⟩ := hp
  have hs : ∀ k, v.ownBlock = some k → ∃ cs, Blk (wr.alloc (.cells #[.string (bs l)] 9)) k 9 cs := fun k hk => by
    rcases ha.1.2 with ⟨rfl, -⟩ | ⟨g, cap, cur, rfl, -, hx, -⟩
    · simp [Value.ownBlock] at hk
    · simp [Value.ownBlock] at hk
      subst hk
      exact ⟨cur, hx⟩
  refine ⟨?_, fun g hg => ?_, bd_chg ha.2.2.1 p2 hs, ha.2.2.2.trans (p2.below ha.2.2.2.size (fun i hi => ha.2.1 i hi))⟩
  · unfold cellsS at *
    rw [List.length_append, List.map_append]
    exact p1
  · rcases p3 with e | e
    · rw [e] at hg; exact h.2.1 g hg
    · rw [e] at hg
      injection hg with hg
      have := ha.2.2.2.size
      omega
theorem PwRel.start {w1 W : World} {t : List UInt8} (hI : RPI w1 t W) (l : List UInt8) : PwRel w1 t [l] (.slice (some ⟨W.heap.size, 0, none⟩) 1 1) (W.alloc (.cells #[.string (bs l)] 9)) :=
  ⟨⟨rfl, .inr ⟨W.heap.size, 1, _, rfl, Nat.zero_le _, heap_alloc_new W _, Nat.le_refl _, by unfold maxLen; decide, rfl, rfl⟩⟩, fun g hg => by
    simp [Value.ownBlock] at hg
    have := hI.2.size
    omega, hI.below ((Below.refl _ _).alloc (Nat.le_refl _) _)⟩
theorem PwRel.at_ {w1 wr : World} {text : List UInt8} {ls : List (List UInt8)} {v : Value} (h : PwRel w1 text ls v wr) (hne : ls ≠ []) : ∃ g cap, v = .slice (some ⟨g, 0, none⟩) ls.length cap ∧ g < wr.heap.size ∧ ls.length ≤ cap ∧ ∀ j, j < ls.length → wr.cell? ⟨g, j, none⟩ = some (.string (bs (ls.getD j []))) := by
  have hpos : 0 < ls.length := List.length_pos_iff.2 hne
  rcases h.1.form with ⟨-, h0, -⟩ | ⟨g, cap, rfl, h1, -, h3, h4⟩
  · omega
  · refine ⟨g, cap, rfl, h3, h1, fun j hj => ?_⟩
    rw [(h4 j (by simpa [cellsS] using hj)).1]
    simp [cellsS, List.getD, hj]
theorem pW_len (ps : List Int) (h : ∀ j, j < ps.length → 0 ≤ ps.getD j 0 ∧ ps.getD j 0 < 64) : ∀ l ∈ pW ps, l.length ≤ 5000 := by
  unfold pW
  split
  · intro l hl; simp at hl; subst hl; simp
  · intro l hl
    obtain ⟨x, hx, rfl⟩ := List.mem_map.1 hl
    obtain ⟨j, hj, rfl⟩ := List.getElem_of_mem hx
    have := h j hj
    have e : ps.getD j 0 = ps[j] := by simp [List.getD, hj]
    rw [e] at this
    have := decT_len (n := ps[j]) (by omega)
    omega
theorem printT_len {w : World} {d : TrD} {vl vm vi : Value} (h : TrP w d vl vm vi) (hr : rightT d = true) : (printT d).length ≤ 100000000 := by
  obtain ⟨b1, b2, b3, b4, b5, b6, b7⟩ := right_parts hr
  have h1 := headT_len b1 (by omega)
  have h2 := memsT_len (mems := d.mems) (fun k hk => by
    obtain ⟨b, off, cap2, he, u, hcell, hpr⟩ := h.mems.at_ hk
    exact ⟨pairs_wf hpr, b7 k hk⟩) (by omega) d.mems.length (Nat.le_refl _)
  have h3 := cycs_len (fun k hk => Nat.le_trans (b6 k hk) (by decide)) d.ins.length (Nat.le_refl _)
  rw [List.take_length] at h3
  have h4 := decT_len (n := d.bad) (by omega)
  have h5 : d.mems.length * 409600 ≤ 4 * 409600 := Nat.mul_le_mul_right _ b2
  have h6 : d.ins.length * 5100 ≤ 4096 * 5100 := Nat.mul_le_mul_right _ b3
  unfold printT
  simp only [lineT, wordT, List.flatMap_cons, List.flatMap_nil, List.length_append, List.length_cons, List.length_nil]
  omega
theorem infoS : (Tryd.prog.info? 9).map (fun i => (i.zero, i.size, i.bytes)) = some (some (.string ⟨#[]⟩), 1, 16) := by kernel_rfl
end Go.Proofs.YtojeomjabihieaaDoor
