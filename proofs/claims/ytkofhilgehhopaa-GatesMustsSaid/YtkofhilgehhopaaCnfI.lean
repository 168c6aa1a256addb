/-
  Package cnf: Count, walked.
-/
import Derived.Test.YtkofhilgehhopaaCnfG
import Derived.Test.YtkofhilgehhopaaBits
import Derived.BigRegion
import Derived.Laws.OwnMore
namespace Go.Proofs.Ytkofhilgehhopaa
open Go.ChangeShapes Go.WideShapes Go.ChangeAt Go.RowKit
set_option linter.unusedVariables false
theorem Count_nil (v : Value) (w : World) : Calls Try.prog 22 #[.pointer none, v] w fun e w' => e = .returned (.tuple #[.int .i64 0, .slice none 0 0]) ∧ w = w' := by
  go_enter Try.func22, Try.ntmps22
  go_wp2
  go_ret2
  exact ⟨rfl, rfl⟩
theorem Count_big {B : Nat} {w : World} {f : Nat} {vars : Int} {xss : List (List Int)} (h : FAt B w f vars xss) (hn : 12 < vars) (v : Value) :
    Calls Try.prog 22 #[.pointer (some ⟨f, 0, none⟩), v] w fun e w' => e = .returned (.tuple #[.int .i64 (-1), .slice none 0 0]) ∧ w = w' := by
  obtain ⟨vl, c0, c1, -⟩ := h.read
  clear h c1
  go_enter Try.func22, Try.ntmps22
  go_wp2
  go_ret2
  exact ⟨rfl, rfl⟩
def goodB (xss : List (List Int)) (fs : List Int) (n k : Nat) : Bool := fixB fs (model k n) && allB xss (model k n)
def cntG (good : Nat → Bool) : Nat → Nat
  | 0 => 0
  | k + 1 => cntG good k + (if good k then 1 else 0)
def fstG (good : Nat → Bool) : Nat → Option Nat
  | 0 => none
  | k + 1 => match fstG good k with
    | some i => some i
    | none => if good k then some k else none
theorem cnt_le (good : Nat → Bool) : ∀ k, cntG good k ≤ k
  | 0 => Nat.le_refl _
  | k + 1 => by have := cnt_le good k; unfold cntG; split <;> omega
theorem cnt_fst (good : Nat → Bool) : ∀ k, cntG good k = 0 ↔ fstG good k = none
  | 0 => by simp [cntG, fstG]
  | k + 1 => by
    have := cnt_fst good k
    unfold cntG fstG
    cases h : fstG good k with
    | some i =>
      rw [h] at this
      simp at this
      simp
      omega
    | none =>
      rw [h] at this
      simp at this
      rw [this]
      by_cases hg : good k = true <;> simp [hg]
theorem cntG_no {good : Nat → Bool} {k : Nat} (h : good k = false) : cntG good (k + 1) = cntG good k := by
  show cntG good k + (if good k = true then 1 else 0) = _
  rw [if_neg (by rw [h]; decide)]
  rfl
theorem cntG_yes {good : Nat → Bool} {k : Nat} (h : good k = true) : cntG good (k + 1) = cntG good k + 1 := by
  show cntG good k + (if good k = true then 1 else 0) = _
  rw [if_pos h]
theorem fstG_old {good : Nat → Bool} {k i : Nat} (h : fstG good k = some i) : fstG good (k + 1) = some i := by
  show (match fstG good k with | some i => some i | none => if good k = true then some k else none) = _
  rw [h]
theorem fstG_yes {good : Nat → Bool} {k : Nat} (h : good k = true) (h0 : fstG good k = none) : fstG good (k + 1) = some k := by
  show (match fstG good k with | some i => some i | none => if good k = true then some k else none) = _
  rw [h0]
  exact if_pos h
theorem fstG_no {good : Nat → Bool} {k : Nat} (h : good k = false) : fstG good (k + 1) = fstG good k := by
  show (match fstG good k with | some i => some i | none => if good k = true then some k else none) = _
  cases fstG good k with
  | some i => rfl
  | none => simp [h]
theorem model_take (k : Nat) : ∀ n, ((model k n).map bv).take 1 = [bv false]
  | 0 => rfl
  | n + 1 => by
    have := model_take k n
    rw [model, List.map_append, List.take_append_of_le_length (by rw [List.length_map, model_length]; omega)]
    exact this
/-- What Count tells of the first model. -/
def FirstV (gm : Nat) (n : Nat) (wr : World) (v : Value) : Option Nat → Prop
  | none => v = .slice none 0 0
  | some i => Bools wr v (model i n) ∧ (∀ g, v.ownBlock = some g → g ≠ gm ∧ g < wr.heap.size) ∧ ∃ a m c, v = .slice a m c
/-- Between rounds. -/
structure CntW (w : World) (gm n : Nat) (cs : List Value) (wr : World) : Prop where
  b : Blk wr gm 4 cs.toArray
  x : Blk wr (gm + 1) 38 #[.slice (some ⟨gm, 0, none⟩) (n + 1) (n + 1)]
  len : cs.length = n + 1
  old : Below w.heap.size w wr
  at_ : w.heap.size = gm
theorem CntW.start {w : World} {n : Nat} : CntW w w.heap.size n (List.replicate (n + 1) (bv false)) ((w.alloc (.cells (madeCells #[.bool false] (n + 1)) 4)).alloc (.cells #[.slice (some ⟨w.heap.size, 0, none⟩) (n + 1) (n + 1)] 38)) := by
  refine ⟨?_, ?_, by simp, ((Below.refl _ w).alloc (Nat.le_refl _) _).alloc (by simp) _, rfl⟩
  · have := (Blk.new w 4 (madeCells #[.bool false] (n + 1))).alloc (.cells #[.slice (some ⟨w.heap.size, 0, none⟩) (n + 1) (n + 1)] 38)
    have e : madeCells #[.bool false] (n + 1) = (List.replicate (n + 1) (bv false)).toArray := by
      apply Array.ext'
      rw [toList_madeCells_one]
      rfl
    rw [e] at this ⊢
    exact this
  · have := Blk.new (w.alloc (.cells (madeCells #[.bool false] (n + 1)) 4)) 38 #[.slice (some ⟨w.heap.size, 0, none⟩) (n + 1) (n + 1)]
    simpa using this
theorem CntW.set_ {w wr : World} {gm n : Nat} {cs : List Value} (h : CntW w gm n cs wr) (j : Nat) (u : Value) : CntW w gm n (cs.set j u) (wr.setCell ⟨gm, j, none⟩ u) := by
  refine ⟨?_, h.x.far (by simp) _, by simp [h.len], h.old.setCell (p := ⟨gm, j, none⟩) (by rw [h.at_]; exact Nat.le_refl _) _, h.at_⟩
  have := h.b.set_ j u
  simpa using this
theorem CntW.drew {w wr : World} {gm n : Nat} {cs : List Value} (h : CntW w gm n cs wr) : CntW w gm n cs wr.drew := ⟨h.b, h.x, h.len, h.old.drew, h.at_⟩
theorem CntW.below {w wr wx : World} {gm n : Nat} {cs : List Value} (h : CntW w gm n cs wr) (hb : Below wr.heap.size wr wx) : CntW w gm n cs wx :=
  ⟨h.b.below hb h.b.lt, h.x.below hb h.x.lt, h.len, h.old.trans (hb.mono h.old.size), h.at_⟩
theorem FirstV.chg {gm n : Nat} {wr wx : World} {v : Value} {o : Option Nat} (h : FirstV gm n wr v o) (hc : Chg (fun g => g = gm) wr wx) : FirstV gm n wx v o := by
  cases o with
  | none => exact h
  | some i => exact ⟨h.1.chg hc (fun g hg e => (h.2.1 g hg).1 e), fun g hg => ⟨(h.2.1 g hg).1, Nat.lt_of_lt_of_le (h.2.1 g hg).2 hc.size⟩, h.2.2⟩
theorem FirstV.below {gm n : Nat} {wr wx : World} {v : Value} {o : Option Nat} (h : FirstV gm n wr v o) (hb : Below wr.heap.size wr wx) : FirstV gm n wx v o := h.chg (Chg.of_below hb)
theorem FirstV.form {gm n : Nat} {wr : World} {v : Value} {o : Option Nat} (h : FirstV gm n wr v o) : ∃ a m c, v = .slice a m c := by
  cases o with
  | none => exact ⟨_, _, _, h⟩
  | some i => exact h.2.2
theorem take_set (cs : List Value) (v : Nat) (u : Value) (hv : v + 1 < cs.length) : (cs.set (v + 1) u).take (v + 2) = cs.take (v + 1) ++ [u] := by
  rw [List.take_succ_eq_append_getElem (by simpa using hv), List.getElem_set_self, List.take_set_of_le (Nat.le_refl _)]
/-- In the inner loop: the first v bits of k stand there. -/
def InnerW (w : World) (gm n k : Nat) (v : Nat) (first : Value) (o : Option Nat) (wr : World) : Prop :=
  ∃ cs, CntW w gm n cs wr ∧ cs.take (v + 1) = (model k v).map bv ∧ FirstV gm n wr first o
theorem InnerW.step {w : World} {gm n k v : Nat} {first : Value} {o : Option Nat} {wr : World} (h : InnerW w gm n k v first o wr) (hv : v < n) (b : Bool) (hb : b = bitOf k v) : InnerW w gm n k (v + 1) first o (wr.setCell ⟨gm, v + 1, none⟩ (.bool b)).drew := by
  obtain ⟨cs, h1, h2, h3⟩ := h
  refine ⟨cs.set (v + 1) (.bool b), (h1.set_ _ _).drew, ?_, (h3.chg ((Chg.refl (fun g => g = gm) wr).setCell (p := ⟨gm, v + 1, none⟩) (.inl rfl) _).drew)⟩
  rw [take_set _ _ _ (by rw [h1.len]; omega), h2, hb]
  simp [model, bv]
theorem bit_eq (k v : Nat) (hk : k ≤ 4096) : (bits BinOp.and IntKind.i64 ((k : Int) / 2 ^ v) 1 == 1) = bitOf k v := by
  have e : ((k : Int) / 2 ^ v) = ((k / 2 ^ v : Nat) : Int) := by simp
  have hle : k / 2 ^ v ≤ 4096 := Nat.le_trans (Nat.div_le_self _ _) hk
  rw [e]
  unfold bitOf
  generalize k / 2 ^ v = q at *
  rw [B.and_one _ (by omega) (by omega)]
  rw [Bool.eq_iff_iff, beq_iff_eq, decide_eq_true_eq]
  omega
theorem InnerW.done {w : World} {gm n k : Nat} (hn : n ≤ 12) {first : Value} {o : Option Nat} {wr : World} (h : InnerW w gm n k n first o wr) : CntW w gm n ((model k n).map bv) wr ∧ Bools wr (.slice (some ⟨gm, 0, none⟩) (n + 1) (n + 1)) (model k n) ∧ FirstV gm n wr first o := by
  obtain ⟨cs, h1, h2, h3⟩ := h
  have e : cs = (model k n).map bv := by rw [← h2, List.take_of_length_le (by rw [h1.len]; exact Nat.le_refl _)]
  subst e
  refine ⟨h1, ⟨some ⟨gm, 0, none⟩, n + 1, by rw [model_length], by rw [model_length]; exact Nat.le_refl _, by have := h1.x; have hm := hn; unfold maxLen; omega, .inr ⟨gm, 0, rfl, fun j hj => ?_⟩⟩, h3⟩
  rw [Nat.zero_add, h1.b.cell j]
  simp [List.getD, hj, bv]
set_option maxHeartbeats 2000000 in
set_option maxRecDepth 100000 in
theorem Count_ {B : Nat} {w : World} {f n : Nat} {xss : List (List Int)} (h : FAt B w f (n : Int) xss) (hn : n ≤ 12) (hcl : AllCl xss) {v : Value} {fs : List Int} (hv : Ints w v fs) (hfs : ClauseL fs) :
    Calls Try.prog 22 #[.pointer (some ⟨f, 0, none⟩), v] w fun e w' => ∃ u, e = .returned (.tuple #[.int .i64 (cntG (goodB xss fs n) (2 ^ n)), u]) ∧ FirstV w.heap.size n w' u (fstG (goodB xss fs n) (2 ^ n)) ∧ Below w.heap.size w w' := by
  have hmk := fun W => run_makeN (P := Try.prog) 38 4 (.bool false) 1 1 Try.underlying38 infoB .i64 .i64 (n + 1) (n + 1) (Nat.le_refl _) (by omega) (by omega) W
  have e1 : (((n + 1 : Nat) : Int)) = (n : Int) + 1 := by omega
  rw [e1] at hmk
  obtain ⟨vl, c0, c1, -⟩ := h.read
  have hfl : f < w.heap.size := World.block_lt_of_cell? w _ c0
  have HF := Lib.hid h
  have HV := Lib.hid hv
  have HFS := Lib.hid hfs
  have HCL := Lib.hid hcl
  obtain ⟨va, vc, rfl, -⟩ := hv
  obtain ⟨fn, hfn⟩ : ∃ fn, fn = fs.length := ⟨_, rfl⟩
  rw [← hfn] at HV ⊢
  have n0 : (0 : Int) ≤ (n : Int) := by omega
  have n1 : (n : Int) ≤ 12 := by omega
  have hw : wrap64 ((2 : Int) ^ n) = ((2 ^ n : Nat) : Int) := by
    have e : ((2 : Int) ^ n) = ((2 ^ n : Nat) : Int) := by simp
    have h1 : 2 ^ n ≤ 2 ^ 12 := Nat.pow_le_pow_right (by omega) hn
    rw [e]
    generalize 2 ^ n = m at *
    unfold wrap64
    omega
  have hM : 2 ^ n ≤ 4096 := by have h1 : 2 ^ n ≤ 2 ^ 12 := Nat.pow_le_pow_right (by omega) hn; simpa using h1
  obtain ⟨M, hMM⟩ : ∃ M, M = 2 ^ n := ⟨_, rfl⟩
  rw [← hMM] at hw hM ⊢
  have HMM := Lib.hid hMM
  clear h c1 hfs hcl e1 hfn hMM
  go_enter Try.func22, Try.ntmps22
  go_wp2
  have HS := Lib.hid (CntW.start (w := w) (n := n))
  obtain ⟨W0, hW0⟩ : ∃ W0, W0 = (w.alloc (.cells (madeCells #[.bool false] (n + 1)) 4)).alloc (.cells #[.slice (some ⟨w.heap.size, 0, none⟩) (n + 1) (n + 1)] 38) := ⟨_, rfl⟩
  obtain ⟨gm, hgm⟩ : ∃ gm, gm = w.heap.size := ⟨_, rfl⟩
  rw [← hgm] at HS hW0 ⊢
  rw [← hW0] at HS ⊢
  rw [hw]
  clear hw
  have HGM := Lib.hid hgm
  clear hW0 hmk c0 hfl hgm
  go_loopw [4, 5, 31] (fun cnt first i wr => ∃ k : Nat, k ≤ M ∧ i = .int .i64 k ∧ cnt = .int .i64 (cntG (goodB xss fs n) k) ∧ FirstV gm n wr first (fstG (goodB xss fs n) k) ∧ ∃ cs, CntW w gm n cs wr ∧ cs.take 1 = [bv false]) (fun _ _ i _ => M - (intOf i).toNat)
  case atStart => exact ⟨0, Nat.zero_le _, rfl, rfl, rfl, _, HS.out, rfl⟩
  case round =>
    obtain ⟨k, hk, rfl, rfl, hfirst, cs, hcw, hcs⟩ := hrel
    by_cases hlt : (k : Int) < (M : Int)
    · have hfr := (HF.out.below hcw.old).read
      obtain ⟨-, d0, -, -⟩ := hfr
      have HI0 : Hid (InnerW w gm n k 0 u5 (fstG (goodB xss fs n) k) wr) := Lib.hid ⟨cs, hcw, hcs, hfirst⟩
      obtain ⟨cc, hcc⟩ : ∃ cc, cc = cntG (goodB xss fs n) k := ⟨_, rfl⟩
      obtain ⟨fo, hfo⟩ : ∃ fo, fo = fstG (goodB xss fs n) k := ⟨_, rfl⟩
      rw [← hcc]
      rw [← hfo] at HI0
      have HCC := Lib.hid hcc
      have HFO := Lib.hid hfo
      obtain ⟨fa, fm, fc, rfl⟩ := hfirst.form
      clear hfirst hcw hcs hcc hfo
      obtain ⟨wo, rfl⟩ : ∃ wo : World, wo = wr := ⟨_, rfl⟩
      go_wp2
      go_loopw [38] (fun i wi => ∃ v : Nat, v ≤ n ∧ i = .int .i64 v ∧ InnerW w gm n k v (.slice fa fm fc) fo wi) (fun i _ => n - (intOf i).toNat)
      case atStart => exact ⟨0, Nat.zero_le _, rfl, HI0.out⟩
      case round =>
        obtain ⟨v, hv, rfl, hI⟩ := hrel
        by_cases hlv : (v : Int) < (n : Int)
        · have hI2 := hI
          obtain ⟨cs, h1, h2, h3⟩ := hI
          have x0 : wr.cell? ⟨gm + 1, 0, none⟩ = some (.slice (some ⟨gm, 0, none⟩) (n + 1) (n + 1)) := h1.x.cell 0
          obtain ⟨old, hold⟩ : ∃ old, wr.cell? ⟨gm, v + 1, none⟩ = some old := ⟨_, (h1.b.cell (v + 1)).trans (by rw [List.getElem?_toArray, List.getElem?_eq_getElem (by rw [h1.len]; omega)])⟩
          have hfz : wr.frozen? ⟨gm, v + 1, none⟩ = false := h1.b.frozen _
          have HI := Lib.hid hI2
          clear h1 h2 h3 hI2
          go_wp2
          go_region
          all_goals
            go_wp2
            go_roundw
            case rel => exact ⟨v + 1, by omega, by go_num, HI.out.step (by omega) _ (bit_eq k v (by omega))⟩
            case measure => simp [intOf]; omega
        · obtain rfl : n = v := by omega
          obtain ⟨h1, h2, h3⟩ := hI.done hn
          have x0 : wr.cell? ⟨gm + 1, 0, none⟩ = some (.slice (some ⟨gm, 0, none⟩) (n + 1) (n + 1)) := h1.x.cell 0
          have HI := Lib.hid hI
          have hcon := contains1 (HV.out.below h1.old) HFS.out x0 h2
          obtain ⟨fx, hfx⟩ : ∃ fx, fx = fixB fs (model k n) := ⟨_, rfl⟩
          rw [← hfx] at hcon
          have HFX := Lib.hid hfx
          have HCON := Lib.hid hcon
          have H1 := Lib.hid h1
          have H2 := Lib.hid h2
          have H3 := Lib.hid h3
          clear hI h1 h2 h3 hcon hfx hlv
          cases fx with
          | false =>
            have HG : Hid (goodB xss fs n k = false) := Lib.hid (by unfold goodB; rw [← HFX.out]; rfl)
            go_wp2_with fail
            refine HCON.out.mono ?_
            rintro e w2 ⟨rfl, hb2⟩
            have HB2 := Lib.hid hb2
            clear hb2
            go_wp2
            go_roundw
            case rel => exact ⟨k + 1, by omega, by go_num, by rw [cntG_no HG.out, HCC.out], by rw [fstG_no HG.out, ← HFO.out]; exact H3.out.below HB2.out, _, H1.out.below HB2.out, model_take k n⟩
            case measure => simp [intOf]; omega
          | true =>
            go_wp2_with fail
            refine HCON.out.mono ?_
            rintro e w2 ⟨rfl, hb2⟩
            have x2 : w2.cell? ⟨gm + 1, 0, none⟩ = some (.slice (some ⟨gm, 0, none⟩) (n + 1) (n + 1)) := (H1.out.below hb2).x.cell 0
            have hh := Holds_ (HF.out.below (H1.out.below hb2).old) HCL.out (H2.out.below hb2)
            have hix := ixB_allB xss (model k n)
            generalize ixB xss (model k n) = z at hh hix
            have HH := Lib.hid hh
            have HIX := Lib.hid hix
            have HB2 := Lib.hid hb2
            clear hb2 hh hix
            cases hall : allB xss (model k n) with
            | false =>
              have HG : Hid (goodB xss fs n k = false) := Lib.hid (by unfold goodB; rw [hall, Bool.and_false])
              have hz : 0 ≤ z := by rw [HIX.out]; exact hall
              clear hall
              go_wp2_with fail
              refine HH.out.mono ?_
              rintro e w3 ⟨rfl, hb3⟩
              have HB3 := Lib.hid (HB2.out.trans (hb3.mono HB2.out.size))
              clear hb3
              go_wp2
              go_roundw
              case rel => exact ⟨k + 1, by omega, by go_num, by rw [cntG_no HG.out, HCC.out], by rw [fstG_no HG.out, ← HFO.out]; exact H3.out.below HB3.out, _, H1.out.below HB3.out, model_take k n⟩
              case measure => simp [intOf]; omega
            | true =>
              have HG : Hid (goodB xss fs n k = true) := Lib.hid (by unfold goodB; rw [hall, ← HFX.out]; rfl)
              have hz : z < 0 := by
                rcases Int.lt_or_le z 0 with h | h
                · exact h
                · rw [HIX.out, hall] at h; cases h
              have hcle := cnt_le (goodB xss fs n) k
              rw [← HCC.out] at hcle
              clear hall
              go_wp2_with fail
              refine HH.out.mono ?_
              rintro e w3 ⟨rfl, hb3⟩
              have HB3 := Lib.hid (HB2.out.trans (hb3.mono HB2.out.size))
              have x3 : w3.cell? ⟨gm + 1, 0, none⟩ = some (.slice (some ⟨gm, 0, none⟩) (n + 1) (n + 1)) := (H1.out.below HB3.out).x.cell 0
              clear hb3
              by_cases hc0 : cc = 0
              · have hb0 : ((cc : Int) == 0) = true := by rw [beq_iff_eq]; omega
                have HN0 : Hid (fo = none) := Lib.hid (by rw [HFO.out]; exact (cnt_fst _ k).1 (by rw [← HCC.out]; exact hc0))
                have hcl := cloneB (w := w3) (H2.out.below HB3.out) (fun e => by have := model_length k n; rw [e] at this; simp at this) (by rw [model_length]; omega)
                have HCLN := Lib.hid hcl
                clear hcl hc0
                go_wp2_with fail
                refine HCLN.out.mono ?_
                rintro e w4 ⟨u, rfl, hp⟩
                have HP := Lib.hid hp
                clear hp
                go_wp2
                go_roundw
                case rel =>
                  refine ⟨k + 1, by omega, by go_num, by rw [cntG_yes HG.out, ← HCC.out]; go_num, ?_, _, (H1.out.below HB3.out).below HP.out.2.2, model_take k n⟩
                  rw [fstG_yes HG.out (by rw [← HFO.out]; exact HN0.out)]
                  refine ⟨HP.out.1.bools, fun g hg => ⟨?_, HP.out.1.lt g hg⟩, ?_⟩
                  · have := HP.out.2.1 g hg
                    have := (H1.out.below HB3.out).b.lt
                    omega
                  · obtain ⟨a, c, h, -⟩ := HP.out.1.bools
                    exact ⟨_, _, _, h⟩
                case measure => simp [intOf]; omega
              · have hb0 : ((cc : Int) == 0) = false := by rw [beq_eq_false_iff_ne]; omega
                have HN0 : Hid (∃ i, fo = some i) := Lib.hid (by
                  rw [HFO.out]
                  cases hfz : fstG (goodB xss fs n) k with
                  | some i => exact ⟨i, rfl⟩
                  | none => exact absurd ((cnt_fst _ k).2 hfz) (by rw [← HCC.out]; exact hc0))
                clear hc0
                go_wp2
                go_roundw
                case rel =>
                  refine ⟨k + 1, by omega, by go_num, by rw [cntG_yes HG.out, ← HCC.out]; go_num, ?_, _, H1.out.below HB3.out, model_take k n⟩
                  obtain ⟨i, hi⟩ := HN0.out
                  rw [fstG_old (by rw [← HFO.out]; exact hi), ← hi]
                  exact H3.out.below HB3.out
                case measure => simp [intOf]; omega
    · have hkM : k = M := by omega
      have HK := Lib.hid hkM
      have HFV := Lib.hid hfirst
      have HCW := Lib.hid hcw
      clear hkM hfirst hcw hcs
      go_wp2
      go_ret2
      refine ⟨u5, by rw [HK.out]; rfl, ?_, HCW.out.old⟩
      rw [← HGM.out, ← HK.out]
      exact HFV.out
end Go.Proofs.Ytkofhilgehhopaa
