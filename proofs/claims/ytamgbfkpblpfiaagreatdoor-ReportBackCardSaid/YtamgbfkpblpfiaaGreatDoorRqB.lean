/-
  Package report: the reader in memory; a line that is none.
-/
import Derived.Test.YtamgbfkpblpfiaaGreatDoorRqA
import Derived.Test.YtamgbfkpblpfiaaGreatDoorTpF
import Derived.Test.YtamgbfkpblpfiaaGreatDoorTpP
namespace Go.Proofs.YtamgbfkpblpfiaaGreatDoor
open Go.ChangeShapes Go.WideShapes Go.ChangeAt Go.RowKit
set_option linter.unusedVariables false
set_option linter.unusedSimpArgs false
def rqA (d : RpD) (vl vm vi vp : Value) (rest : List UInt8) (n : Nat) (vw : Value) : Array Value := #[.int .i64 d.verdict, .int .i64 d.depth, .int .i64 d.fault, .int .i64 d.place, vl, vm, vi, .int .i64 d.tr.bad, .int .i64 d.calls, .int .i64 d.conf, .bool d.spent, vp, .string (bs rest), .int .i64 (n : Int), vw]
/-- The reader: a report in the making, what is left, the next line's number, a line's words. -/
def RqAt (w : World) (r : Nat) (d : RpD) (vl vm vi vp : Value) (rest : List UInt8) (n : Nat) (vw : Value) : Prop := Blk w r 46 (rqA d vl vm vi vp rest n vw)
section
variable {w w' : World} {r n : Nat} {d : RpD} {vl vm vi vp vw : Value} {rs : List UInt8}
theorem RqAt.below (h : RqAt w r d vl vm vi vp rs n vw) (hb : Below w.heap.size w w') : RqAt w' r d vl vm vi vp rs n vw := Blk.below h hb h.lt
theorem RqAt.rest (h : RqAt w r d vl vm vi vp rs n vw) : w.cell? ⟨r, 12, none⟩ = some (.string (bs rs)) ∧ w.frozen? ⟨r, 12, none⟩ = false := ⟨h.cell 12, h.frozen 12⟩
theorem RqAt.num (h : RqAt w r d vl vm vi vp rs n vw) : w.cell? ⟨r, 13, none⟩ = some (.int .i64 (n : Int)) ∧ w.frozen? ⟨r, 13, none⟩ = false := ⟨h.cell 13, h.frozen 13⟩
theorem RqAt.words (h : RqAt w r d vl vm vi vp rs n vw) : w.cell? ⟨r, 14, none⟩ = some vw ∧ w.frozen? ⟨r, 14, none⟩ = false := ⟨h.cell 14, h.frozen 14⟩
theorem qbad_ (h : RqAt w r d vl vm vi vp rs n vw) : Calls Tryz.prog 41 #[rdp r] w (BadR w n) := by
  have c1 := h.num.1
  have HN := Lib.hid (New_B 2 n (by decide) w)
  clear h
  go_enter Tryz.func41, Tryz.ntmps41
  go_wp2_with fail
  refine HN.out.mono ?_
  rintro e w1 ⟨v, rfl, hb, hw⟩
  have HF : Hid (BadR w n (.returned v) w1) := Lib.hid ⟨v, rfl, hb, hw⟩
  obtain ⟨x, rfl⟩ := hb.iface
  clear hb hw
  go_wp2
  go_ret
  exact HF.out
end
/-- A line taken: its words, and the reader behind it; or an error. -/
def LineQ (w : World) (r : Nat) (d : RpD) (vl vm vi vp : Value) (n : Nat) (o : Option (List (List UInt8) × List UInt8)) (e : Ending) (w' : World) : Prop := match o with
  | some (ws, rest) => ∃ b, e = .returned .nilIface ∧ Wds w' b ws ∧ RqAt w' r d vl vm vi vp rest n (.slice (some ⟨b, 1, none⟩) ws.length ws.length) ∧ Chg (fun k => k = r) w w' ∧ w.heap.size ≤ b ∧ b < w'.heap.size
  | none => ∃ v, e = .returned v ∧ Bad w' 2 n v ∧ Below w.heap.size w w'
end Go.Proofs.YtamgbfkpblpfiaaGreatDoor
/-
  Package report: a line's words, walked.
-/
namespace Go.Proofs.YtamgbfkpblpfiaaGreatDoor
open Go.ChangeShapes Go.WideShapes Go.ChangeAt Go.RowKit
set_option linter.unusedVariables false
set_option linter.unusedSimpArgs false
/-- How many words are asked, as an argument. -/
def manyI (many : Option Nat) : Int := match many with
  | some m => (m : Int)
  | none => -1
theorem line_words {x : List UInt8} {ws : List (List UInt8)} {w : World} (k : Nat) {j : Nat} (hj : j < ws.length + 1) : ((w.drewN k).alloc (.cells ((x :: ws).map strV).toArray 9)).cell? ⟨w.heap.size, j, none⟩ = some (strV ((x :: ws).getD j [])) := by
  have hB := Blk.new (w.drewN k) 9 ((x :: ws).map strV).toArray
  have := hB.cell j
  rw [show (w.drewN k).heap.size = w.heap.size from rfl] at this
  rw [this]
  rw [List.getElem?_toArray, List.getElem?_map, List.getD_eq_getElem?_getD, List.getElem?_eq_getElem (by simpa using hj)]
  rfl
set_option maxHeartbeats 8000000 in
set_option maxRecDepth 100000 in
theorem rdline_ {w : World} {r n : Nat} {d : RpD} {vl vm vi vp vw : Value} {rest : List UInt8} (h : RqAt w r d vl vm vi vp rest n vw) (hm : MaxL w) (hL : Laid w) (hl : rest.length ≤ 100000) (word : List UInt8) (many : Option Nat) (hmany : ∀ m ∈ many, m ≤ 100) :
    Calls Tryz.prog 39 #[rdp r, .string (bs word), .int .i64 (manyI many)] w (LineQ w r d vl vm vi vp n (lineR word many rest)) := by
  have c0 := h.rest.1
  have HBW : Hid (∀ k c, Below w.heap.size w ((w.drewN k).alloc c)) := Lib.hid fun k c => (below_drewN (Below.refl _ w) k).alloc (Nat.le_refl _) c
  have HBD : Hid (∀ W, Below w.heap.size w W → Calls Tryz.prog 41 #[rdp r] W (BadR W n)) := Lib.hid fun W hW => qbad_ (h.below hW)
  have HNU : Hid (∀ W, Below w.heap.size w W → W.cell? ⟨r, 13, none⟩ = some (.int .i64 (n : Int))) := Lib.hid fun W hW => (h.below hW).num.1
  have HWR : Hid (∀ W v, Below w.heap.size w W → Bad W 2 n v → Calls Tryz.prog 82 #[v, .int .i64 (n : Int)] W fun e w' => ∃ u, e = .returned u ∧ Bad w' 2 n u ∧ Below W.heap.size W w') := Lib.hid fun W v hW hb => Wrap_B (hL.below hW) hb (n : Int)
  have HRD := Lib.hid h
  have HRR : Hid (∀ W, Below w.heap.size w W → RqAt W r d vl vm vi vp rest n vw) := Lib.hid fun W hW => h.below hW
  unfold lineR
  cases hc : cutT rest with
  | none =>
    have HC := Lib.hid (cut_none hc hl hm)
    have HSP : Hid (∀ k, Calls Tryz.prog 81 #[.string (bs rest), .string ⟨#[32]⟩] (w.drewN k) fun e w' => e = .returned (.slice (some ⟨w.heap.size, 0, none⟩) (wordsT rest).length (wordsT rest).length) ∧ w' = (w.drewN k).alloc (.cells ((wordsT rest).map strV).toArray 9)) := Lib.hid fun k => split_ hl (hm.below (below_drewN (Below.refl _ w) k))
    simp only
    clear h hc hm hL hmany
    generalize (wordsT rest).length = m at *
    generalize ((wordsT rest).map strV).toArray = cs at *
    generalize bs rest = s at *
    generalize bs word = sw at *
    generalize manyI many = mi at *
    go_enter Tryz.func39, Tryz.ntmps39
    go_wp2_with fail
    refine HC.out.mono ?_
    rintro e w1 ⟨rfl, k, rfl⟩
    go_wp2_with fail
    refine (HSP.out k).mono ?_
    rintro e w2 ⟨rfl, rfl⟩
    have k13 := HNU.out _ (HBW.out k (.cells cs 9))
    have k13d := HNU.out _ (HBW.out k (.cells cs 9)).drew
    go_wp2_with fail
    go_region_with (first
      | (go_at_call 41; (with_reducible refine (HBD.out _ ((HBW.out k _).drew)).mono ?_); rintro e w3 ⟨v, rfl, hb, hw⟩; have HB3 : Hid (Below w.heap.size w w3) := Lib.hid (((HBW.out k _).drew).trans (hw.mono ((HBW.out k _).drew).size)); have HV := Lib.hid hb; obtain ⟨x9, rfl⟩ := hb.iface; have k13 := HNU.out w3 HB3.out; clear hb hw)
      | (go_at_call 82; (with_reducible refine (HWR.out w3 _ HB3.out HV.out).mono ?_); rintro e w4 ⟨u, rfl, hb, hw⟩; have HF : Hid (LineQ w r d vl vm vi vp n none (.returned u) w4) := Lib.hid ⟨u, rfl, hb, HB3.out.trans (hw.mono HB3.out.size)⟩; clear hb hw))
    all_goals
      go_wp2
      go_ret
      exact HF.out
  | some q =>
    obtain ⟨line, r'⟩ := q
    have hll : line.length ≤ 100000 := by have := cutT_len hc; omega
    have HC := Lib.hid (cut_some hc hl hm)
    have HSP : Hid (∀ k, Calls Tryz.prog 81 #[.string (bs line), .string ⟨#[32]⟩] (w.drewN k) fun e w' => e = .returned (.slice (some ⟨w.heap.size, 0, none⟩) (wordsT line).length (wordsT line).length) ∧ w' = (w.drewN k).alloc (.cells ((wordsT line).map strV).toArray 9)) := Lib.hid fun k => split_ hll (hm.below (below_drewN (Below.refl _ w) k))
    have HLT := Lib.hid h.lt
    simp only
    cases hw : wordsT line with
    | nil => exact absurd hw (wordsT_ne line)
    | cons x ws =>
      rw [hw] at HSP
      have hwl : ws.length ≤ 100000 := by have := (wordsT_len line).1; rw [hw] at this; simp at this; omega
      simp only [List.length_cons] at HSP
      simp only
      have HCS : Hid (∀ k j, j < ws.length + 1 → ((w.drewN k).alloc (.cells ((x :: ws).map strV).toArray 9)).cell? ⟨w.heap.size, j, none⟩ = some (strV ((x :: ws).getD j []))) := Lib.hid fun k j hj => line_words k hj
      have hx0 : ∀ k, ((w.drewN k).alloc (.cells ((x :: ws).map strV).toArray 9)).cell? ⟨w.heap.size, 0, none⟩ = some (.string (bs x)) := fun k => HCS.out k 0 (by omega)
      have HX0 := Lib.hid hx0
      by_cases hx : x = word
      · have hxs : (!(bs x).toList == (bs word).toList) = false := by rw [hx]; simp
        by_cases hw0 : ws = []
        · rw [if_neg (fun h => h.2.1 hw0)]
          subst hw0
          clear h hc hm hL hw hx hx0 hmany hwl HLT
          generalize manyI many = mi at *
          generalize hcs : ((x :: []).map strV).toArray = cs at *
          generalize bs rest = s at *
          generalize bs word = sw at *
          generalize bs x = sx at *
          clear hcs
          go_enter Tryz.func39, Tryz.ntmps39
          go_wp2_with fail
          refine HC.out.mono ?_
          rintro e w1 ⟨rfl, k, rfl⟩
          go_wp2_with fail
          refine (HSP.out k).mono ?_
          rintro e w2 ⟨rfl, rfl⟩
          have hx1 := HX0.out k
          have k13 := HNU.out _ (HBW.out k (.cells cs 9))
          have k13d := HNU.out _ (HBW.out k (.cells cs 9)).drew
          go_wp2_with fail
          go_region_with (first
            | (go_at_call 41; (with_reducible refine (HBD.out _ ((HBW.out k _).drew)).mono ?_); rintro e w3 ⟨v, rfl, hb, hw⟩; have HB3 : Hid (Below w.heap.size w w3) := Lib.hid (((HBW.out k _).drew).trans (hw.mono ((HBW.out k _).drew).size)); have HV := Lib.hid hb; obtain ⟨x9, rfl⟩ := hb.iface; have k13 := HNU.out w3 HB3.out; clear hb hw)
            | (go_at_call 82; (with_reducible refine (HWR.out w3 _ HB3.out HV.out).mono ?_); rintro e w4 ⟨u, rfl, hb, hw⟩; have HF : Hid (LineQ w r d vl vm vi vp n none (.returned u) w4) := Lib.hid ⟨u, rfl, hb, HB3.out.trans (hw.mono HB3.out.size)⟩; clear hb hw))
          all_goals
            go_wp2
            go_ret
            exact HF.out
        · have hw1 : 1 ≤ ws.length := List.length_pos_iff.2 hw0
          by_cases hmm : ∀ m ∈ many, ws.length = m
          · rw [if_pos ⟨hx, hw0, hmm⟩]
            have HF : Hid (∀ k, LineQ w r d vl vm vi vp n (some (ws, r')) (.returned .nilIface) ((((w.drewN k).alloc (.cells ((x :: ws).map strV).toArray 9)).drew.setCell ⟨r, 12, none⟩ (.string (bs r'))).setCell ⟨r, 14, none⟩ (.slice (some ⟨w.heap.size, 1, none⟩) ws.length ws.length))) := Lib.hid fun k => by
              have hlt := HLT.out
              have hB := HRR.out _ (HBW.out k (.cells ((x :: ws).map strV).toArray 9)).drew
              refine ⟨w.heap.size, rfl, fun j hj => ?_, ?_, ?_, Nat.le_refl _, by simp [World.setCell]⟩
              · have hc := HCS.out k (1 + j) (by omega)
                have hne : w.heap.size ≠ r := by omega
                have h1 := far_cell (u := .string (bs r')) (p := ⟨r, 12, none⟩) (w := ((w.drewN k).alloc (.cells ((x :: ws).map strV).toArray 9)).drew) (b := w.heap.size) (o := 1 + j) hc hne
                have h2 := far_cell (u := .slice (some ⟨w.heap.size, 1, none⟩) ws.length ws.length) (p := ⟨r, 14, none⟩) h1 hne
                rw [h2, Nat.add_comm 1 j, List.getD_cons_succ]
              · exact (Blk.set_ hB 12 (.string (bs r'))).set_ 14 _
              · exact ((Chg.of_below (S := fun k => k = r) (HBW.out k _).drew).trans ((Chg.refl (fun k => k = r) _).setCell (p := ⟨r, 12, none⟩) (.inl rfl) _) (fun i hi => .inl hi)).trans ((Chg.refl (fun k => k = r) _).setCell (p := ⟨r, 14, none⟩) (.inl rfl) _) (fun i hi => .inl hi)
            have HRF : Hid (∀ W, Below w.heap.size w W → (W.frozen? ⟨r, 12, none⟩ = false ∧ W.frozen? ⟨r, 14, none⟩ = false) ∧ W.cell? ⟨r, 12, none⟩ = some (.string (bs rest)) ∧ W.cell? ⟨r, 14, none⟩ = some vw) := Lib.hid fun W hW => ⟨⟨(HRR.out W hW).rest.2, (HRR.out W hW).words.2⟩, (HRR.out W hW).rest.1, (HRR.out W hW).words.1⟩
            have hl2 : ¬ (ws.length : Int) + 1 < 2 := by omega
            have hl3 : manyI many = -1 ∨ (0 ≤ manyI many ∧ ((ws.length : Int) + 1 != manyI many + 1) = false ∧ manyI many ≤ 100) := by
              cases many with
              | none => exact .inl rfl
              | some m =>
                refine .inr ⟨?_, ?_, ?_⟩
                · show (0 : Int) ≤ (m : Int); omega
                · rw [hmm m rfl]; simp [manyI]
                · have := hmany m rfl; show (m : Int) ≤ 100; omega
            clear h hc hm hL hw hx hx0 hmany hw0 hw1 hmm
            generalize manyI many = mi at *
            generalize hwn : ws.length = nw at *
            clear hwn
            generalize hcs : ((x :: ws).map strV).toArray = cs at *
            generalize bs rest = s at *
            generalize bs word = sw at *
            generalize bs x = sx at *
            clear hcs
            rcases hl3 with rfl | ⟨hl4, hl5, hl6⟩
            all_goals
              go_enter Tryz.func39, Tryz.ntmps39
              go_wp2_with fail
              refine HC.out.mono ?_
              rintro e w1 ⟨rfl, k, rfl⟩
              go_wp2_with fail
              refine (HSP.out k).mono ?_
              rintro e w2 ⟨rfl, rfl⟩
              have hx1 := HX0.out k
              have k13 := HNU.out _ (HBW.out k (.cells cs 9))
              have k13d := HNU.out _ (HBW.out k (.cells cs 9)).drew
              obtain ⟨⟨hr1, hr2⟩, hr3, hr4⟩ := HRF.out _ (HBW.out k (.cells cs 9))
              obtain ⟨⟨hs1, hs2⟩, hs3, hs4⟩ := HRF.out _ (HBW.out k (.cells cs 9)).drew
              go_wp2
              go_region
              go_wp2
              go_ret
              exact HF.out k
          · rw [if_neg (fun h => hmm h.2.2)]
            obtain ⟨m, rfl, hmn⟩ : ∃ m, many = some m ∧ ws.length ≠ m := by
              cases many with
              | none => exact absurd (fun m hm => by cases hm) hmm
              | some m => exact ⟨m, rfl, fun e => hmm (fun m' hm' => by cases hm'; exact e)⟩
            have hl2 : ¬ (ws.length : Int) + 1 < 2 := by omega
            have hl5 : ((ws.length : Int) + 1 != (m : Int) + 1) = true := by rw [bne_iff_ne]; omega
            have hl6 : m ≤ 100 := hmany m rfl
            unfold manyI
            simp only
            clear h hc hm hL hw hx hx0 hmany hw0 hw1 hmm hmn HLT
            generalize hwn : ws.length = nw at *
            clear hwn
            generalize hcs : ((x :: ws).map strV).toArray = cs at *
            generalize bs rest = s at *
            generalize bs word = sw at *
            generalize bs x = sx at *
            clear hcs
            go_enter Tryz.func39, Tryz.ntmps39
            go_wp2_with fail
            refine HC.out.mono ?_
            rintro e w1 ⟨rfl, k, rfl⟩
            go_wp2_with fail
            refine (HSP.out k).mono ?_
            rintro e w2 ⟨rfl, rfl⟩
            have hx1 := HX0.out k
            have k13 := HNU.out _ (HBW.out k (.cells cs 9))
            have k13d := HNU.out _ (HBW.out k (.cells cs 9)).drew
            go_wp2_with fail
            go_region_with (first
              | (go_at_call 41; (with_reducible refine (HBD.out _ ((HBW.out k _).drew)).mono ?_); rintro e w3 ⟨v, rfl, hb, hw⟩; have HB3 : Hid (Below w.heap.size w w3) := Lib.hid (((HBW.out k _).drew).trans (hw.mono ((HBW.out k _).drew).size)); have HV := Lib.hid hb; obtain ⟨x9, rfl⟩ := hb.iface; have k13 := HNU.out w3 HB3.out; clear hb hw)
              | (go_at_call 82; (with_reducible refine (HWR.out w3 _ HB3.out HV.out).mono ?_); rintro e w4 ⟨u, rfl, hb, hw⟩; have HF : Hid (LineQ w r d vl vm vi vp n none (.returned u) w4) := Lib.hid ⟨u, rfl, hb, HB3.out.trans (hw.mono HB3.out.size)⟩; clear hb hw))
            all_goals
              go_wp2
              go_ret
              exact HF.out
      · rw [if_neg (fun h => hx h.1)]
        have hxs : (!(bs x).toList == (bs word).toList) = true := by rw [Lib.toList_data, Lib.toList_data, bs_list, bs_list]; simpa using hx
        clear h hc hm hL hw hx hx0 hmany HLT
        generalize manyI many = mi at *
        generalize hwn : ws.length = nw at *
        clear hwn
        generalize hcs : ((x :: ws).map strV).toArray = cs at *
        generalize bs rest = s at *
        generalize bs word = sw at *
        generalize bs x = sx at *
        clear hcs
        go_enter Tryz.func39, Tryz.ntmps39
        go_wp2_with fail
        refine HC.out.mono ?_
        rintro e w1 ⟨rfl, k, rfl⟩
        go_wp2_with fail
        refine (HSP.out k).mono ?_
        rintro e w2 ⟨rfl, rfl⟩
        have hx1 := HX0.out k
        have k13 := HNU.out _ (HBW.out k (.cells cs 9))
        have k13d := HNU.out _ (HBW.out k (.cells cs 9)).drew
        go_wp2_with fail
        go_region_with (first
          | (go_at_call 41; (with_reducible refine (HBD.out _ ((HBW.out k _).drew)).mono ?_); rintro e w3 ⟨v, rfl, hb, hw⟩; have HB3 : Hid (Below w.heap.size w w3) := Lib.hid (((HBW.out k _).drew).trans (hw.mono ((HBW.out k _).drew).size)); have HV := Lib.hid hb; obtain ⟨x9, rfl⟩ := hb.iface; have k13 := HNU.out w3 HB3.out; clear hb hw)
          | (go_at_call 82; (with_reducible refine (HWR.out w3 _ HB3.out HV.out).mono ?_); rintro e w4 ⟨u, rfl, hb, hw⟩; have HF : Hid (LineQ w r d vl vm vi vp n none (.returned u) w4) := Lib.hid ⟨u, rfl, hb, HB3.out.trans (hw.mono HB3.out.size)⟩; clear hb hw))
        all_goals
          go_wp2
          go_ret
          exact HF.out
end Go.Proofs.YtamgbfkpblpfiaaGreatDoor
/-
  Package report: numbers of words, into what pointers point at, walked.
-/
namespace Go.Proofs.YtamgbfkpblpfiaaGreatDoor
open Go.ChangeShapes Go.WideShapes Go.ChangeAt Go.RowKit
set_option linter.unusedVariables false
set_option linter.unusedSimpArgs false
abbrev a00 : Addr := ⟨0, 0, none⟩
/-- What holds when so many numbers were laid where pointers point at. -/
structure Tgt (ps : List Addr) (T : List Nat → World → Prop) : Prop where
  below : ∀ {ns : List Nat} {W W' : World}, T ns W → Below W.heap.size W W' → T ns W'
  set : ∀ {ns : List Nat} {W : World} (x : Nat), T ns W → ns.length < ps.length → T (ns ++ [x]) (W.setCell (ps.getD ns.length a00) (.int .i64 (x : Int)))
  cell : ∀ {ns : List Nat} {W : World}, T ns W → ns.length < ps.length → (∃ v, W.cell? (ps.getD ns.length a00) = some v) ∧ W.frozen? (ps.getD ns.length a00) = false
/-- The numbers of words, at most so great. -/
def numK (most : Nat) : List (List UInt8) → Option (List Nat)
  | [] => some []
  | w :: ws => match numM most w with
    | some n => (match numK most ws with | some l => some (n :: l) | none => none)
    | none => none
theorem numK_snoc (most : Nat) : ∀ (a : List (List UInt8)) (x : List UInt8), numK most (a ++ [x]) = match numK most a with | some l => (match numM most x with | some n => some (l ++ [n]) | none => none) | none => none
  | [], x => by simp only [List.nil_append, numK]
  | w :: a, x => by
    rw [List.cons_append, numK, numK, numK_snoc most a x]
    cases numM most w with
    | none => rfl
    | some n =>
      cases numK most a with
      | none => rfl
      | some l => cases numM most x <;> rfl
theorem numK_none (most : Nat) : ∀ (a b : List (List UInt8)), numK most a = none → numK most (a ++ b) = none
  | [], b, h => by cases h
  | w :: a, b, h => by
    rw [List.cons_append]
    rw [numK] at h ⊢
    cases hn : numM most w with
    | none => rfl
    | some n =>
      rw [hn] at h
      simp only at h ⊢
      cases hl : numK most a with
      | none => rw [numK_none most a b hl]
      | some l => rw [hl] at h; cases h
theorem numK_len {most : Nat} : ∀ {a : List (List UInt8)} {ns : List Nat}, numK most a = some ns → ns.length = a.length
  | [], ns, h => by injection h with h; subst h; rfl
  | w :: a, ns, h => by
    rw [numK] at h
    cases hn : numM most w with
    | none => rw [hn] at h; cases h
    | some n =>
      rw [hn] at h
      simp only at h
      cases hl : numK most a with
      | none => rw [hl] at h; cases h
      | some l =>
        rw [hl] at h
        injection h with h
        subst h
        simp [numK_len hl]
def NumsP (T : List Nat → World → Prop) (n : Nat) (o : Option (List Nat)) (e : Ending) (w' : World) : Prop := match o with
  | some ns => e = .returned .nilIface ∧ T ns w'
  | none => ∃ v ns, e = .returned v ∧ Bad w' 2 n v ∧ T ns w'
theorem ansU_some (k : Nat) : ansU (some k) = (k, true) := rfl
set_option maxHeartbeats 4000000 in
set_option maxRecDepth 100000 in
theorem qnumbers_ {w : World} {r n : Nat} {ps : List Addr} {T : List Nat → World → Prop} (ht : Tgt ps T) (h0 : T [] w) (ws : List (List UInt8)) {b off cap g m nw : Nat} (hm : m = ps.length) (hnw : nw = ws.length)
    (hbd : ∀ ns W, T ns W → Calls Tryz.prog 41 #[rdp r] W (BadR W n))
    (hws : ∀ ns W, T ns W → ∀ j, j < ws.length → W.cell? ⟨b, off + j, none⟩ = some (.string (bs (ws.getD j []))))
    (hps : ∀ ns W, T ns W → ∀ j, j < ps.length → W.cell? ⟨g, j, none⟩ = some (.pointer (some (ps.getD j a00))))
    (hlen : m ≤ nw) (hl : ∀ y ∈ ws, y.length ≤ 100000) (hm9 : m ≤ 100) (hw9 : nw ≤ 200000) (most : Nat) (hmo : most ≤ 1099511627776) :
    Calls Tryz.prog 42 #[rdp r, .slice (some ⟨b, off, none⟩) nw cap, .int .u64 (most : Int), .slice (some ⟨g, 0, none⟩) m m] w (NumsP T n (numK most (ws.take m))) := by
  have HT := Lib.hid ht
  have H0 := Lib.hid h0
  have HBD := Lib.hid hbd
  have HWS := Lib.hid hws
  have HPS := Lib.hid hps
  have HL := Lib.hid hl
  have HM := Lib.hid hm
  have HNW := Lib.hid hnw
  clear ht h0 hbd hws hps hl hm hnw
  go_enter Tryz.func42, Tryz.ntmps42
  go_wp2
  go_loopw [15] (fun c wr => ∃ j : Nat, ∃ ns, j ≤ m ∧ c = .int .i64 j ∧ numK most (ws.take j) = some ns ∧ ns.length = j ∧ T ns wr) (fun c _ => m - (intOf c).toNat)
  case atStart => exact ⟨0, [], Nat.zero_le _, rfl, rfl, rfl, H0.out⟩
  case round =>
    obtain ⟨j, ns, hj, rfl, hk, hnl, hT⟩ := hrel
    have HK := Lib.hid hk
    have HNL := Lib.hid hnl
    have HTW := Lib.hid hT
    clear hk hnl hT
    by_cases hlt : (j : Int) < (m : Int)
    · have hjp : j < ps.length := by have := HM.out; omega
      have hjw : j < ws.length := by have := HNW.out; omega
      have hjn : (j : Int) < (nw : Int) := by omega
      have q1 := HPS.out ns wr HTW.out j hjp
      have q2 := HWS.out ns wr HTW.out j hjw
      have hyl := HL.out (ws.getD j []) (by rw [List.getD_eq_getElem?_getD, List.getElem?_eq_getElem hjw]; exact List.getElem_mem hjw)
      have htk : ws.take (j + 1) = ws.take j ++ [ws.getD j []] := take_snocG [] hjw
      obtain ⟨y, hy⟩ : ∃ y, y = ws.getD j [] := ⟨_, rfl⟩
      rw [← hy] at q2 hyl htk
      have HTK := Lib.hid htk
      have hnum := number_of (bs y) wr (by rw [bs_size]; omega)
      rw [bs_list] at hnum
      have HNM := Lib.hid hnum
      have hge : ws.take m = ws.take j ++ (ws.take m).drop j := by
        have e := List.take_append_drop j (ws.take m)
        rw [List.take_take, Nat.min_eq_left (by omega)] at e
        exact e.symm
      have hfull : ws.take m = ws.take (j + 1) ++ (ws.take m).drop (j + 1) := by
        have e := List.take_append_drop (j + 1) (ws.take m)
        rw [List.take_take, Nat.min_eq_left (by omega)] at e
        exact e.symm
      have HBADN : Hid (numM most y = none → numK most (ws.take m) = none) := Lib.hid fun hh => by
        rw [hfull]
        refine numK_none _ _ _ ?_
        rw [HTK.out, numK_snoc, HK.out, hh]
      obtain ⟨p, hp⟩ : ∃ p, p = ps.getD j a00 := ⟨_, rfl⟩
      rw [← hp] at q1
      have HP := Lib.hid hp
      have HMY : Hid (numM most y = match numU y with | some k => if k ≤ most then some k else none | none => none) := Lib.hid rfl
      obtain ⟨o, hoo⟩ : ∃ o, o = numK most (ws.take m) := ⟨_, rfl⟩
      have HOO := Lib.hid hoo
      rw [← hoo]
      rw [← hoo] at HBADN
      generalize bs y = sy at *
      clear hy hyl htk hnum hge hfull hp hoo hjp hjw
      cases hu : numU y with
      | none =>
        have HON : Hid (o = none) := Lib.hid (HBADN.out (by rw [HMY.out, hu]))
        rw [hu] at HNM
        clear hu
        go_wp2_with fail
        refine HNM.out.mono ?_
        rintro e w2 ⟨rfl, hb⟩
        rw [ansU_none]
        have HTB := Lib.hid (HT.out.below HTW.out hb)
        have HBB := Lib.hid (HBD.out ns w2 HTB.out)
        clear hb q1 q2
        simp only
        go_wp2_with fail
        refine HBB.out.mono ?_
        rintro e w3 ⟨v, rfl, hv, hw⟩
        have HF : Hid (NumsP T n o (.returned v) w3) := Lib.hid (by rw [HON.out]; exact ⟨v, ns, rfl, hv, HT.out.below HTB.out hw⟩)
        obtain ⟨x9, rfl⟩ := hv.iface
        clear hv hw
        go_wp2
        go_ret
        exact HF.out
      | some k =>
        rw [hu] at HNM
        by_cases hkm : k ≤ most
        · have HY : Hid (numM most y = some k) := Lib.hid (by rw [HMY.out, hu]; exact if_pos hkm)
          have hk1 : ¬ (most : Int) < (k : Int) := by omega
          have hk2 : IntKind.i64.wrap (k : Int) = (k : Int) := IntWalk.i64_in _ (by omega)
          clear hu
          go_wp2_with fail
          refine HNM.out.mono ?_
          rintro e w2 ⟨rfl, hb⟩
          rw [ansU_some]
          have HTB := Lib.hid (HT.out.below HTW.out hb)
          obtain ⟨⟨v0, q3⟩, q4⟩ := HT.out.cell HTB.out (by have := HM.out; have := HNL.out; omega)
          have hst := HT.out.set k HTB.out (by have := HM.out; have := HNL.out; omega)
          rw [HNL.out, ← HP.out] at q3 q4 hst
          have HST := Lib.hid hst
          clear hb q1 q2 hst
          simp only
          go_wp2
          go_roundw
          case rel => exact ⟨j + 1, ns ++ [k], by omega, by go_num, by rw [HTK.out, numK_snoc, HK.out, HY.out], by rw [List.length_append, HNL.out]; rfl, HST.out⟩
          case measure => simp [intOf]; omega
        · have HON : Hid (o = none) := Lib.hid (HBADN.out (by rw [HMY.out, hu]; exact if_neg hkm))
          have hk1 : (most : Int) < (k : Int) := by omega
          clear hu
          go_wp2_with fail
          refine HNM.out.mono ?_
          rintro e w2 ⟨rfl, hb⟩
          rw [ansU_some]
          have HTB := Lib.hid (HT.out.below HTW.out hb)
          have HBB := Lib.hid (HBD.out ns w2 HTB.out)
          clear hb q1 q2
          simp only
          go_wp2_with fail
          refine HBB.out.mono ?_
          rintro e w3 ⟨v, rfl, hv, hw⟩
          have HF : Hid (NumsP T n o (.returned v) w3) := Lib.hid (by rw [HON.out]; exact ⟨v, ns, rfl, hv, HT.out.below HTB.out hw⟩)
          obtain ⟨x9, rfl⟩ := hv.iface
          clear hv hw
          go_wp2
          go_ret
          exact HF.out
    · obtain rfl : j = m := by omega
      have HF : Hid (NumsP T n (numK most (ws.take j)) (.returned .nilIface) wr) := Lib.hid (by rw [HK.out]; exact ⟨rfl, HTW.out⟩)
      go_wp2
      go_ret
      exact HF.out
end Go.Proofs.YtamgbfkpblpfiaaGreatDoor
