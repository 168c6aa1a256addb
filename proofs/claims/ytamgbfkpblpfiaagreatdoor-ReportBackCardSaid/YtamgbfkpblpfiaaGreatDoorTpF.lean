/-
  Package trace: the reader of lines, walked: peek, bad, next.
-/
import Derived.Test.YtamgbfkpblpfiaaGreatDoorTpA
import Derived.Test.YtamgbfkpblpfiaaGreatDoorErrF
import Derived.Test.YtamgbfkpblpfiaaGreatDoorShelf
import Derived.WalkSpells
import Derived.WalkLawsBesides
import Derived.Test.YtamgbfkpblpfiaaGreatDoorOwnG
import Derived.Test.YtamgbfkpblpfiaaGreatDoorSeqG
import Derived.Test.YtamgbfkpblpfiaaGreatDoorNum
import Derived.Test.YtamgbfkpblpfiaaGreatDoorErrE
import Derived.BigRegion
namespace Go.Proofs.YtamgbfkpblpfiaaGreatDoor
open Go.ChangeShapes Go.WideShapes Go.ChangeAt Go.RowKit
set_option linter.unusedVariables false
set_option linter.unusedSimpArgs false
abbrev rdp (r : Nat) : Value := .pointer (some ⟨r, 0, none⟩)
/-- A reader: what is left, and the number of the next line. -/
def RdAt (w : World) (r : Nat) (rest : List UInt8) (n : Nat) : Prop := Blk w r 143 #[.string (bs rest), .int .i64 (n : Int)]
/-- The library's own variable holds a number. -/
def MaxL (w : World) : Prop := (∃ m : Int, w.cell? ⟨2, 0, none⟩ = some (.int .i64 m)) ∧ 2 < w.heap.size
theorem MaxL.chg {w w' : World} {S : Nat → Prop} (h : MaxL w) (hc : Chg S w w') (hn : ¬ S 2) : MaxL w' := by
  obtain ⟨⟨m, hm⟩, hl⟩ := h
  exact ⟨⟨m, by rw [World.cell?_of_block (w := w) (hc.block 2 hl hn)]; exact hm⟩, Nat.lt_of_lt_of_le hl hc.size⟩
theorem MaxL.below {w w' : World} (h : MaxL w) (hb : Below w.heap.size w w') : MaxL w' := h.chg (S := fun _ => False) (Chg.of_below hb) (fun h => h)
theorem bs_list (l : List UInt8) : (bs l).data.toList = l := by simp [bs]
theorem cut_some {l a b : List UInt8} (h : cutT l = some (a, b)) (hl : l.length ≤ 100000) {w : World} (hm : MaxL w) :
    Calls Tryz.prog 80 #[.string (bs l), .string ⟨#[10]⟩] w fun e w' => e = .returned (.tuple #[.string (bs a), .string (bs b), .bool true]) ∧ ∃ n, w' = w.drewN n := by
  obtain ⟨⟨m, hm⟩, -⟩ := hm
  refine (Tryz.strings_Cut (bs l) ⟨#[10]⟩ m w (by rw [bs_size]; omega) hm).mono ?_
  rintro e w' ⟨rfl, hw⟩
  refine ⟨?_, hw⟩
  have e1 : Lib.cut (bs l).data.toList (⟨#[10]⟩ : ByteArray).data.toList = (a, b, true) := by
    rw [bs_list]
    have := cut_cutT l
    rw [h] at this
    exact this
  rw [e1]
  rfl
theorem cut_none {l : List UInt8} (h : cutT l = none) (hl : l.length ≤ 100000) {w : World} (hm : MaxL w) :
    Calls Tryz.prog 80 #[.string (bs l), .string ⟨#[10]⟩] w fun e w' => e = .returned (.tuple #[.string (bs l), .string (bs []), .bool false]) ∧ ∃ n, w' = w.drewN n := by
  obtain ⟨⟨m, hm⟩, -⟩ := hm
  refine (Tryz.strings_Cut (bs l) ⟨#[10]⟩ m w (by rw [bs_size]; omega) hm).mono ?_
  rintro e w' ⟨rfl, hw⟩
  refine ⟨?_, hw⟩
  have e1 : Lib.cut (bs l).data.toList (⟨#[10]⟩ : ByteArray).data.toList = (l, [], false) := by
    rw [bs_list]
    have := cut_cutT l
    rw [h] at this
    exact this
  rw [e1]
  rfl
def strV (l : List UInt8) : Value := .string (bs l)
theorem split_ {l : List UInt8} (hl : l.length ≤ 100000) {w : World} (hm : MaxL w) :
    Calls Tryz.prog 81 #[.string (bs l), .string ⟨#[32]⟩] w fun e w' => e = .returned (.slice (some ⟨w.heap.size, 0, none⟩) (wordsT l).length (wordsT l).length) ∧ w' = w.alloc (.cells ((wordsT l).map strV).toArray 9) := by
  obtain ⟨⟨m, hm⟩, -⟩ := hm
  refine (Tryz.strings_Split (bs l) ⟨#[32]⟩ m w (by rw [bs_size]; omega) hm (by decide)).mono ?_
  rintro e w' ⟨rfl, hw⟩
  obtain ⟨h1, h2⟩ := splitB_words (bs l)
  rw [bs_list] at h1 h2
  have e1 : Lib.countB (bs l) ⟨#[32]⟩ + 1 = (wordsT l).length := h2
  have e2 : Lib.splitB ⟨#[32]⟩ 0 (Lib.countB (bs l) ⟨#[32]⟩) (bs l) = (wordsT l).map bs := h1
  refine ⟨by rw [e1], ?_⟩
  rw [hw, e2, List.map_map]
  rfl
/-- The first line; none: nothing. -/
def peekT (l : List UInt8) : List UInt8 := match cutT l with | some (a, _) => a | none => []
theorem peek_ {w : World} {r n : Nat} {rest : List UInt8} (h : RdAt w r rest n) (hm : MaxL w) (hl : rest.length ≤ 100000) :
    Calls Tryz.prog 108 #[rdp r] w fun e w' => e = .returned (.string (bs (peekT rest))) ∧ ∃ n, w' = w.drewN n := by
  have c0 : w.cell? ⟨r, 0, none⟩ = some (.string (bs rest)) := h.cell 0
  unfold peekT
  cases hc : cutT rest with
  | none =>
    have HC := Lib.hid (cut_none hc hl hm)
    have e : bs [] = ⟨#[]⟩ := rfl
    rw [e] at HC ⊢
    clear h hc e
    generalize bs rest = s at *
    go_enter Tryz.func108, Tryz.ntmps108
    go_wp2_with fail
    refine HC.out.mono ?_
    rintro e w1 ⟨rfl, k, rfl⟩
    go_wp2
    go_ret
    exact ⟨rfl, _, rfl⟩
  | some q =>
    obtain ⟨a, b⟩ := q
    have HC := Lib.hid (cut_some hc hl hm)
    clear h hc
    simp only
    generalize bs rest = s at *
    generalize bs a = sa at *
    generalize bs b = sb at *
    go_enter Tryz.func108, Tryz.ntmps108
    go_wp2_with fail
    refine HC.out.mono ?_
    rintro e w1 ⟨rfl, k, rfl⟩
    go_wp2
    go_ret
    exact ⟨rfl, _, rfl⟩
def BadR (w : World) (n : Nat) (e : Ending) (w' : World) : Prop := ∃ v, e = .returned v ∧ Bad w' 2 n v ∧ Below w.heap.size w w'
theorem bad_ {w : World} {r n : Nat} {rest : List UInt8} (h : RdAt w r rest n) : Calls Tryz.prog 109 #[rdp r] w (BadR w n) := by
  have c1 : w.cell? ⟨r, 1, none⟩ = some (.int .i64 (n : Int)) := h.cell 1
  have HN := Lib.hid (New_B 2 n (by decide) w)
  clear h
  go_enter Tryz.func109, Tryz.ntmps109
  go_wp2_with fail
  refine HN.out.mono ?_
  rintro e w1 ⟨v, rfl, hb, hw⟩
  have HF : Hid (BadR w n (.returned v) w1) := Lib.hid ⟨v, rfl, hb, hw⟩
  obtain ⟨x, rfl⟩ := hb.iface
  clear hb hw
  go_wp2
  go_ret
  exact HF.out
end Go.Proofs.YtamgbfkpblpfiaaGreatDoor
/-
  Package trace: the reader's next, walked.
-/
namespace Go.Proofs.YtamgbfkpblpfiaaGreatDoor
open Go.ChangeShapes Go.WideShapes Go.ChangeAt Go.RowKit
set_option linter.unusedVariables false
set_option linter.unusedSimpArgs false
/-- The words behind the first one of the next line, and what is behind it. -/
def nextT (word : List UInt8) (many : Nat) (rest : List UInt8) : Option (List (List UInt8) × List UInt8) := match cutT rest with
  | some (line, r) => (match wordsT line with
    | x :: ws => if x = word ∧ ws.length = many then some (ws, r) else none
    | [] => none)
  | none => none
/-- Words in memory. -/
def Wds (w : World) (b : Nat) (ws : List (List UInt8)) : Prop := ∀ j, j < ws.length → w.cell? ⟨b, 1 + j, none⟩ = some (strV (ws.getD j []))
def NextQ (w : World) (r n : Nat) (o : Option (List (List UInt8) × List UInt8)) (e : Ending) (w' : World) : Prop := match o with
  | some (ws, rest) => ∃ b, e = .returned (.tuple #[.slice (some ⟨b, 1, none⟩) ws.length ws.length, .nilIface]) ∧ Wds w' b ws ∧ RdAt w' r rest n ∧ Chg (fun k => k = r) w w' ∧ w.heap.size ≤ b ∧ b < w'.heap.size
  | none => ∃ v, e = .returned (.tuple #[.slice none 0 0, v]) ∧ Bad w' 2 n v ∧ Below w.heap.size w w'
theorem RdAt.below {w w' : World} {r n : Nat} {rest : List UInt8} (h : RdAt w r rest n) (hb : Below w.heap.size w w') : RdAt w' r rest n := Blk.below h hb h.lt
theorem bs_inj {a b : List UInt8} : bs a = bs b ↔ a = b := ⟨fun e => by rw [← bs_list a, ← bs_list b, e], fun e => by rw [e]⟩
set_option maxHeartbeats 2000000 in
theorem next_ {w : World} {r n : Nat} {rest : List UInt8} (h : RdAt w r rest n) (hm : MaxL w) (hl : rest.length ≤ 100000) (word : List UInt8) (many : Nat) (hmany : 1 ≤ many ∧ many ≤ 100) :
    Calls Tryz.prog 127 #[rdp r, .string (bs word), .int .i64 (many : Int)] w (NextQ w r n (nextT word many rest)) := by
  have c0 : w.cell? ⟨r, 0, none⟩ = some (.string (bs rest)) := h.cell 0
  obtain ⟨hm1, hm2⟩ := hmany
  unfold nextT
  cases hc : cutT rest with
  | none =>
    have HC := Lib.hid (cut_none hc hl hm)
    have HSP : Hid (∀ k, Calls Tryz.prog 81 #[.string (bs rest), .string ⟨#[32]⟩] (w.drewN k) fun e w' => e = .returned (.slice (some ⟨w.heap.size, 0, none⟩) (wordsT rest).length (wordsT rest).length) ∧ w' = (w.drewN k).alloc (.cells ((wordsT rest).map strV).toArray 9)) := Lib.hid fun k => split_ hl (hm.below (below_drewN (Below.refl _ _) k))
    have HBD : Hid (∀ k c, Calls Tryz.prog 109 #[rdp r] ((w.drewN k).alloc c) (BadR ((w.drewN k).alloc c) n)) := Lib.hid fun k c => bad_ (h.below ((below_drewN (Below.refl _ w) k).alloc (Nat.le_refl _) c))
    have HW : Hid (∀ k c, Below w.heap.size w ((w.drewN k).alloc c)) := Lib.hid fun k c => (below_drewN (Below.refl _ w) k).alloc (Nat.le_refl _) c
    clear h hc hm
    generalize (wordsT rest).length = m at *
    generalize ((wordsT rest).map strV).toArray = cs at *
    generalize bs rest = s at *
    go_enter Tryz.func127, Tryz.ntmps127
    go_wp2_with fail
    refine HC.out.mono ?_
    rintro e w1 ⟨rfl, k, rfl⟩
    go_wp2_with fail
    refine (HSP.out k).mono ?_
    rintro e w2 ⟨rfl, rfl⟩
    go_wp2_with fail
    refine (HBD.out k _).mono ?_
    rintro e w3 ⟨v, rfl, hb, hw⟩
    have HF : Hid (NextQ w r n none (.returned (.tuple #[.slice none 0 0, v])) w3) := Lib.hid ⟨v, rfl, hb, (HW.out k _).trans (hw.mono (HW.out k _).size)⟩
    clear hb hw
    go_wp2
    go_ret2
    exact HF.out
  | some q =>
    obtain ⟨line, r'⟩ := q
    have hll : line.length ≤ 100000 := by have := cutT_len hc; omega
    have HC := Lib.hid (cut_some hc hl hm)
    have HSP : Hid (∀ k, Calls Tryz.prog 81 #[.string (bs line), .string ⟨#[32]⟩] (w.drewN k) fun e w' => e = .returned (.slice (some ⟨w.heap.size, 0, none⟩) (wordsT line).length (wordsT line).length) ∧ w' = (w.drewN k).alloc (.cells ((wordsT line).map strV).toArray 9)) := Lib.hid fun k => split_ hll (hm.below (below_drewN (Below.refl _ _) k))
    have HBD : Hid (∀ k c, Calls Tryz.prog 109 #[rdp r] ((w.drewN k).alloc c) (BadR ((w.drewN k).alloc c) n)) := Lib.hid fun k c => bad_ (h.below ((below_drewN (Below.refl _ w) k).alloc (Nat.le_refl _) c))
    have HW : Hid (∀ k c, Below w.heap.size w ((w.drewN k).alloc c)) := Lib.hid fun k c => (below_drewN (Below.refl _ w) k).alloc (Nat.le_refl _) c
    have HR : Hid (∀ k c, RdAt ((w.drewN k).alloc c) r rest n) := Lib.hid fun k c => h.below ((below_drewN (Below.refl _ w) k).alloc (Nat.le_refl _) c)
    have HLT := Lib.hid h.lt
    simp only
    cases hw : wordsT line with
    | nil => exact absurd hw (wordsT_ne line)
    | cons x ws =>
      rw [hw] at HSP
      simp only [List.length_cons] at HSP
      simp only
      have HCS : Hid (∀ k j, j < ws.length + 1 → ((w.drewN k).alloc (.cells ((x :: ws).map strV).toArray 9)).cell? ⟨w.heap.size, j, none⟩ = some (strV ((x :: ws).getD j []))) := Lib.hid fun k j hj => by
        have hB := Blk.new (w.drewN k) 9 ((x :: ws).map strV).toArray
        have := hB.cell j
        rw [show (w.drewN k).heap.size = w.heap.size from rfl] at this
        rw [this]
        rw [List.getElem?_toArray, List.getElem?_map, List.getD_eq_getElem?_getD, List.getElem?_eq_getElem (by simpa using hj)]
        rfl
      have HWS : Hid (∃ m, m = ws.length) := Lib.hid ⟨_, rfl⟩
      by_cases hn : ws.length = many
      · by_cases hx : x = word
        · rw [if_pos ⟨hx, hn⟩]
          have hlen : ((ws.length : Int) + 1 != (many : Int) + 1) = false := by rw [hn]; simp
          have hxs : (!(bs x).toList == (bs word).toList) = false := by rw [hx]; simp
          have hx0 : ∀ k, ((w.drewN k).alloc (.cells ((x :: ws).map strV).toArray 9)).cell? ⟨w.heap.size, 0, none⟩ = some (.string (bs x)) := fun k => HCS.out k 0 (by omega)
          have HX0 := Lib.hid hx0
          have HF : Hid (∀ k, NextQ w r n (some (ws, r')) (.returned (.tuple #[.slice (some ⟨w.heap.size, 1, none⟩) many many, .nilIface])) (((w.drewN k).alloc (.cells ((x :: ws).map strV).toArray 9)).setCell ⟨r, 0, none⟩ (.string (bs r')))) := Lib.hid fun k => by
            have hlt := HLT.out
            have hB := HR.out k (.cells ((x :: ws).map strV).toArray 9)
            refine ⟨w.heap.size, by rw [hn], fun j hj => ?_, ?_, ?_, Nat.le_refl _, by simp [World.setCell]⟩
            · have hc := HCS.out k (1 + j) (by omega)
              have hne : w.heap.size ≠ r := by omega
              have hd : (((w.drewN k).alloc (.cells ((x :: ws).map strV).toArray 9)).setCell ⟨r, 0, none⟩ (.string (bs r'))).heap[w.heap.size]? = ((w.drewN k).alloc (.cells ((x :: ws).map strV).toArray 9)).heap[w.heap.size]? := Below.heap_setCell _ _ _ _ hne
              rw [World.cell?_of_block hd, hc, Nat.add_comm 1 j, List.getD_cons_succ]
            · have := Blk.set_ hB 0 (.string (bs r'))
              exact this
            · exact (Chg.of_below (S := fun k => k = r) (HW.out k _)).trans ((Chg.refl (fun k => k = r) _).setCell (p := ⟨r, 0, none⟩) (.inl rfl) _) (fun i hi => .inl hi)
          have HRF : Hid (∀ k c, ((w.drewN k).alloc c).cell? ⟨r, 0, none⟩ = some (.string (bs rest)) ∧ ((w.drewN k).alloc c).frozen? ⟨r, 0, none⟩ = false) := Lib.hid fun k c => ⟨(HR.out k c).cell 0, (HR.out k c).frozen 0⟩
          clear h hc hm hw hx hx0
          generalize hcs : ((x :: ws).map strV).toArray = cs at *
          generalize bs rest = s at *
          generalize bs word = sw at *
          generalize bs x = sx at *
          clear hcs
          go_enter Tryz.func127, Tryz.ntmps127
          go_wp2_with fail
          refine HC.out.mono ?_
          rintro e w1 ⟨rfl, k, rfl⟩
          go_wp2_with fail
          refine (HSP.out k).mono ?_
          rintro e w2 ⟨rfl, rfl⟩
          have hx1 := HX0.out k
          obtain ⟨hr1, hr2⟩ := HRF.out k (.cells cs 9)
          go_wp2
          go_ret2
          exact HF.out k
        · rw [if_neg (fun h => hx h.1)]
          have hlen : ((ws.length : Int) + 1 != (many : Int) + 1) = false := by rw [hn]; simp
          have hxs : (!(bs x).toList == (bs word).toList) = true := by rw [Lib.toList_data, Lib.toList_data, bs_list, bs_list]; simpa using hx
          have hx0 : ∀ k, ((w.drewN k).alloc (.cells ((x :: ws).map strV).toArray 9)).cell? ⟨w.heap.size, 0, none⟩ = some (.string (bs x)) := fun k => HCS.out k 0 (by omega)
          have HX0 := Lib.hid hx0
          clear h hc hm hw hx hx0
          generalize hcs : ((x :: ws).map strV).toArray = cs at *
          generalize bs rest = s at *
          generalize bs word = sw at *
          generalize bs x = sx at *
          clear hcs
          go_enter Tryz.func127, Tryz.ntmps127
          go_wp2_with fail
          refine HC.out.mono ?_
          rintro e w1 ⟨rfl, k, rfl⟩
          go_wp2_with fail
          refine (HSP.out k).mono ?_
          rintro e w2 ⟨rfl, rfl⟩
          have hx1 := HX0.out k
          go_wp2_with fail
          refine (HBD.out k _).mono ?_
          rintro e w3 ⟨v, rfl, hb, hw⟩
          have HF : Hid (NextQ w r n none (.returned (.tuple #[.slice none 0 0, v])) w3) := Lib.hid ⟨v, rfl, hb, (HW.out k _).trans (hw.mono (HW.out k _).size)⟩
          clear hb hw
          go_wp2
          go_ret2
          exact HF.out
      · rw [if_neg (fun h => hn h.2)]
        have hlen : ((ws.length : Int) + 1 != (many : Int) + 1) = true := by rw [bne_iff_ne]; omega
        generalize hcs : ((x :: ws).map strV).toArray = cs at *
        clear h hc hm hw hcs
        generalize bs rest = s at *
        generalize bs word = sw at *
        go_enter Tryz.func127, Tryz.ntmps127
        go_wp2_with fail
        refine HC.out.mono ?_
        rintro e w1 ⟨rfl, k, rfl⟩
        go_wp2_with fail
        refine (HSP.out k).mono ?_
        rintro e w2 ⟨rfl, rfl⟩
        go_wp2_with fail
        refine (HBD.out k _).mono ?_
        rintro e w3 ⟨v, rfl, hb, hw⟩
        have HF : Hid (NextQ w r n none (.returned (.tuple #[.slice none 0 0, v])) w3) := Lib.hid ⟨v, rfl, hb, (HW.out k _).trans (hw.mono (HW.out k _).size)⟩
        clear hb hw
        go_wp2
        go_ret2
        exact HF.out
end Go.Proofs.YtamgbfkpblpfiaaGreatDoor
/-
  Package trace: the reader's numbers, walked.
-/
namespace Go.Proofs.YtamgbfkpblpfiaaGreatDoor
open Go.ChangeShapes Go.WideShapes Go.ChangeAt Go.RowKit
set_option linter.unusedVariables false
set_option linter.unusedSimpArgs false
theorem infoU64 : (Tryz.prog.info? 82).map (fun i => (i.zero, i.size, i.bytes)) = some (some (.int .u64 0), 1, 8) := by kernel_rfl
/-- Numbers without a sign, in a list of the call's own. -/
def KU : Knd Nat := ⟨82, 112, fun n => .int .u64 (n : Int), .int .u64 0, 8, fun _ => rfl, Tryz.underlying112, infoU64, rfl, by decide⟩
theorem numsP_snoc : ∀ {a : List (List UInt8)} {b : List Nat} (x : List UInt8) (m : Nat), a.length = b.length → numsP (a ++ [x]) (b ++ [m]) = match numsP a b with | some l => (match numU x with | some n => if n ≤ m then some (l ++ [n]) else none | none => none) | none => none
  | [], [], x, m, _ => by
    simp only [List.nil_append, numsP]
    cases numU x with
    | none => rfl
    | some n => rfl
  | [], _ :: _, _, _, h => by simp at h
  | _ :: _, [], _, _, h => by simp at h
  | a :: as', b :: bs', x, m, h => by
    rw [List.cons_append, List.cons_append, numsP, numsP, numsP_snoc x m (by simpa using h)]
    cases numU a with
    | none => rfl
    | some k =>
      simp only
      by_cases hk : k ≤ b
      · rw [if_pos hk, if_pos hk]
        cases numsP as' bs' with
        | none => rfl
        | some l =>
          simp only
          cases numU x with
          | none => rfl
          | some n =>
            simp only
            by_cases hn : n ≤ m
            · rw [if_pos hn, if_pos hn]
              rfl
            · rw [if_neg hn, if_neg hn]
      · rw [if_neg hk, if_neg hk]
theorem numsP_none : ∀ {a : List (List UInt8)} {b : List Nat} (c : List (List UInt8)) (d : List Nat), a.length = b.length → numsP a b = none → numsP (a ++ c) (b ++ d) = none
  | [], [], c, d, _, h => by simp [numsP] at h
  | [], _ :: _, _, _, h, _ => by simp at h
  | _ :: _, [], _, _, h, _ => by simp at h
  | a :: as', b :: bs', c, d, h, hn => by
    rw [List.cons_append, List.cons_append, numsP]
    rw [numsP] at hn
    cases hu : numU a with
    | none => rfl
    | some k =>
      rw [hu] at hn
      simp only at hn ⊢
      by_cases hk : k ≤ b
      · rw [if_pos hk] at hn ⊢
        cases hp : numsP as' bs' with
        | none => rw [numsP_none c d (by simpa using h) hp]
        | some l => rw [hp] at hn; simp at hn
      · rw [if_neg hk]
/-- The numbers of the next line, and what is behind it. -/
def numsR (word : List UInt8) (most : List Nat) (rest : List UInt8) : Option (List Nat × List UInt8) := match nextT word most.length rest with
  | some (ws, r) => (match numsP ws most with | some l => some (l, r) | none => none)
  | none => none
theorem numsR_eq (word : List UInt8) (most : List Nat) (rest : List UInt8) : numsR word most rest = match cutT rest with | some (line, r) => (match numsT word most line with | some l => some (l, r) | none => none) | none => none := by
  unfold numsR nextT numsT
  cases cutT rest with
  | none => rfl
  | some q =>
    obtain ⟨line, r⟩ := q
    simp only
    cases wordsT line with
    | nil => rfl
    | cons x ws =>
      simp only
      by_cases hc : x = word ∧ ws.length = most.length
      · rw [if_pos hc, if_pos hc]
      · rw [if_neg hc, if_neg hc]
/-- What stands before word j. -/
def NumsI (ws : List (List UInt8)) (most : List Nat) (j : Nat) (ns : List Nat) : Prop := numsP (ws.take j) (most.take j) = some ns
theorem take_snocG {α : Type} (d : α) {l : List α} {j : Nat} (h : j < l.length) : l.take (j + 1) = l.take j ++ [l.getD j d] := by
  rw [List.take_add_one, List.getElem?_eq_getElem h]
  simp [List.getD, h]
theorem NumsI.next {ws : List (List UInt8)} {most : List Nat} {j : Nat} {ns : List Nat} (h : NumsI ws most j ns) (hl : ws.length = most.length) (hj : j < ws.length) {x : Nat} (hx : numU (ws.getD j []) = some x) (hm : x ≤ most.getD j 0) : NumsI ws most (j + 1) (ns ++ [x]) := by
  unfold NumsI at h ⊢
  rw [take_snocG [] hj, take_snocG 0 (by omega), numsP_snoc _ _ (by rw [List.length_take, List.length_take]; omega), h]
  simp only
  rw [hx]
  simp only
  rw [if_pos hm]
theorem NumsI.bad {ws : List (List UInt8)} {most : List Nat} {j : Nat} {ns : List Nat} (h : NumsI ws most j ns) (hl : ws.length = most.length) (hj : j < ws.length) (hx : ∀ x, numU (ws.getD j []) = some x → ¬ x ≤ most.getD j 0) : numsP ws most = none := by
  have e1 : ws = ws.take (j + 1) ++ ws.drop (j + 1) := (List.take_append_drop _ _).symm
  have e2 : most = most.take (j + 1) ++ most.drop (j + 1) := (List.take_append_drop _ _).symm
  rw [e1, e2]
  refine numsP_none _ _ (by rw [List.length_take, List.length_take]; omega) ?_
  rw [take_snocG [] hj, take_snocG 0 (by omega), numsP_snoc _ _ (by rw [List.length_take, List.length_take]; omega), h]
  simp only
  cases hn : numU (ws.getD j []) with
  | none => rfl
  | some x => simp only; rw [if_neg (hx x hn)]
theorem word_len : ∀ {ws : List (List UInt8)} {x : List UInt8}, ∀ y ∈ x :: ws, y.length ≤ (joinT x ws).length
  | [], x, y, h => by
    simp at h
    subst h
    simp [joinT]
  | z :: ws, x, y, h => by
    have e : joinT x (z :: ws) = x ++ 32 :: joinT z ws := by unfold joinT; simp
    rw [e, List.length_append, List.length_cons]
    rcases List.mem_cons.1 h with rfl | h
    · omega
    · have := word_len y h
      omega
theorem nextT_parts {word : List UInt8} {many : Nat} {rest r : List UInt8} {ws : List (List UInt8)} (h : nextT word many rest = some (ws, r)) : ws.length = many ∧ (∀ y ∈ ws, y.length ≤ rest.length) ∧ r.length ≤ rest.length := by
  unfold nextT at h
  cases hc : cutT rest with
  | none => rw [hc] at h; simp at h
  | some q =>
    obtain ⟨line, r'⟩ := q
    rw [hc] at h
    simp only at h
    have hl := cutT_len hc
    cases hw : wordsT line with
    | nil => rw [hw] at h; simp at h
    | cons x xs =>
      rw [hw] at h
      simp only at h
      split at h
      · rename_i hx
        injection h with h
        injection h with h1 h2
        subst h1 h2
        obtain ⟨e, -, -⟩ := joinT_words hw
        refine ⟨hx.2, fun y hy => ?_, by omega⟩
        have := word_len (x := x) y (List.mem_cons_of_mem _ hy)
        rw [← e] at this
        omega
      · simp at h
/-- Numbers in a list that the call made. -/
def NumsL (w w' : World) (u : Value) (ns : List Nat) : Prop := Row w' 82 1 u ns.length (ns.map KU.enc) ∧ ∀ g, u.ownBlock = some g → w.heap.size ≤ g
def NumsQ (w : World) (r n : Nat) (o : Option (List Nat × List UInt8)) (e : Ending) (w' : World) : Prop := Chg (fun k => k = r) w w' ∧ match o with
  | some (ns, rest) => ∃ u, e = .returned (.tuple #[u, .nilIface]) ∧ NumsL w w' u ns ∧ RdAt w' r rest (n + 1)
  | none => ∃ v, e = .returned (.tuple #[.slice none 0 0, v]) ∧ Bad w' 2 n v
set_option maxHeartbeats 4000000 in
theorem numbers_ {w : World} {r n : Nat} {rest : List UInt8} (h : RdAt w r rest n) (hm : MaxL w) (hL : Laid w) (hr : r ≠ 0) (hl : rest.length ≤ 100000) (hn : n ≤ 100000) (word : List UInt8) (most : List Nat) {bm cap : Nat} (hml : 1 ≤ most.length ∧ most.length ≤ 100)
    (hmc : ∀ j, j < most.length → w.cell? ⟨bm, j, none⟩ = some (.int .u64 ((most.getD j 0 : Nat) : Int))) (hbm : bm ≠ r) :
    Calls Tryz.prog 105 #[rdp r, .string (bs word), .slice (some ⟨bm, 0, none⟩) most.length cap] w (NumsQ w r n (numsR word most rest)) := by
  have HNX := Lib.hid (next_ h hm hl word most.length hml)
  have HMC := Lib.hid hmc
  have HL := Lib.hid hL
  have HRD := Lib.hid h
  have HR0 := Lib.hid hr
  have HBM := Lib.hid hbm
  have HLEN := Lib.hid hl
  obtain ⟨km, hkm⟩ : ∃ k, k = most.length := ⟨_, rfl⟩
  rw [← hkm] at hml HNX ⊢
  have HKM := Lib.hid hkm
  obtain ⟨hm1, hm2⟩ := hml
  cases ho : nextT word most.length rest with
  | none =>
    have HO : Hid (numsR word most rest = none) := Lib.hid (by unfold numsR; rw [ho])
    rw [hkm, ho] at HNX
    rw [← hkm] at HNX
    clear h hm hL hr hmc hbm hkm hl ho
    rw [HO.out]
    generalize bs word = sw at *
    go_enter Tryz.func105, Tryz.ntmps105
    go_wp2_with fail
    refine HNX.out.mono ?_
    rintro e w1 ⟨v, rfl, hb, hw⟩
    obtain ⟨x, rfl⟩ := hb.iface
    have c1 : w1.cell? ⟨r, 1, none⟩ = some (.int .i64 (n : Int)) := (HRD.out.below hw).cell 1
    have HW := Lib.hid (Wrap_B (HL.out.below hw) hb (n : Int))
    have HB := Lib.hid hw
    clear hb hw
    go_wp2_with fail
    refine HW.out.mono ?_
    rintro e w2 ⟨u, rfl, hb, hw⟩
    have HF : Hid (NumsQ w r n none (.returned (.tuple #[.slice none 0 0, u])) w2) := Lib.hid ⟨Chg.of_below (HB.out.trans (hw.mono HB.out.size)), u, rfl, hb⟩
    clear hb hw c1
    go_wp2
    go_ret2
    exact HF.out
  | some q =>
    obtain ⟨ws, r'⟩ := q
    obtain ⟨hwl, hwy, hrl⟩ := nextT_parts ho
    have HO : Hid (numsR word most rest = match numsP ws most with | some l => some (l, r') | none => none) := Lib.hid (by unfold numsR; rw [ho])
    rw [hkm, ho] at HNX
    rw [← hkm] at HNX
    have HWL := Lib.hid hwl
    have HWY := Lib.hid hwy
    clear h hm hL hr hmc hbm hl ho
    obtain ⟨o, hoo⟩ : ∃ o, o = numsR word most rest := ⟨_, rfl⟩
    have HOO := Lib.hid hoo
    rw [← hoo]
    generalize bs word = sw at *
    clear hoo hkm hwl hwy hrl
    go_enter Tryz.func105, Tryz.ntmps105
    go_wp2_with fail
    refine HNX.out.mono ?_
    rintro e w1 ⟨b, rfl, hwd, hrd, hch, hb1, hb2⟩
    have hws : ws.length = km := by rw [HWL.out, HKM.out]
    rw [hws]
    have HWS := Lib.hid hws
    have HWD := Lib.hid hwd
    have HRD1 := Lib.hid hrd
    have HCH := Lib.hid hch
    have HBR : Hid (r < w.heap.size) := Lib.hid HRD.out.lt
    clear hwd hrd hch hws
    go_wp2
    go_loopw [6, 9, 10, 11, 12, 31] (fun u _ _ _ _ c wr => ∃ j : Nat, ∃ ns, j ≤ km ∧ c = .int .i64 j ∧ NumsI ws most j ns ∧ ns.length = j ∧ OwnG KU w1 wr u ns) (fun _ _ _ _ _ c _ => km - (intOf c).toNat)
    case atStart => exact ⟨0, [], Nat.zero_le _, rfl, by unfold NumsI; rfl, rfl, OwnG.start KU w1⟩
    case round =>
      obtain ⟨j, ns, hj, rfl, hI, hnl, hO⟩ := hrel
      have HI := Lib.hid hI
      have HOW := Lib.hid hO
      have HNL := Lib.hid hnl
      have HBW := Lib.hid hO.2.1
      clear hI hO hnl
      by_cases hlt : (j : Int) < (km : Int)
      · have hjw : j < ws.length := by have := HWS.out; omega
        have q0 := cell_below (HWD.out j hjw) HBW.out
        unfold strV at q0
        have HY := Lib.hid (HWY.out (ws.getD j []) (by rw [List.getD_eq_getElem?_getD, List.getElem?_eq_getElem hjw]; exact List.getElem_mem hjw))
        obtain ⟨y, hy⟩ : ∃ y, y = ws.getD j [] := ⟨_, rfl⟩
        rw [← hy] at q0 HY
        have HNM := Lib.hid (number_of (bs y) wr (by rw [bs_size]; have := HY.out; have := HLEN.out; omega))
        rw [bs_list] at HNM
        have HYE := Lib.hid hy
        have HMJ : Hid (∀ W, Below w1.heap.size w1 W → W.cell? ⟨bm, j, none⟩ = some (.int .u64 ((most.getD j 0 : Nat) : Int))) := Lib.hid fun W hW => by
          have h1 := HMC.out j (by have := HKM.out; omega)
          have hlt1 := World.block_lt_of_cell? w _ h1
          have h2 : w1.cell? ⟨bm, j, none⟩ = some (.int .u64 ((most.getD j 0 : Nat) : Int)) := by
            rw [World.cell?_of_block (w := w) (HCH.out.block bm hlt1 HBM.out)]; exact h1
          exact cell_below h2 hW
        obtain ⟨mj, hmj⟩ : ∃ m, m = most.getD j 0 := ⟨_, rfl⟩
        rw [← hmj] at HMJ
        have HME := Lib.hid hmj
        have HBAD : Hid ((∀ x, numU y = some x → ¬ x ≤ mj) → o = none) := Lib.hid fun hx => by
          have := HI.out.bad (by rw [HWL.out]) hjw (by rw [← HYE.out, ← HME.out]; exact hx)
          rw [HOO.out, HO.out, this]
        generalize bs y = sy at *
        clear hy hmj hjw
        cases hu : numU y with
        | none =>
          rw [hu] at HNM
          have hon := HBAD.out (fun x hx => by rw [hu] at hx; simp at hx)
          subst hon
          clear hu
          go_wp2_with fail
          refine HNM.out.mono ?_
          rintro e w2 ⟨rfl, hb⟩
          have HB2 := Lib.hid (HBW.out.trans (hb.mono HBW.out.size))
          have HBD := Lib.hid (bad_ (HRD1.out.below HB2.out))
          clear hb q0
          unfold ansU
          go_wp2_with fail
          refine HBD.out.mono ?_
          rintro e w3 ⟨v, rfl, hb, hw⟩
          have HF : Hid (NumsQ w r n none (.returned (.tuple #[.slice none 0 0, v])) w3) := Lib.hid ⟨HCH.out.trans (Chg.of_below (S := fun k => k = r) (HB2.out.trans (hw.mono HB2.out.size))) (fun i hi => .inl hi), v, rfl, hb⟩
          clear hb hw
          go_wp2
          go_ret2
          exact HF.out
        | some x =>
          rw [hu] at HNM
          by_cases hx : x ≤ mj
          · have HNX2 := Lib.hid (HI.out.next (by rw [HWL.out]) (by have := HWS.out; omega) (by rw [← HYE.out]; exact hu) (by rw [← HME.out]; exact hx))
            have hxm : decide (mj < x) = false := decide_eq_false (by omega)
            clear hu hx
            go_wp2_with fail
            refine HNM.out.mono ?_
            rintro e w2 ⟨rfl, hb⟩
            have HB2 := Lib.hid (HBW.out.trans (hb.mono HBW.out.size))
            have HO2 := Lib.hid (HOW.out.below hb)
            have qm := HMJ.out w2 HB2.out
            clear hb q0
            unfold ansU
            go_wp2_with (at_builtin; refine wpList_G KU rfl _ _ rfl ns rfl (some ⟨w2.heap.size, 0, none⟩) 1 1 [x] rfl rfl ?hb (HO2.out.below ((Below.refl _ w2).alloc (Nat.le_refl _) (.cells #[.int .u64 (x : Int)] 82))) (Src.one (heap_alloc_new w2 _)) ?_; (case hb => (have := HNL.out; omega)); intro v4 w4 h4; have H4 := Lib.hid h4; clear h4)
            go_roundw
            case rel => exact ⟨j + 1, ns ++ [x], by omega, by go_num, HNX2.out, by rw [List.length_append, HNL.out]; rfl, H4.out⟩
            case measure => simp [intOf]; omega
          · have hon := HBAD.out (fun y hy => by rw [hu] at hy; injection hy with hy; omega)
            subst hon
            have hxm : decide (mj < x) = true := decide_eq_true (by omega)
            clear hu hx
            go_wp2_with fail
            refine HNM.out.mono ?_
            rintro e w2 ⟨rfl, hb⟩
            have HB2 := Lib.hid (HBW.out.trans (hb.mono HBW.out.size))
            have HBD := Lib.hid (bad_ (HRD1.out.below HB2.out))
            have qm := HMJ.out w2 HB2.out
            clear hb q0
            unfold ansU
            go_wp2_with fail
            refine HBD.out.mono ?_
            rintro e w3 ⟨v, rfl, hb, hw⟩
            have HF : Hid (NumsQ w r n none (.returned (.tuple #[.slice none 0 0, v])) w3) := Lib.hid ⟨HCH.out.trans (Chg.of_below (S := fun k => k = r) (HB2.out.trans (hw.mono HB2.out.size))) (fun i hi => .inl hi), v, rfl, hb⟩
            clear hb hw
            go_wp2
            go_ret2
            exact HF.out
      · obtain rfl : j = km := by omega
        have HOS : Hid (o = some (ns, r')) := Lib.hid (by
          have hI := HI.out
          unfold NumsI at hI
          rw [List.take_of_length_le (by have := HWS.out; omega), List.take_of_length_le (by have := HKM.out; omega)] at hI
          rw [HOO.out, HO.out, hI])
        have hRw := HRD1.out.below HBW.out
        have c1 : wr.cell? ⟨r, 1, none⟩ = some (.int .i64 (n : Int)) := hRw.cell 1
        have f1 := hRw.frozen 1
        have HF : Hid (∀ u, OwnG KU w1 wr u ns → NumsQ w r n o (.returned (.tuple #[u, .nilIface])) (wr.setCell ⟨r, 1, none⟩ (.int .i64 ((n : Int) + 1)))) := Lib.hid fun u hu => by
          rw [HOS.out]
          have hlt := HBR.out
          have hs := HCH.out.size
          have hc : Chg (fun k => k = r) wr (wr.setCell ⟨r, 1, none⟩ (.int .i64 ((n : Int) + 1))) := (Chg.refl (fun k => k = r) wr).setCell (p := ⟨r, 1, none⟩) (.inl rfl) _
          refine ⟨(HCH.out.trans (Chg.of_below (S := fun k => k = r) HBW.out) (fun i hi => .inl hi)).trans hc (fun i hi => .inl hi), u, rfl, ⟨hu.1.chg hc (fun g hg e => ?_), fun g hg => ?_⟩, ?_⟩
          · have := hu.2.2 g hg
            omega
          · have := hu.2.2 g hg
            omega
          · have := hRw.set_ 1 (.int .i64 ((n : Int) + 1))
            have e : ((n : Int) + 1) = ((n + 1 : Nat) : Int) := by omega
            rw [e] at this ⊢
            exact this
        have HFF := Lib.hid (HF.out _ HOW.out)
        clear hRw
        go_wp2
        go_ret2
        exact HFF.out
end Go.Proofs.YtamgbfkpblpfiaaGreatDoor
/-
  bits.Parse; the reader's truths, walked.
-/
namespace Go.Proofs.YtamgbfkpblpfiaaGreatDoor
open Go.ChangeShapes Go.WideShapes Go.ChangeAt Go.RowKit
set_option linter.unusedVariables false
set_option linter.unusedSimpArgs false
theorem infoBo : (Tryz.prog.info? 4).map (fun i => (i.zero, i.size, i.bytes)) = some (some (.bool false), 1, 1) := by kernel_rfl
def KB : Knd Bool := ⟨4, 24, Value.bool, .bool false, 1, fun _ => rfl, Tryz.underlying24, infoBo, rfl, by decide⟩
theorem bitsP_snoc : ∀ (a : List UInt8) (c : UInt8), bitsP (a ++ [c]) = match bitsP a with | some l => if c = 48 ∨ c = 49 then some (l ++ [decide (c = 49)]) else none | none => none
  | [], c => by
    simp only [List.nil_append, bitsP]
  | x :: a, c => by
    rw [List.cons_append, bitsP, bitsP, bitsP_snoc a c]
    by_cases hx : x = 48 ∨ x = 49
    · rw [if_pos hx, if_pos hx]
      cases bitsP a with
      | none => rfl
      | some l =>
        simp only
        by_cases hc : c = 48 ∨ c = 49
        · rw [if_pos hc, if_pos hc]
          rfl
        · rw [if_neg hc, if_neg hc]
    · rw [if_neg hx, if_neg hx]
theorem bitsP_none : ∀ (a b : List UInt8), bitsP a = none → bitsP (a ++ b) = none
  | [], b, h => by simp [bitsP] at h
  | x :: a, b, h => by
    rw [List.cons_append, bitsP]
    rw [bitsP] at h
    by_cases hx : x = 48 ∨ x = 49
    · rw [if_pos hx] at h ⊢
      cases ha : bitsP a with
      | none => rw [bitsP_none a b ha]
      | some l => rw [ha] at h; simp at h
    · rw [if_neg hx]
def bits4 (l : List UInt8) : Option (List Bool) := if 4096 < l.length then none else bitsP l
def BitsQ (w : World) (o : Option (List Bool)) (e : Ending) (w' : World) : Prop := match o with
  | some v => ∃ u, e = .returned (.tuple #[u, .bool true]) ∧ OwnG KB w w' u v
  | none => e = .returned (.tuple #[.slice none 0 0, .bool false]) ∧ Below w.heap.size w w'
set_option maxHeartbeats 2000000 in
theorem bits_Parse (s : ByteArray) (w : World) (hs : s.size ≤ 100000) : Calls Tryz.prog 128 #[.string s] w (BitsQ w (bits4 s.data.toList)) := by
  have hlen : s.data.toList.length = s.size := by rw [Array.length_toList]; rfl
  unfold bits4
  by_cases h4 : 4096 < s.size
  · rw [if_pos (by omega)]
    have h4' : (4096 : Int) < (s.size : Int) := by omega
    clear hlen
    go_enter Tryz.func128, Tryz.ntmps128
    go_wp2
    go_step3
    go_wp2
    repeat rw [Exit.noGoto_ret]
    go_ret2
    exact ⟨rfl, Below.refl _ _⟩
  · rw [if_neg (by omega)]
    have h4' : ¬ (4096 : Int) < (s.size : Int) := by omega
    have HLN := Lib.hid hlen
    obtain ⟨o, ho⟩ : ∃ o, o = bitsP s.data.toList := ⟨_, rfl⟩
    have HO := Lib.hid ho
    rw [← ho]
    clear hlen ho
    go_enter Tryz.func128, Tryz.ntmps128
    go_wp2
    go_step3
    go_wp2
    go_step3
    go_wp2
    go_loopw [2, 4, 10] (fun u _ c wr => ∃ k : Nat, ∃ l, k ≤ s.size ∧ c = .int .i64 k ∧ bitsP (s.data.toList.take k) = some l ∧ l.length = k ∧ OwnG KB w wr u l) (fun _ _ c _ => s.size - (intOf c).toNat)
    case atStart => exact ⟨0, [], Nat.zero_le _, rfl, rfl, rfl, OwnG.start KB w⟩
    case round =>
      obtain ⟨k, l, hk, rfl, hb, hll, hO⟩ := hrel
      have HB := Lib.hid hb
      have HLL := Lib.hid hll
      have HOW := Lib.hid hO
      have HBW := Lib.hid hO.2.1
      clear hb hll hO
      by_cases hlt : k < s.size
      · have hsn := take_snocB s k hlt
        have HSN := Lib.hid hsn
        have hsb := bitsP_snoc (s.data.toList.take k) s[k]
        rw [← hsn, HB.out] at hsb
        have HSB := Lib.hid hsb
        clear hsn hsb
        obtain ⟨c, hc⟩ : ∃ c, c = s[k] := ⟨_, rfl⟩
        by_cases h48 : s[k] = 48
        · have e1 : ((s[k].toNat : Int) == 48) = true := by rw [h48]; rfl
          have e2 : ((s[k].toNat : Int) == 49) = false := by rw [h48]; rfl
          have HNX : Hid (bitsP (s.data.toList.take (k + 1)) = some (l ++ [false])) := Lib.hid (by have := HSB.out; simp only at this; rw [if_pos (.inl h48)] at this; rw [this, h48]; rfl)
          clear h48 hc
          go_wp2_with (at_builtin; refine wpList_G KB rfl _ _ rfl l rfl (some ⟨wr.heap.size, 0, none⟩) 1 1 [false] rfl rfl ?hb (HOW.out.below ((Below.refl _ wr).alloc (Nat.le_refl _) (.cells #[.bool false] 4))) (Src.one (heap_alloc_new wr _)) ?_; (case hb => (have := HLL.out; omega)); intro v4 w4 h4; have H4 := Lib.hid h4; clear h4)
          go_roundw
          case rel => exact ⟨k + 1, l ++ [false], by omega, by go_num, HNX.out, by rw [List.length_append, HLL.out]; rfl, H4.out⟩
          case measure => simp [intOf]; omega
        · by_cases h49 : s[k] = 49
          · have e1 : ((s[k].toNat : Int) == 48) = false := by rw [h49]; rfl
            have e2 : ((s[k].toNat : Int) == 49) = true := by rw [h49]; rfl
            have HNX : Hid (bitsP (s.data.toList.take (k + 1)) = some (l ++ [true])) := Lib.hid (by have := HSB.out; simp only at this; rw [if_pos (.inr h49)] at this; rw [this, h49]; rfl)
            clear h48 h49 hc
            go_wp2_with (at_builtin; refine wpList_G KB rfl _ _ rfl l rfl (some ⟨wr.heap.size, 0, none⟩) 1 1 [true] rfl rfl ?hb (HOW.out.below ((Below.refl _ wr).alloc (Nat.le_refl _) (.cells #[.bool true] 4))) (Src.one (heap_alloc_new wr _)) ?_; (case hb => (have := HLL.out; omega)); intro v4 w4 h4; have H4 := Lib.hid h4; clear h4)
            go_roundw
            case rel => exact ⟨k + 1, l ++ [true], by omega, by go_num, HNX.out, by rw [List.length_append, HLL.out]; rfl, H4.out⟩
            case measure => simp [intOf]; omega
          · have e1 : ((s[k].toNat : Int) == 48) = false := by
              rw [beq_eq_false_iff_ne]
              intro e
              exact h48 (UInt8.toNat.inj (by have : (48 : UInt8).toNat = 48 := rfl; omega))
            have e2 : ((s[k].toNat : Int) == 49) = false := by
              rw [beq_eq_false_iff_ne]
              intro e
              exact h49 (UInt8.toNat.inj (by have : (49 : UInt8).toNat = 49 := rfl; omega))
            have hon : o = none := by
              have h1 := HSB.out
              simp only at h1
              rw [if_neg (by rintro (h | h); exact h48 h; exact h49 h)] at h1
              rw [HO.out, ← List.take_append_drop (k + 1) s.data.toList]
              exact bitsP_none _ _ h1
            subst hon
            clear h48 h49 hc
            go_wp2
            repeat rw [Exit.noGoto_ret]
            go_ret2
            exact ⟨rfl, HBW.out⟩
      · obtain rfl : k = s.size := by omega
        have hon : o = some l := by
          have h1 := HB.out
          rw [List.take_of_length_le (by have := HLN.out; omega)] at h1
          rw [HO.out, h1]
        subst hon
        clear hlt
        go_wp2
        repeat rw [Exit.noGoto_ret]
        go_ret2
        exact ⟨_, rfl, HOW.out⟩
end Go.Proofs.YtamgbfkpblpfiaaGreatDoor
/-
  Package trace: the reader's truths, walked.
-/
namespace Go.Proofs.YtamgbfkpblpfiaaGreatDoor
open Go.ChangeShapes Go.WideShapes Go.ChangeAt Go.RowKit
set_option linter.unusedVariables false
set_option linter.unusedSimpArgs false
theorem bitsP_len : ∀ {y : List UInt8} {l : List Bool}, bitsP y = some l → l.length = y.length
  | [], l, h => by simp [bitsP] at h; subst h; rfl
  | c :: y, l, h => by
    rw [bitsP] at h
    by_cases hc : c = 48 ∨ c = 49
    · rw [if_pos hc] at h
      cases hb : bitsP y with
      | none => rw [hb] at h; simp at h
      | some m =>
        rw [hb] at h
        simp at h
        subst h
        simp [bitsP_len hb]
    · rw [if_neg hc] at h; simp at h
/-- The truths of the next line, and what is behind it. -/
def boolsR (word rest : List UInt8) : Option (List Bool × List UInt8) := match nextT word 1 rest with
  | some (ws, r) => (match truthsP (ws.getD 0 []) with | some l => some (l, r) | none => none)
  | none => none
theorem boolsR_eq (word rest : List UInt8) : boolsR word rest = match cutT rest with | some (line, r) => (match boolsT word line with | some l => some (l, r) | none => none) | none => none := by
  unfold boolsR nextT boolsT
  cases cutT rest with
  | none => rfl
  | some q =>
    obtain ⟨line, r⟩ := q
    simp only
    cases hw : wordsT line with
    | nil => rfl
    | cons x ws =>
      cases ws with
      | nil =>
        simp only
        rw [if_neg (by simp)]
      | cons y ys =>
        cases ys with
        | nil =>
          simp only
          by_cases hc : x = word
          · rw [if_pos ⟨hc, rfl⟩, if_pos hc]
            rfl
          · rw [if_neg (fun h => hc h.1), if_neg hc]
        | cons z zs =>
          simp only
          rw [if_neg (by simp)]
/-- Truths in a list that the call made. -/
def BoolsL (w w' : World) (u : Value) (l : List Bool) : Prop := Row w' 4 1 u l.length (l.map Value.bool) ∧ ∀ g, u.ownBlock = some g → w.heap.size ≤ g
def BoolsQ (w : World) (r n : Nat) (o : Option (List Bool × List UInt8)) (e : Ending) (w' : World) : Prop := Chg (fun k => k = r) w w' ∧ match o with
  | some (l, rest) => ∃ u, e = .returned (.tuple #[u, .nilIface]) ∧ BoolsL w w' u l ∧ RdAt w' r rest (n + 1)
  | none => ∃ v, e = .returned (.tuple #[.slice none 0 0, v]) ∧ Bad w' 2 n v
theorem truthsP_bits (y : List UInt8) : truthsP y = if y = [45] then some [] else match bits4 y with | some l => if l = [] then none else some l | none => none := by
  unfold truthsP bits4
  by_cases h1 : y = [45]
  · rw [if_pos h1, if_pos h1]
  · rw [if_neg h1, if_neg h1]
    by_cases h4 : 4096 < y.length
    · rw [if_pos (.inr h4), if_pos h4]
    · rw [if_neg h4]
      by_cases h0 : y = []
      · rw [if_pos (.inl h0), h0]
        rfl
      · rw [if_neg (by rintro (h | h); exact h0 h; exact h4 h)]
        cases hb : bitsP y with
        | none => rfl
        | some l =>
          have e := bitsP_len hb
          simp only
          rw [if_neg (fun e2 => h0 (List.eq_nil_of_length_eq_zero (by rw [← e, e2]; rfl)))]
set_option maxHeartbeats 4000000 in
theorem bools_ {w : World} {r n : Nat} {rest : List UInt8} (h : RdAt w r rest n) (hm : MaxL w) (hL : Laid w) (hr : r ≠ 0) (hl : rest.length ≤ 100000) (hn : n ≤ 100000) (word : List UInt8) :
    Calls Tryz.prog 106 #[rdp r, .string (bs word)] w (BoolsQ w r n (boolsR word rest)) := by
  have HNX := Lib.hid (next_ h hm hl word 1 ⟨by omega, by omega⟩)
  have HL := Lib.hid hL
  have HRD := Lib.hid h
  have HLEN := Lib.hid hl
  cases ho : nextT word 1 rest with
  | none =>
    have HO : Hid (boolsR word rest = none) := Lib.hid (by unfold boolsR; rw [ho])
    rw [ho] at HNX
    clear h hm hL hr hl ho
    rw [HO.out]
    generalize bs word = sw at *
    go_enter Tryz.func106, Tryz.ntmps106
    go_wp2_with fail
    refine HNX.out.mono ?_
    rintro e w1 ⟨v, rfl, hb, hw⟩
    obtain ⟨x, rfl⟩ := hb.iface
    have c1 : w1.cell? ⟨r, 1, none⟩ = some (.int .i64 (n : Int)) := (HRD.out.below hw).cell 1
    have HW := Lib.hid (Wrap_B (HL.out.below hw) hb (n : Int))
    have HB := Lib.hid hw
    clear hb hw
    go_wp2_with fail
    refine HW.out.mono ?_
    rintro e w2 ⟨u, rfl, hb, hw⟩
    have HF : Hid (BoolsQ w r n none (.returned (.tuple #[.slice none 0 0, u])) w2) := Lib.hid ⟨Chg.of_below (HB.out.trans (hw.mono HB.out.size)), u, rfl, hb⟩
    clear hb hw c1
    go_wp2
    go_ret2
    exact HF.out
  | some q =>
    obtain ⟨ws, r'⟩ := q
    obtain ⟨hwl, hwy, hrl⟩ := nextT_parts ho
    obtain ⟨y, rfl⟩ := List.length_eq_one_iff.1 hwl
    have hyl := hwy y (by simp)
    have HO : Hid (boolsR word rest = match truthsP y with | some l => some (l, r') | none => none) := Lib.hid (by unfold boolsR; rw [ho]; rfl)
    rw [ho] at HNX
    have HBP := Lib.hid (fun W => bits_Parse (bs y) W (by rw [bs_size]; omega))
    rw [bs_list] at HBP
    obtain ⟨o, hoo⟩ : ∃ o, o = boolsR word rest := ⟨_, rfl⟩
    have HOO := Lib.hid hoo
    rw [← hoo]
    have HBR : Hid (r < w.heap.size) := Lib.hid HRD.out.lt
    generalize bs word = sw at *
    clear h hm hL hr hl ho hwl hwy hrl hyl hoo
    have HTP := Lib.hid (truthsP_bits y)
    obtain ⟨p, hp⟩ : ∃ p, p = bits4 y := ⟨_, rfl⟩
    rw [← hp] at HBP HTP
    have hd : decide (y = [45]) = true ↔ y = [45] := by simp
    have HFIN : Hid (∀ w1, RdAt w1 r r' n → Chg (fun k => k = r) w w1 → ∀ w2, Below w1.heap.size w1 w2 → ∀ u l, (Row w2 4 1 u l.length (l.map Value.bool) ∧ ∀ g, u.ownBlock = some g → w1.heap.size ≤ g) → o = some (l, r') → BoolsQ w r n o (.returned (.tuple #[u, .nilIface])) (w2.setCell ⟨r, 1, none⟩ (.int .i64 ((n : Int) + 1)))) := Lib.hid fun w1 h1 hc w2 hb u l hu ho => by
      rw [ho]
      have hlt := HBR.out
      have hs := hc.size
      have hcs : Chg (fun k => k = r) w2 (w2.setCell ⟨r, 1, none⟩ (.int .i64 ((n : Int) + 1))) := (Chg.refl (fun k => k = r) w2).setCell (p := ⟨r, 1, none⟩) (.inl rfl) _
      refine ⟨(hc.trans (Chg.of_below (S := fun k => k = r) hb) (fun i hi => .inl hi)).trans hcs (fun i hi => .inl hi), u, rfl, ⟨hu.1.chg hcs (fun g hg e => ?_), fun g hg => ?_⟩, ?_⟩
      · have := hu.2 g hg
        omega
      · have := hu.2 g hg
        omega
      · have := (h1.below hb).set_ 1 (.int .i64 ((n : Int) + 1))
        have e : ((n : Int) + 1) = ((n + 1 : Nat) : Int) := by omega
        rw [e] at this ⊢
        exact this
    have HBADF : Hid (∀ w1, Chg (fun k => k = r) w w1 → ∀ w3, Below w1.heap.size w1 w3 → ∀ v, Bad w3 2 n v → o = none → BoolsQ w r n o (.returned (.tuple #[.slice none 0 0, v])) w3) := Lib.hid fun w1 hc w3 hb v hv ho => by
      rw [ho]
      exact ⟨hc.trans (Chg.of_below (S := fun k => k = r) hb) (fun i hi => .inl hi), v, rfl, hv⟩
    by_cases hy : y = [45]
    · have HY : Hid (((bs y).toList == [45]) = true) := Lib.hid (by rw [hy, Lib.toList_data]; rfl)
      have HOS : Hid (o = some ([], r')) := Lib.hid (by rw [HOO.out, HO.out, HTP.out, if_pos hy])
      have hpn : p = none := by rw [hp, hy]; rfl
      subst hpn
      clear hd hp hy
      go_enter Tryz.func106, Tryz.ntmps106
      go_wp2_with fail
      refine HNX.out.mono ?_
      rintro e w1 ⟨b, rfl, hwd, hrd, hch, hb1, hb2⟩
      have q0 : w1.cell? ⟨b, 1, none⟩ = some (.string (bs y)) := hwd 0 (by simp)
      have HRD1 := Lib.hid hrd
      have HCH := Lib.hid hch
      clear hwd hrd hch
      generalize bs y = sy at *
      go_wp2_with fail
      refine (HBP.out _).mono ?_
      rintro e w2 ⟨rfl, hb⟩
      have HB2 := Lib.hid hb
      have q2 := cell_below q0 hb
      have hR := HRD1.out.below hb
      have c1 : w2.cell? ⟨r, 1, none⟩ = some (.int .i64 (n : Int)) := hR.cell 1
      have f1 := hR.frozen 1
      have hy1 := HY.out
      have HFF := Lib.hid (HFIN.out w1 HRD1.out HCH.out w2 hb (.slice none 0 0) [] ⟨World.ownsRow_nil _ _ _ _, fun k hk => by simp [Value.ownBlock] at hk⟩ HOS.out)
      clear hb q0 hR
      go_wp2
      go_ret2
      exact HFF.out
    · have HY : Hid (((bs y).toList == [45]) = false) := Lib.hid (by rw [Lib.toList_data, bs_list, beq_eq_false_iff_ne]; exact hy)
      cases p with
      | none =>
        have HOS : Hid (o = none) := Lib.hid (by rw [HOO.out, HO.out, HTP.out, if_neg hy])
        clear hd hp hy
        go_enter Tryz.func106, Tryz.ntmps106
        go_wp2_with fail
        refine HNX.out.mono ?_
        rintro e w1 ⟨b, rfl, hwd, hrd, hch, hb1, hb2⟩
        have q0 : w1.cell? ⟨b, 1, none⟩ = some (.string (bs y)) := hwd 0 (by simp)
        have HRD1 := Lib.hid hrd
        have HCH := Lib.hid hch
        clear hwd hrd hch
        generalize bs y = sy at *
        go_wp2_with fail
        refine (HBP.out _).mono ?_
        rintro e w2 ⟨rfl, hb⟩
        have HB2 := Lib.hid hb
        have q2 := cell_below q0 hb
        have HBD := Lib.hid (bad_ (HRD1.out.below hb))
        have hy1 := HY.out
        clear hb q0
        go_wp2_with fail
        refine HBD.out.mono ?_
        rintro e w3 ⟨v, rfl, hbv, hw⟩
        have HFF := Lib.hid (HBADF.out w1 HCH.out w3 (HB2.out.trans (hw.mono HB2.out.size)) v hbv HOS.out)
        clear hbv hw
        go_wp2
        go_ret2
        exact HFF.out
      | some l =>
        by_cases hl0 : l = []
        · have HOS : Hid (o = none) := Lib.hid (by rw [HOO.out, HO.out, HTP.out, if_neg hy]; simp only; rw [if_pos hl0])
          subst hl0
          clear hd hp hy
          go_enter Tryz.func106, Tryz.ntmps106
          go_wp2_with fail
          refine HNX.out.mono ?_
          rintro e w1 ⟨b, rfl, hwd, hrd, hch, hb1, hb2⟩
          have q0 : w1.cell? ⟨b, 1, none⟩ = some (.string (bs y)) := hwd 0 (by simp)
          have HRD1 := Lib.hid hrd
          have HCH := Lib.hid hch
          clear hwd hrd hch
          generalize bs y = sy at *
          go_wp2_with fail
          refine (HBP.out _).mono ?_
          rintro e w2 ⟨u, rfl, hO⟩
          have hb := hO.2.1
          obtain ⟨A, cap, rfl, -, -⟩ := hO.form
          have HB2 := Lib.hid hb
          have q2 := cell_below q0 hb
          have HBD := Lib.hid (bad_ (HRD1.out.below hb))
          have hy1 := HY.out
          clear hb q0 hO
          go_wp2_with fail
          refine HBD.out.mono ?_
          rintro e w3 ⟨v, rfl, hbv, hw⟩
          have HFF := Lib.hid (HBADF.out w1 HCH.out w3 (HB2.out.trans (hw.mono HB2.out.size)) v hbv HOS.out)
          clear hbv hw
          go_wp2
          go_ret2
          exact HFF.out
        · have HOS : Hid (o = some (l, r')) := Lib.hid (by rw [HOO.out, HO.out, HTP.out, if_neg hy]; simp only; rw [if_neg hl0])
          have hlen : 0 < l.length := List.length_pos_iff.2 hl0
          clear hd hp hy hl0
          go_enter Tryz.func106, Tryz.ntmps106
          go_wp2_with fail
          refine HNX.out.mono ?_
          rintro e w1 ⟨b, rfl, hwd, hrd, hch, hb1, hb2⟩
          have q0 : w1.cell? ⟨b, 1, none⟩ = some (.string (bs y)) := hwd 0 (by simp)
          have HRD1 := Lib.hid hrd
          have HCH := Lib.hid hch
          clear hwd hrd hch
          generalize bs y = sy at *
          go_wp2_with fail
          refine (HBP.out _).mono ?_
          rintro e w2 ⟨u, rfl, hO⟩
          have hb := hO.2.1
          have HOW := Lib.hid hO
          obtain ⟨A, cap, rfl, -, -⟩ := hO.form
          have q2 := cell_below q0 hb
          have hR := HRD1.out.below hb
          have c1 : w2.cell? ⟨r, 1, none⟩ = some (.int .i64 (n : Int)) := hR.cell 1
          have f1 := hR.frozen 1
          have hy1 := HY.out
          have hne : ((l.length : Int) == 0) = false := by rw [beq_eq_false_iff_ne]; omega
          have HFF := Lib.hid (HFIN.out w1 HRD1.out HCH.out w2 hb _ l ⟨HOW.out.1, HOW.out.2.2⟩ HOS.out)
          clear hb q0 hR hO
          go_wp2
          go_ret2
          exact HFF.out
end Go.Proofs.YtamgbfkpblpfiaaGreatDoor
/-
  The document's parser of truths, walked.
-/
namespace Go.Proofs.YtamgbfkpblpfiaaGreatDoor
open Go.ChangeShapes Go.WideShapes Go.ChangeAt Go.RowKit
set_option linter.unusedVariables false
set_option linter.unusedSimpArgs false
set_option maxHeartbeats 2000000 in
theorem r10_Parse (s : ByteArray) (w : World) (hs : s.size ≤ 100000) : Calls Tryz.prog 95 #[.string s] w (BitsQ w (bits4 s.data.toList)) := by
  have hlen : s.data.toList.length = s.size := by rw [Array.length_toList]; rfl
  unfold bits4
  by_cases h4 : 4096 < s.size
  · rw [if_pos (by omega)]
    have h4' : (4096 : Int) < (s.size : Int) := by omega
    clear hlen
    go_enter Tryz.func95, Tryz.ntmps95
    go_wp2
    go_ret2
    exact ⟨rfl, Below.refl _ _⟩
  · rw [if_neg (by omega)]
    have h4' : ¬ (4096 : Int) < (s.size : Int) := by omega
    have HLN := Lib.hid hlen
    obtain ⟨o, ho⟩ : ∃ o, o = bitsP s.data.toList := ⟨_, rfl⟩
    have HO := Lib.hid ho
    rw [← ho]
    clear hlen ho
    go_enter Tryz.func95, Tryz.ntmps95
    go_wp2
    go_loopw [4, 5] (fun u c wr => ∃ k : Nat, ∃ l, k ≤ s.size ∧ c = .int .i64 k ∧ bitsP (s.data.toList.take k) = some l ∧ l.length = k ∧ OwnG KB w wr u l) (fun _ c _ => s.size - (intOf c).toNat)
    case atStart => exact ⟨0, [], Nat.zero_le _, rfl, rfl, rfl, OwnG.start KB w⟩
    case round =>
      obtain ⟨k, l, hk, rfl, hb, hll, hO⟩ := hrel
      have HB := Lib.hid hb
      have HLL := Lib.hid hll
      have HOW := Lib.hid hO
      have HBW := Lib.hid hO.2.1
      clear hb hll hO
      by_cases hlt : k < s.size
      · have hsn := take_snocB s k hlt
        have hsb := bitsP_snoc (s.data.toList.take k) s[k]
        rw [← hsn, HB.out] at hsb
        have HSB := Lib.hid hsb
        clear hsn hsb
        by_cases h48 : s[k] = 48
        · have e1 : ((s[k].toNat : Int) != 48) = false := by rw [h48]; rfl
          have e2 : ((s[k].toNat : Int) == 49) = false := by rw [h48]; rfl
          have HNX : Hid (bitsP (s.data.toList.take (k + 1)) = some (l ++ [false])) := Lib.hid (by have := HSB.out; simp only at this; rw [if_pos (.inl h48)] at this; rw [this, h48]; rfl)
          clear h48
          go_wp2_with (at_builtin; refine wpList_G KB rfl _ _ rfl l rfl (some ⟨wr.heap.size, 0, none⟩) 1 1 [false] rfl rfl ?hb (HOW.out.below ((Below.refl _ wr).alloc (Nat.le_refl _) (.cells #[.bool false] 4))) (Src.one (heap_alloc_new wr _)) ?_; (case hb => (have := HLL.out; omega)); intro v4 w4 h4; have H4 := Lib.hid h4; clear h4)
          go_roundw
          case rel => exact ⟨k + 1, l ++ [false], by omega, by go_num, HNX.out, by rw [List.length_append, HLL.out]; rfl, H4.out⟩
          case measure => simp [intOf]; omega
        · have e1 : ((s[k].toNat : Int) != 48) = true := by
            rw [bne_iff_ne]
            intro e
            exact h48 (UInt8.toNat.inj (by have : (48 : UInt8).toNat = 48 := rfl; omega))
          by_cases h49 : s[k] = 49
          · have e2 : ((s[k].toNat : Int) != 49) = false := by rw [h49]; rfl
            have e3 : ((s[k].toNat : Int) == 49) = true := by rw [h49]; rfl
            have HNX : Hid (bitsP (s.data.toList.take (k + 1)) = some (l ++ [true])) := Lib.hid (by have := HSB.out; simp only at this; rw [if_pos (.inr h49)] at this; rw [this, h49]; rfl)
            clear h48 h49
            go_wp2_with (at_builtin; refine wpList_G KB rfl _ _ rfl l rfl (some ⟨wr.heap.size, 0, none⟩) 1 1 [true] rfl rfl ?hb (HOW.out.below ((Below.refl _ wr).alloc (Nat.le_refl _) (.cells #[.bool true] 4))) (Src.one (heap_alloc_new wr _)) ?_; (case hb => (have := HLL.out; omega)); intro v4 w4 h4; have H4 := Lib.hid h4; clear h4)
            go_roundw
            case rel => exact ⟨k + 1, l ++ [true], by omega, by go_num, HNX.out, by rw [List.length_append, HLL.out]; rfl, H4.out⟩
            case measure => simp [intOf]; omega
          · have e2 : ((s[k].toNat : Int) != 49) = true := by
              rw [bne_iff_ne]
              intro e
              exact h49 (UInt8.toNat.inj (by have : (49 : UInt8).toNat = 49 := rfl; omega))
            have hon : o = none := by
              have h1 := HSB.out
              simp only at h1
              rw [if_neg (by rintro (h | h); exact h48 h; exact h49 h)] at h1
              rw [HO.out, ← List.take_append_drop (k + 1) s.data.toList]
              exact bitsP_none _ _ h1
            subst hon
            clear h48 h49
            go_wp2
            go_ret2
            exact ⟨rfl, HBW.out⟩
      · obtain rfl : k = s.size := by omega
        have hon : o = some l := by
          have h1 := HB.out
          rw [List.take_of_length_le (by have := HLN.out; omega)] at h1
          rw [HO.out, h1]
        subst hon
        clear hlt
        go_wp2
        go_ret2
        exact ⟨_, rfl, HOW.out⟩
set_option maxHeartbeats 1000000 in
/-- A word's truths, the document's way. -/
theorem r15_parse {y : List UInt8} (hy : y.length ≤ 100000) (w : World) : Calls Tryz.prog 60 #[.string (bs y)] w (BitsQ w (truthsP y)) := by
  have HBP := Lib.hid (r10_Parse (bs y) w (by rw [bs_size]; exact hy))
  rw [bs_list] at HBP
  have HTP := Lib.hid (truthsP_bits y)
  by_cases h1 : y = [45]
  · have e1 : ((bs y).toList == [45]) = true := by rw [h1, Lib.toList_data]; rfl
    have HO : Hid (truthsP y = some []) := Lib.hid (by rw [HTP.out, if_pos h1])
    rw [HO.out]
    clear h1 hy
    generalize bs y = sy at *
    go_enter Tryz.func60, Tryz.ntmps60
    go_wp2
    go_ret2
    exact ⟨_, rfl, OwnG.start KB w⟩
  · have e1 : ((bs y).toList == [45]) = false := by rw [Lib.toList_data, bs_list, beq_eq_false_iff_ne]; exact h1
    by_cases h0 : y = []
    · have HO : Hid (truthsP y = none) := Lib.hid (by rw [HTP.out, if_neg h1, h0]; rfl)
      rw [HO.out]
      subst h0
      clear h1 hy e1
      have e : bs [] = ⟨#[]⟩ := rfl
      rw [e]
      go_enter Tryz.func60, Tryz.ntmps60
      go_wp2
      go_ret2
      exact ⟨rfl, Below.refl _ _⟩
    · have e0 : (bs y).toList.isEmpty = false := by rw [Lib.toList_data, bs_list]; simpa using h0
      have e00 : ¬ (bs y).toList = [] := by rw [Lib.toList_data, bs_list]; exact h0
      have HO : Hid (truthsP y = bits4 y) := Lib.hid (by
        rw [HTP.out, if_neg h1]
        cases hb : bits4 y with
        | none => rfl
        | some l =>
          simp only
          unfold bits4 at hb
          split at hb
          · simp at hb
          · have := bitsP_len hb
            rw [if_neg (fun e => h0 (List.eq_nil_of_length_eq_zero (by rw [← this, e]; rfl)))])
      rw [HO.out]
      obtain ⟨o, hoo⟩ : ∃ o, o = bits4 y := ⟨_, rfl⟩
      rw [← hoo] at HBP ⊢
      clear h1 h0 hy hoo
      generalize bs y = sy at *
      go_enter Tryz.func60, Tryz.ntmps60
      go_wp2_with fail
      refine HBP.out.mono ?_
      cases o with
      | none =>
        rintro e w2 ⟨rfl, hb⟩
        have HB := Lib.hid hb
        clear hb
        go_wp2
        go_ret2
        exact ⟨rfl, HB.out⟩
      | some l =>
        rintro e w2 ⟨u, rfl, hb⟩
        have HB := Lib.hid hb
        clear hb
        go_wp2
        go_ret2
        exact ⟨_, rfl, HB.out⟩
end Go.Proofs.YtamgbfkpblpfiaaGreatDoor
/-
  The document's words of a line, walked.
-/
namespace Go.Proofs.YtamgbfkpblpfiaaGreatDoor
open Go.ChangeShapes Go.WideShapes Go.ChangeAt Go.RowKit
set_option linter.unusedVariables false
set_option linter.unusedSimpArgs false
theorem infoStr : (Tryz.prog.info? 9).map (fun i => (i.zero, i.size, i.bytes)) = some (some (.string ByteArray.empty), 1, 16) := by kernel_rfl
def KS : Knd (List UInt8) := ⟨9, 44, strV, .string ByteArray.empty, 16, fun _ => rfl, Tryz.underlying44, infoStr, rfl, by decide⟩
/-- One element is written. -/
theorem OwnG.set_ {α : Type} {K : Knd α} {w wr : World} {g cap n : Nat} {xs : List α} (h : OwnG K w wr (.slice (some ⟨g, 0, none⟩) n cap) xs) (hn : n = xs.length) (j : Nat) (x : α) : OwnG K w (wr.setCell ⟨g, j, none⟩ (K.enc x)) (.slice (some ⟨g, 0, none⟩) n cap) (xs.set j x) := by
  subst hn
  refine ⟨?_, h.2.1.setCell (by have := h.2.2 g rfl; exact this) _, h.2.2⟩
  have := h.1.set1 j (K.enc x)
  rw [List.length_set, List.map_set]
  exact this
theorem words_snoc : ∀ (a : List UInt8) (c : UInt8), wordsT (a ++ [c]) = if c = 32 then wordsT a ++ [[]] else (wordsT a).set ((wordsT a).length - 1) ((wordsT a).getD ((wordsT a).length - 1) [] ++ [c])
  | [], c => by
    by_cases hc : c = 32
    · subst hc; rfl
    · rw [if_neg hc]
      simp [wordsT, hc]
  | x :: a, c => by
    rw [List.cons_append, wordsT, words_snoc a c]
    have hne := wordsT_ne a
    by_cases hx : x = 32
    · rw [if_pos hx]
      have e : wordsT (x :: a) = [] :: wordsT a := by rw [wordsT, if_pos hx]
      rw [e]
      by_cases hc : c = 32
      · rw [if_pos hc, if_pos hc]; rfl
      · rw [if_neg hc, if_neg hc]
        cases hw : wordsT a with
        | nil => exact absurd hw hne
        | cons y ys => simp
    · rw [if_neg hx]
      cases hw : wordsT a with
      | nil => exact absurd hw hne
      | cons y ys =>
        have e : wordsT (x :: a) = (x :: y) :: ys := by rw [wordsT, if_neg hx, hw]
        rw [e]
        by_cases hc : c = 32
        · rw [if_pos hc, if_pos hc]; rfl
        · rw [if_neg hc, if_neg hc]
          cases ys with
          | nil => simp
          | cons z zs => simp
theorem wordsT_len (l : List UInt8) : (wordsT l).length ≤ l.length + 1 ∧ 1 ≤ (wordsT l).length := by
  rw [words_count]
  have := List.count_le_length (a := (32 : UInt8)) (l := l)
  omega
theorem word_le (l : List UInt8) {x : List UInt8} (h : x ∈ wordsT l) : x.length ≤ l.length := by
  cases hw : wordsT l with
  | nil => exact absurd hw (wordsT_ne l)
  | cons w ws =>
    obtain ⟨e, -, -⟩ := joinT_words hw
    rw [hw] at h
    have := word_len x h
    rw [← e] at this
    exact this
set_option maxHeartbeats 4000000 in
theorem r15_split {l : List UInt8} (hl : l.length ≤ 100000) (w : World) : Calls Tryz.prog 59 #[.string (bs l)] w fun e w' => ∃ u, e = .returned u ∧ OwnG KS w w' u (wordsT l) := by
  obtain ⟨s, hs⟩ : ∃ s, s = bs l := ⟨_, rfl⟩
  have hsl : s.data.toList = l := by rw [hs, bs_list]
  have hsz : s.size = l.length := by rw [hs, bs_size]
  rw [← hs]
  have HS := Lib.hid hsl
  have hs9 : s.size ≤ 100000 := by omega
  have H0 : Hid (OwnG KS w (w.alloc (.cells #[.string ⟨#[]⟩] 9)) (.slice (some ⟨w.heap.size, 0, none⟩) 1 1) [[]]) := Lib.hid ⟨⟨by simp [KS], .inr ⟨w.heap.size, 1, #[.string ⟨#[]⟩], rfl, Nat.zero_le _, heap_alloc_new w _, Nat.le_refl _, by simp [maxLen], by simp, by simp [KS, strV, bs]⟩⟩, (Below.refl _ w).alloc (Nat.le_refl _) _, fun k hk => by simp [Value.ownBlock] at hk; omega⟩
  clear hs hsl hsz hl
  go_enter Tryz.func59, Tryz.ntmps59
  go_wp2
  go_loopw [3, 4] (fun u c wr => ∃ k : Nat, k ≤ s.size ∧ c = .int .i64 k ∧ OwnG KS w wr u (wordsT (s.data.toList.take k))) (fun _ c _ => s.size - (intOf c).toNat)
  case atStart => exact ⟨0, Nat.zero_le _, rfl, H0.out⟩
  case round =>
    obtain ⟨k, hk, rfl, hO⟩ := hrel
    have HOW := Lib.hid hO
    by_cases hlt : k < s.size
    · have hsn := take_snocB s k hlt
      have hws := words_snoc (s.data.toList.take k) s[k]
      rw [← hsn] at hws
      obtain ⟨hwl1, hwl2⟩ := wordsT_len (s.data.toList.take k)
      have htl : (s.data.toList.take k).length ≤ k := List.length_take_le _ _
      by_cases h32 : s[k] = 32
      · rw [if_pos h32] at hws
        have HWS := Lib.hid hws
        have HLL : Hid ((wordsT (s.data.toList.take k)).length ≤ 100001) := Lib.hid (by omega)
        have e1 : ((s[k].toNat : Int) == 32) = true := by rw [h32]; rfl
        clear h32 hws hsn hwl1 hwl2 htl hO
        generalize wordsT (s.data.toList.take k) = ps at *
        go_wp2_with (at_builtin; refine wpList_G KS rfl _ _ rfl ps rfl (some ⟨wr.heap.size, 0, none⟩) 1 1 [[]] rfl rfl ?hb (HOW.out.below ((Below.refl _ wr).alloc (Nat.le_refl _) (.cells #[.string ⟨#[]⟩] 9))) (Src.one (heap_alloc_new wr _)) ?_; (case hb => (have := HLL.out; omega)); intro v4 w4 h4; have H4 := Lib.hid h4; clear h4)
        go_roundw
        case rel => exact ⟨k + 1, by omega, by go_num, by rw [HWS.out]; exact H4.out⟩
        case measure => simp [intOf]; omega
      · rw [if_neg h32] at hws
        have HWS := Lib.hid hws
        have e1 : ((s[k].toNat : Int) == 32) = false := by
          rw [beq_eq_false_iff_ne]
          intro e
          exact h32 (UInt8.toNat.inj (by have : (32 : UInt8).toNat = 32 := rfl; omega))
        obtain ⟨q, hq⟩ : ∃ q, (wordsT (s.data.toList.take k)).length = q + 1 := ⟨(wordsT (s.data.toList.take k)).length - 1, by omega⟩
        have hq9 : q ≤ 100000 := by omega
        obtain ⟨g, cap, hu, hcell, hg1, hg2⟩ := hO.cell [] (j := q) (by omega)
        rw [hq] at hu
        subst hu
        rw [hq, Nat.add_sub_cancel] at HWS
        obtain ⟨x, hx⟩ : ∃ x, x = (wordsT (s.data.toList.take k)).getD q [] := ⟨_, rfl⟩
        have hxl : x.length ≤ 100000 := by
          have := word_le (s.data.toList.take k) (x := x) (by rw [hx, List.getD_eq_getElem?_getD, List.getElem?_eq_getElem (by omega)]; exact List.getElem_mem (by omega))
          omega
        rw [← hx] at hcell HWS
        have hfz : wr.frozen? ⟨g, q, none⟩ = false := by
          rcases hO.1.form with ⟨h, -⟩ | ⟨g', cap', h', -, -, -, hc⟩
          · cases h
          · injection h' with e1 e2 e3
            injection e1 with e1
            injection e1 with e1
            subst e1
            exact (hc q (by rw [List.length_map]; omega)).2
        have hcc : wr.cell? ⟨g, q, none⟩ = some (.string (bs x)) := hcell
        obtain ⟨y, hy⟩ : ∃ y, y = s.extract k (k + 1) := ⟨_, rfl⟩
        have hyl : y = bs [s[k]] := by
          rw [hy]
          apply ByteArray.ext
          apply Array.ext'
          rw [Lib.extract_data]
          have h1 : s.data.toList.drop k = s[k] :: s.data.toList.drop (k + 1) := List.drop_eq_getElem_cons (by simpa using hlt)
          rw [bs_list]
          first
            | (rw [h1, show k + 1 - k = 1 by omega]; rfl)
            | (rw [List.drop_take, h1, show k + 1 - k = 1 by omega]; rfl)
        have hcat : ∀ W, (Op.stringOp .add (bs x) y).run Tryz.prog W = .ok (.string (bs (x ++ [s[k]]))) W := fun W => run_cat W _ _ _ (by rw [hyl, bs_size, bs_size]; simp; omega) (by rw [hyl, bs_app])
        have hset := (HOW.out.set_ hq.symm q (x ++ [s[k]])).below (below_drewN (Below.refl _ _) 1)
        rw [← HWS.out] at hset
        have HX := Lib.hid hset
        have hw1 : IntKind.i64.wrap ((q : Int) + 1 - 1) = (q : Int) := by simp (disch := omega) only [IntWalk.i64_in]; omega
        have hw2 : IntKind.i64.wrap (q : Int) = (q : Int) := by simp (disch := omega) only [IntWalk.i64_in]
        have hw3 : IntKind.i64.wrap ((k : Int) + 1) = (k : Int) + 1 := by simp (disch := omega) only [IntWalk.i64_in]
        have ht1 : ((k : Int) + 1).toNat = k + 1 := by omega
        have hb1 : (k : Int) + 1 ≤ (s.size : Int) := by omega
        have hb2 : (k : Int) < (s.size : Int) := by omega
        have hb3 : (q : Int) < (q : Int) + 1 := by omega
        subst hy
        clear hset hws hwl1 hwl2 htl hq hx hxl hyl hO h32 hsn hcell
        go_wp2
        go_region
        go_wp2
        go_roundw
        case rel => exact ⟨k + 1, by omega, by go_num, HX.out⟩
        case measure => simp [intOf]; omega
    · obtain rfl : k = s.size := by omega
      have HF : Hid (wordsT (s.data.toList.take s.size) = wordsT l) := Lib.hid (by rw [List.take_of_length_le (by rw [Array.length_toList]; exact Nat.le_refl _), HS.out])
      clear hO hlt
      go_wp2
      go_ret
      exact ⟨_, rfl, by rw [← HF.out]; exact HOW.out⟩
end Go.Proofs.YtamgbfkpblpfiaaGreatDoor
/-
  The document's lines of a text, walked.
-/
namespace Go.Proofs.YtamgbfkpblpfiaaGreatDoor
open Go.ChangeShapes Go.WideShapes Go.ChangeAt Go.RowKit
set_option linter.unusedVariables false
set_option linter.unusedSimpArgs false
/-- The lines that end, and what is behind them. -/
def linesF : List UInt8 → List (List UInt8) × List UInt8
  | [] => ([], [])
  | c :: s => if c = 10 then ([] :: (linesF s).1, (linesF s).2) else match (linesF s).1 with
    | x :: ls => ((c :: x) :: ls, (linesF s).2)
    | [] => ([], c :: (linesF s).2)
theorem linesF_snoc : ∀ (a : List UInt8) (c : UInt8), linesF (a ++ [c]) = if c = 10 then ((linesF a).1 ++ [(linesF a).2], []) else ((linesF a).1, (linesF a).2 ++ [c])
  | [], c => by
    by_cases hc : c = 10
    · subst hc; rfl
    · rw [if_neg hc]
      simp [linesF, hc]
  | x :: a, c => by
    rw [List.cons_append, linesF, linesF_snoc a c]
    by_cases hx : x = 10
    · rw [if_pos hx]
      have e : linesF (x :: a) = ([] :: (linesF a).1, (linesF a).2) := by rw [linesF, if_pos hx]
      rw [e]
      by_cases hc : c = 10
      · rw [if_pos hc, if_pos hc]; rfl
      · rw [if_neg hc, if_neg hc]
    · rw [if_neg hx]
      cases hl : (linesF a).1 with
      | nil =>
        have e : linesF (x :: a) = ([], x :: (linesF a).2) := by rw [linesF, if_neg hx, hl]
        rw [e]
        by_cases hc : c = 10
        · rw [if_pos hc, if_pos hc]; rfl
        · rw [if_neg hc, if_neg hc]; rfl
      | cons y ys =>
        have e : linesF (x :: a) = ((x :: y) :: ys, (linesF a).2) := by rw [linesF, if_neg hx, hl]
        rw [e]
        by_cases hc : c = 10
        · rw [if_pos hc, if_pos hc]; rfl
        · rw [if_neg hc, if_neg hc]
theorem cut_lines : ∀ (s : List UInt8), match cutT s with | some (a, b) => linesF s = (a :: (linesF b).1, (linesF b).2) | none => linesF s = ([], s)
  | [] => rfl
  | c :: s => by
    have ih := cut_lines s
    rw [cutT]
    by_cases hc : c = 10
    · rw [if_pos hc]
      simp only
      rw [linesF, if_pos hc]
    · rw [if_neg hc]
      cases h : cutT s with
      | none =>
        rw [h] at ih
        simp only at ih ⊢
        rw [linesF, if_neg hc, ih]
      | some q =>
        obtain ⟨a, b⟩ := q
        rw [h] at ih
        simp only at ih ⊢
        rw [linesF, if_neg hc, ih]
theorem linesF_size : ∀ s : List UInt8, (linesF s).1.length ≤ s.length ∧ (linesF s).2.length ≤ s.length
  | [] => ⟨Nat.le_refl _, Nat.le_refl _⟩
  | c :: s => by
    obtain ⟨h1, h2⟩ := linesF_size s
    rw [linesF]
    by_cases hc : c = 10
    · rw [if_pos hc]; simp; omega
    · rw [if_neg hc]
      cases hl : (linesF s).1 with
      | nil => simp; omega
      | cons y ys => rw [hl] at h1; simp at h1 ⊢; omega
/-- All lines, and whether the last one has no end. -/
def linesT (s : List UInt8) : List (List UInt8) × Bool := if (linesF s).2 = [] then ((linesF s).1, false) else ((linesF s).1 ++ [(linesF s).2], true)
theorem bs_extract (s : ByteArray) (a b : Nat) : s.extract a b = bs ((s.data.toList.take b).drop a) := by
  apply ByteArray.ext
  apply Array.ext'
  rw [Lib.extract_data, bs_list, List.drop_take]
def LinesI (s : ByteArray) (i f : Nat) (ls : List (List UInt8)) : Prop := f ≤ i ∧ linesF (s.data.toList.take i) = (ls, (s.data.toList.take i).drop f)
theorem LinesI.end_ {s : ByteArray} {i f : Nat} {ls : List (List UInt8)} (h : LinesI s i f ls) (hi : i < s.size) (hc : s[i] = 10) : LinesI s (i + 1) (i + 1) (ls ++ [(s.data.toList.take i).drop f]) := by
  refine ⟨Nat.le_refl _, ?_⟩
  have hl : (s.data.toList.take (i + 1)).length = i + 1 := by
    rw [List.length_take, Array.length_toList]
    have : s.data.size = s.size := rfl
    omega
  rw [take_snocB s i hi] at hl ⊢
  have hd : (s.data.toList.take i ++ [s[i]]).drop (i + 1) = [] := List.drop_eq_nil_of_le (by omega)
  rw [linesF_snoc, if_pos hc, h.2, hd]
theorem LinesI.more {s : ByteArray} {i f : Nat} {ls : List (List UInt8)} (h : LinesI s i f ls) (hi : i < s.size) (hc : ¬ s[i] = 10) : LinesI s (i + 1) f ls := by
  obtain ⟨h1, h2⟩ := h
  refine ⟨by omega, ?_⟩
  have hl : (s.data.toList.take i).length = i := by
    rw [List.length_take, Array.length_toList]
    have : s.data.size = s.size := rfl
    omega
  rw [take_snocB s i hi, linesF_snoc, if_neg hc, h2, List.drop_append_of_le_length (by omega)]
def LnsQ (w : World) (o : List (List UInt8) × Bool) (e : Ending) (w' : World) : Prop := ∃ u, e = .returned (.tuple #[u, .bool o.2]) ∧ OwnG KS w w' u o.1
set_option maxHeartbeats 4000000 in
theorem r15_lines {l : List UInt8} (hl : l.length ≤ 100000) (w : World) : Calls Tryz.prog 56 #[.string (bs l)] w (LnsQ w (linesT l)) := by
  obtain ⟨s, hs⟩ : ∃ s, s = bs l := ⟨_, rfl⟩
  have hsl : s.data.toList = l := by rw [hs, bs_list]
  have hsz : s.size = l.length := by rw [hs, bs_size]
  rw [← hs]
  have HS := Lib.hid hsl
  have HSZ := Lib.hid hsz
  have hs9 : s.size ≤ 100000 := by omega
  clear hs hsl hsz hl
  go_enter Tryz.func56, Tryz.ntmps56
  go_wp2
  go_loopw [4, 5, 6] (fun u f c wr => ∃ i a : Nat, ∃ ls, i ≤ s.size ∧ c = .int .i64 i ∧ f = .int .i64 a ∧ LinesI s i a ls ∧ OwnG KS w wr u ls) (fun _ _ c _ => s.size - (intOf c).toNat)
  case atStart => exact ⟨0, 0, [], Nat.zero_le _, rfl, rfl, ⟨Nat.le_refl _, rfl⟩, OwnG.start KS w⟩
  case round =>
    obtain ⟨i, a, ls, hi, rfl, rfl, hI, hO⟩ := hrel
    have HI := Lib.hid hI
    have HOW := Lib.hid hO
    have hai := hI.1
    have hls : ls.length ≤ 100000 := by
      have h1 := (linesF_size (s.data.toList.take i)).1
      rw [hI.2] at h1
      have := List.length_take_le i s.data.toList
      simp only at h1
      omega
    clear hI hO
    by_cases hlt : i < s.size
    · by_cases h10 : s[i] = 10
      · have HNX := Lib.hid (HI.out.end_ hlt h10)
        have e1 : ((s[i].toNat : Int) == 10) = true := by rw [h10]; rfl
        have hex := bs_extract s a i
        obtain ⟨x, hx⟩ : ∃ x, x = (s.data.toList.take i).drop a := ⟨_, rfl⟩
        rw [← hx] at hex HNX
        have HLS := Lib.hid hls
        have HX : Hid (strV x = .string (s.extract a i)) := Lib.hid (by rw [hex]; rfl)
        clear h10 hx hex hls
        go_wp2_with (at_builtin; refine wpList_G KS rfl _ _ rfl ls rfl (some ⟨wr.heap.size, 0, none⟩) 1 1 [x] rfl rfl ?hb (HOW.out.below ((Below.refl _ wr).alloc (Nat.le_refl _) (.cells #[.string (s.extract a i)] 9))) ?hsrc ?_; (case hb => (have := HLS.out; omega)); (case hsrc => (have h9 := Src.one (w := wr.alloc (.cells #[.string (s.extract a i)] 9)) (heap_alloc_new wr _); rw [← HX.out] at h9; rw [← HX.out]; exact h9)); intro v4 w4 h4; have H4 := Lib.hid h4; clear h4)
        go_roundw
        case rel => exact ⟨i + 1, i + 1, _, by omega, by go_num, by go_num, HNX.out, H4.out⟩
        case measure => simp [intOf]; omega
      · have HNX := Lib.hid (HI.out.more hlt h10)
        have e1 : ((s[i].toNat : Int) == 10) = false := by
          rw [beq_eq_false_iff_ne]
          intro e
          exact h10 (UInt8.toNat.inj (by have : (10 : UInt8).toNat = 10 := rfl; omega))
        clear h10 hls
        go_wp2
        go_roundw
        case rel => exact ⟨i + 1, a, _, by omega, by go_num, rfl, HNX.out, HOW.out⟩
        case measure => simp [intOf]; omega
    · obtain rfl : i = s.size := by omega
      have hlen : s.data.toList.length = s.size := by rw [Array.length_toList]; rfl
      have hfull : s.data.toList.take s.size = l := by rw [List.take_of_length_le (by omega), HS.out]
      have hF : linesF l = (ls, l.drop a) := by
        have := HI.out.2
        rw [hfull] at this
        exact this
      by_cases ha : a < s.size
      · have hex := bs_extract s a s.size
        rw [hfull] at hex
        obtain ⟨x, hx⟩ : ∃ x, x = l.drop a := ⟨_, rfl⟩
        have hne : x ≠ [] := fun e => by
          have h1 : x.length = 0 := by rw [e]; rfl
          have h2 := HSZ.out
          rw [hx, List.length_drop] at h1
          omega
        rw [← hx] at hex hF
        have HT : Hid (linesT l = (ls ++ [x], true)) := Lib.hid (by unfold linesT; rw [hF]; simp only; rw [if_neg hne])
        have HLS := Lib.hid hls
        have HX : Hid (strV x = .string (s.extract a s.size)) := Lib.hid (by rw [hex]; rfl)
        clear hx hex hls hF hne hfull hlen hlt
        go_wp2_with (at_builtin; refine wpList_G KS rfl _ _ rfl ls rfl (some ⟨wr.heap.size, 0, none⟩) 1 1 [x] rfl rfl ?hb (HOW.out.below ((Below.refl _ wr).alloc (Nat.le_refl _) (.cells #[.string (s.extract a s.size)] 9))) ?hsrc ?_; (case hb => (have := HLS.out; omega)); (case hsrc => (have h9 := Src.one (w := wr.alloc (.cells #[.string (s.extract a s.size)] 9)) (heap_alloc_new wr _); rw [← HX.out] at h9; rw [← HX.out]; exact h9)); intro v4 w4 h4; have H4 := Lib.hid h4; clear h4)
        have HF : Hid (LnsQ w (linesT l) (.returned (.tuple #[v4, .bool true])) w4) := Lib.hid (by rw [HT.out]; exact ⟨_, rfl, H4.out⟩)
        go_ret2
        exact HF.out
      · have he : l.drop a = [] := List.drop_eq_nil_of_le (by have := HSZ.out; omega)
        have HT : Hid (linesT l = (ls, false)) := Lib.hid (by unfold linesT; rw [hF, he]; rfl)
        clear he hF hfull hlen hls hlt
        have HF : Hid (∀ u, OwnG KS w wr u ls → LnsQ w (linesT l) (.returned (.tuple #[u, .bool false])) wr) := Lib.hid fun u hu => by rw [HT.out]; exact ⟨_, rfl, hu⟩
        have HFF := Lib.hid (HF.out _ HOW.out)
        go_wp2
        go_ret2
        exact HFF.out
end Go.Proofs.YtamgbfkpblpfiaaGreatDoor
/-
  The document's line at a place, and what a line begins with, walked.
-/
namespace Go.Proofs.YtamgbfkpblpfiaaGreatDoor
open Go.ChangeShapes Go.WideShapes Go.ChangeAt Go.RowKit
set_option linter.unusedVariables false
set_option linter.unusedSimpArgs false
def lineAt (ls : List (List UInt8)) (b : Bool) (i : Nat) : Option (List UInt8) := if ls.length ≤ i ∨ (b = true ∧ i + 1 = ls.length) then none else some (ls.getD i [])
theorem r15_line {w W : World} {v : Value} {ls : List (List UInt8)} (h : OwnG KS w W v ls) (b : Bool) (i : Nat) (hi : i ≤ 100000) (hl : ls.length ≤ 100001) :
    Calls Tryz.prog 57 #[v, .bool b, .int .i64 (i : Int)] W fun e w' => e = .returned (.tuple #[.string (bs ((lineAt ls b i).getD [])), .bool (lineAt ls b i).isSome]) ∧ W = w' := by
  obtain ⟨A, cap, rfl, h1, h2⟩ := h.form
  have e0 : bs [] = ⟨#[]⟩ := rfl
  by_cases hlt : i < ls.length
  · obtain ⟨g, cap', e, hc, -, -⟩ := h.cell [] hlt
    injection e with e1 e2 e3
    subst e1
    have hc' : W.cell? ⟨g, i, none⟩ = some (.string (bs (ls.getD i []))) := hc
    by_cases hb : b = true ∧ i + 1 = ls.length
    · have HL : Hid (lineAt ls b i = none) := Lib.hid (by unfold lineAt; rw [if_pos (.inr hb)])
      rw [HL.out]
      obtain ⟨rfl, hn⟩ := hb
      simp only [Option.getD_none, Option.isSome_none, e0]
      have hn1 : ((i : Int) == (ls.length : Int) - 1) = true := by rw [beq_iff_eq]; omega
      clear h hc hc' e2 e3 hn e0
      generalize ls.length = n at *
      go_enter Tryz.func57, Tryz.ntmps57
      go_wp2
      go_ret2
      exact ⟨rfl, rfl⟩
    · have HL : Hid (lineAt ls b i = some (ls.getD i [])) := Lib.hid (by unfold lineAt; rw [if_neg (by rintro (h | h); omega; exact hb h)])
      rw [HL.out]
      simp only [Option.getD_some, Option.isSome_some]
      generalize bs (ls.getD i []) = x at *
      have hn1 : b = true → ((i : Int) == (ls.length : Int) - 1) = false := fun hb1 => by
        rw [beq_eq_false_iff_ne]
        intro e
        exact hb ⟨hb1, by omega⟩
      clear h hc e2 e3 hb e0
      generalize ls.length = n at *
      cases b with
      | false =>
        clear hn1
        go_enter Tryz.func57, Tryz.ntmps57
        go_wp2
        go_ret2
        exact ⟨rfl, rfl⟩
      | true =>
        have hn2 := hn1 rfl
        clear hn1
        go_enter Tryz.func57, Tryz.ntmps57
        go_wp2
        go_ret2
        exact ⟨rfl, rfl⟩
  · have HL : Hid (lineAt ls b i = none) := Lib.hid (by unfold lineAt; rw [if_pos (.inl (by omega))])
    rw [HL.out]
    simp only [Option.getD_none, Option.isSome_none, e0]
    clear h e0
    generalize ls.length = n at *
    have hlt' : ¬ (i : Int) < (n : Int) := by omega
    go_enter Tryz.func57, Tryz.ntmps57
    go_wp2
    go_ret2
    exact ⟨rfl, rfl⟩
theorem prefix_take {p l : List UInt8} : p.isPrefixOf l = decide (p.length ≤ l.length ∧ l.take p.length = p) := by
  rw [Bool.eq_iff_iff, List.isPrefixOf_iff_prefix, decide_eq_true_eq, List.prefix_iff_eq_take]
  constructor
  · intro h
    refine ⟨?_, h.symm⟩
    have := congrArg List.length h
    rw [List.length_take] at this
    omega
  · exact fun h => h.2.symm
theorem r15_begins (s p : List UInt8) (w : World) (hs : s.length ≤ 100000) (hp : p.length ≤ 1000) : Calls Tryz.prog 61 #[.string (bs s), .string (bs p)] w fun e w' => e = .returned (.bool (beginsT p s)) ∧ w = w' := by
  have hz1 := bs_size s
  have hz2 := bs_size p
  unfold beginsT
  rw [prefix_take]
  by_cases h : p.length ≤ s.length
  · have hex : (bs s).extract 0 (bs p).size = bs (s.take p.length) := by rw [bs_extract, bs_list, hz2, List.drop_zero]
    have hr : decide (p.length ≤ s.length ∧ s.take p.length = p) = ((bs (s.take p.length)).toList == (bs p).toList) := by
      rw [Lib.toList_data, Lib.toList_data, bs_list, bs_list, Bool.eq_iff_iff]
      simp [h]
    rw [hr, ← hex]
    have hle : ((bs p).size : Int) ≤ ((bs s).size : Int) := by rw [hz1, hz2]; omega
    have hs1 : (bs s).size ≤ 100000 := by omega
    have hs2 : (bs p).size ≤ 1000 := by omega
    clear hex hr hz1 hz2 h
    generalize bs s = a at *
    generalize bs p = b at *
    go_enter Tryz.func61, Tryz.ntmps61
    go_wp2
    go_ret
    exact ⟨rfl, rfl⟩
  · have hr : decide (p.length ≤ s.length ∧ s.take p.length = p) = false := decide_eq_false (fun hh => h hh.1)
    rw [hr]
    have hle : ¬ ((bs p).size : Int) ≤ ((bs s).size : Int) := by rw [hz1, hz2]; omega
    have hs1 : (bs s).size ≤ 100000 := by omega
    have hs2 : (bs p).size ≤ 1000 := by omega
    clear hr hz1 hz2 h
    generalize bs s = a at *
    generalize bs p = b at *
    go_enter Tryz.func61, Tryz.ntmps61
    go_wp2
    go_ret
    exact ⟨rfl, rfl⟩
end Go.Proofs.YtamgbfkpblpfiaaGreatDoor
/-
  The document's numbers of a line, walked.
-/
namespace Go.Proofs.YtamgbfkpblpfiaaGreatDoor
open Go.ChangeShapes Go.WideShapes Go.ChangeAt Go.RowKit
set_option linter.unusedVariables false
set_option linter.unusedSimpArgs false
def NmQ (w : World) (o : Option (List Nat)) (e : Ending) (w' : World) : Prop := match o with
  | some ns => ∃ u, e = .returned (.tuple #[u, .bool true]) ∧ OwnG KU w w' u ns
  | none => e = .returned (.tuple #[.slice none 0 0, .bool false]) ∧ Below w.heap.size w w'
set_option maxHeartbeats 4000000 in
theorem r15_numbers {w : World} (line word : List UInt8) (most : List Nat) {bm cap : Nat} (hl : line.length ≤ 100000) (hml : 1 ≤ most.length ∧ most.length ≤ 100)
    (hmc : ∀ j, j < most.length → w.cell? ⟨bm, j, none⟩ = some (.int .u64 ((most.getD j 0 : Nat) : Int))) :
    Calls Tryz.prog 58 #[.string (bs line), .string (bs word), .slice (some ⟨bm, 0, none⟩) most.length cap] w (NmQ w (numsT word most line)) := by
  have HSP := Lib.hid (r15_split hl w)
  have HMC := Lib.hid hmc
  obtain ⟨km, hkm⟩ : ∃ k, k = most.length := ⟨_, rfl⟩
  rw [← hkm] at hml ⊢
  have HKM := Lib.hid hkm
  obtain ⟨hm1, hm2⟩ := hml
  have HWB : Hid (∀ y ∈ wordsT line, y.length ≤ 100000) := Lib.hid fun y hy => by have := word_le line hy; omega
  cases hw : wordsT line with
  | nil => exact absurd hw (wordsT_ne line)
  | cons x ws =>
    rw [hw] at HSP HWB
    have hlen9 : ws.length ≤ 100000 := by have := (wordsT_len line).1; rw [hw] at this; simp at this; omega
    obtain ⟨o, ho⟩ : ∃ o, o = numsT word most line := ⟨_, rfl⟩
    have HO : Hid (o = if x = word ∧ ws.length = km then numsP ws most else none) := Lib.hid (by rw [ho]; unfold numsT; rw [hw, hkm])
    rw [← ho]
    clear hkm ho hw hmc hl
    by_cases hn : ws.length = km
    · by_cases hx : x = word
      · have HON : Hid (o = numsP ws most) := Lib.hid (by rw [HO.out, if_pos ⟨hx, hn⟩])
        have hlen : ((ws.length : Int) + 1 != (km : Int) + 1) = false := by rw [hn]; simp
        have hxs : (!(bs x).toList == (bs word).toList) = false := by rw [hx]; simp
        have HWS := Lib.hid hn
        clear hx
        generalize bs line = sl at *
        generalize bs word = sw at *
        go_enter Tryz.func58, Tryz.ntmps58
        go_wp2_with fail
        refine HSP.out.mono ?_
        rintro e w1 ⟨u, rfl, hO⟩
        have HW1 := Lib.hid hO
        have HB1 := Lib.hid hO.2.1
        obtain ⟨g, cap', rfl, hc0, -, -⟩ := hO.cell [] (j := 0) (by simp)
        have hc : w1.cell? ⟨g, 0, none⟩ = some (.string (bs x)) := hc0
        clear hO hc0
        simp only [List.length_cons] at HW1 ⊢
        rw [hn] at hlen HW1 ⊢
        clear hn
        go_wp2
        clear hc hlen hxs
        go_loopw [9, 10, 11, 12] (fun u c _ _ wr => ∃ j : Nat, ∃ ns, j ≤ km ∧ c = .int .i64 j ∧ NumsI ws most j ns ∧ ns.length = j ∧ OwnG KU w1 wr u ns) (fun _ c _ _ _ => km - (intOf c).toNat)
        case atStart => exact ⟨0, [], Nat.zero_le _, rfl, by unfold NumsI; rfl, rfl, OwnG.start KU w1⟩
        case round =>
          obtain ⟨j, ns, hj, rfl, hI, hnl, hO⟩ := hrel
          have HI := Lib.hid hI
          have HOW := Lib.hid hO
          have HNL := Lib.hid hnl
          have HBW := Lib.hid hO.2.1
          clear hI hO hnl
          by_cases hlt : (j : Int) < (km : Int)
          · have hjw : j < ws.length := by have := HWS.out; omega
            obtain ⟨g', cp', eg, hcj, -, -⟩ := HW1.out.cell [] (j := j + 1) (by simp; omega)
            injection eg with eg1 eg2 eg3
            injection eg1 with eg1
            clear eg2 eg3
            injection eg1 with eg1
            subst eg1
            rw [List.getD_cons_succ] at hcj
            have q0 := cell_below hcj HBW.out
            have q1 : wr.cell? ⟨g, j + 1, none⟩ = some (.string (bs (ws.getD j []))) := q0
            have HY := Lib.hid (HWB.out (ws.getD j []) (List.mem_cons_of_mem _ (by rw [List.getD_eq_getElem?_getD, List.getElem?_eq_getElem hjw]; exact List.getElem_mem hjw)))
            obtain ⟨y, hy⟩ : ∃ y, y = ws.getD j [] := ⟨_, rfl⟩
            rw [← hy] at q1 HY
            have HNM := Lib.hid (r15_number (bs y) wr (by rw [bs_size]; exact HY.out))
            rw [bs_list] at HNM
            have HYE := Lib.hid hy
            have HMJ : Hid (∀ W, Below w1.heap.size w1 W → W.cell? ⟨bm, j, none⟩ = some (.int .u64 ((most.getD j 0 : Nat) : Int))) := Lib.hid fun W hW => cell_below (cell_below (HMC.out j (by have := HKM.out; omega)) HB1.out) hW
            obtain ⟨mj, hmj⟩ : ∃ m, m = most.getD j 0 := ⟨_, rfl⟩
            rw [← hmj] at HMJ
            have HME := Lib.hid hmj
            have HBAD : Hid ((∀ x, numU y = some x → ¬ x ≤ mj) → o = none) := Lib.hid fun hx => by
              have := HI.out.bad (by rw [HWS.out, HKM.out]) hjw (by rw [← HYE.out, ← HME.out]; exact hx)
              rw [HON.out, this]
            generalize bs y = sy at *
            have hi1 : (j : Int) + 1 < (km : Int) + 1 := by omega
            have ht1 : ((j : Int) + 1).toNat = j + 1 := by omega
            clear hy hmj hjw q0 hcj
            cases hu : numU y with
            | none =>
              rw [hu] at HNM
              have hon := HBAD.out (fun x hx => by rw [hu] at hx; simp at hx)
              subst hon
              clear hu
              go_wp2_with fail
              refine HNM.out.mono ?_
              rintro e w2 ⟨rfl, hb⟩
              have HB2 := Lib.hid (HB1.out.trans ((HBW.out.trans (hb.mono HBW.out.size)).mono HB1.out.size))
              clear hb q1
              unfold ansU
              go_wp2
              go_ret2
              exact ⟨rfl, HB2.out⟩
            | some x =>
              rw [hu] at HNM
              by_cases hx : x ≤ mj
              · have HNX2 := Lib.hid (HI.out.next (by rw [HWS.out, HKM.out]) (by have := HWS.out; omega) (by rw [← HYE.out]; exact hu) (by rw [← HME.out]; exact hx))
                have hxm : decide (mj < x) = false := decide_eq_false (by omega)
                clear hu hx
                go_wp2_with fail
                refine HNM.out.mono ?_
                rintro e w2 ⟨rfl, hb⟩
                have HB2 := Lib.hid (HBW.out.trans (hb.mono HBW.out.size))
                have HO2 := Lib.hid (HOW.out.below hb)
                have qm := HMJ.out w2 HB2.out
                clear hb q1
                unfold ansU
                go_wp2_with (at_builtin; refine wpList_G KU rfl _ _ rfl ns rfl (some ⟨w2.heap.size, 0, none⟩) 1 1 [x] rfl rfl ?hb (HO2.out.below ((Below.refl _ w2).alloc (Nat.le_refl _) (.cells #[.int .u64 (x : Int)] 82))) (Src.one (heap_alloc_new w2 _)) ?_; (case hb => (have := HNL.out; omega)); intro v4 w4 h4; have H4 := Lib.hid h4; clear h4)
                go_roundw
                case rel => exact ⟨j + 1, ns ++ [x], by omega, by go_num, HNX2.out, by rw [List.length_append, HNL.out]; rfl, H4.out⟩
                case measure => simp [intOf]; omega
              · have hon := HBAD.out (fun y hy => by rw [hu] at hy; injection hy with hy; omega)
                subst hon
                have hxm : decide (mj < x) = true := decide_eq_true (by omega)
                clear hu hx
                go_wp2_with fail
                refine HNM.out.mono ?_
                rintro e w2 ⟨rfl, hb⟩
                have HB2 := Lib.hid (HBW.out.trans (hb.mono HBW.out.size))
                have qm := HMJ.out w2 HB2.out
                have HB3 := Lib.hid (HB1.out.trans (HB2.out.mono HB1.out.size))
                clear hb q1
                unfold ansU
                go_wp2
                go_ret2
                exact ⟨rfl, HB3.out⟩
          · obtain rfl : j = km := by omega
            have HOS : Hid (o = some ns) := Lib.hid (by
              have hI := HI.out
              unfold NumsI at hI
              rw [List.take_of_length_le (by have := HWS.out; omega), List.take_of_length_le (by have := HKM.out; omega)] at hI
              rw [HON.out, hI])
            have HF : Hid (∀ u, OwnG KU w1 wr u ns → NmQ w o (.returned (.tuple #[u, .bool true])) wr) := Lib.hid fun u hu => by
              rw [HOS.out]
              exact ⟨u, rfl, hu.from_ HB1.out⟩
            have HFF := Lib.hid (HF.out _ HOW.out)
            go_wp2
            go_ret2
            exact HFF.out
      · have HON : Hid (o = none) := Lib.hid (by rw [HO.out, if_neg (fun h => hx h.1)])
        have hlen : ((ws.length : Int) + 1 != (km : Int) + 1) = false := by rw [hn]; simp
        have hxs : (!(bs x).toList == (bs word).toList) = true := by rw [Lib.toList_data, Lib.toList_data, bs_list, bs_list]; simpa using hx
        rw [HON.out]
        clear hx
        generalize bs line = sl at *
        generalize bs word = sw at *
        go_enter Tryz.func58, Tryz.ntmps58
        go_wp2_with fail
        refine HSP.out.mono ?_
        rintro e w1 ⟨u, rfl, hO⟩
        have HB1 := Lib.hid hO.2.1
        obtain ⟨g, cap', rfl, hc0, -, -⟩ := hO.cell [] (j := 0) (by simp)
        have hc : w1.cell? ⟨g, 0, none⟩ = some (.string (bs x)) := hc0
        clear hO hc0
        simp only [List.length_cons]
        go_wp2
        go_ret2
        exact ⟨rfl, HB1.out⟩
    · have HON : Hid (o = none) := Lib.hid (by rw [HO.out, if_neg (fun h => hn h.2)])
      have hlen : ((ws.length : Int) + 1 != (km : Int) + 1) = true := by rw [bne_iff_ne]; omega
      rw [HON.out]
      generalize bs line = sl at *
      generalize bs word = sw at *
      go_enter Tryz.func58, Tryz.ntmps58
      go_wp2_with fail
      refine HSP.out.mono ?_
      rintro e w1 ⟨u, rfl, hO⟩
      have HB1 := Lib.hid hO.2.1
      obtain ⟨A, cap', rfl, -, -⟩ := hO.form
      clear hO
      simp only [List.length_cons]
      go_wp2
      go_ret2
      exact ⟨rfl, HB1.out⟩
end Go.Proofs.YtamgbfkpblpfiaaGreatDoor
