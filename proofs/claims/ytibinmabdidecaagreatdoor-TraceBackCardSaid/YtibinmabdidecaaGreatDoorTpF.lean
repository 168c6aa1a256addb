/-
  Package trace: the reader of lines, walked: peek, bad, next.
-/
import Derived.Test.YtibinmabdidecaaGreatDoorTpA
import Derived.Test.YtibinmabdidecaaGreatDoorErrG
import Derived.Test.YtibinmabdidecaaGreatDoorShelf
import Derived.WalkSpells
import Derived.WalkLawsBesides
import Derived.Test.YtibinmabdidecaaGreatDoorOwnG
import Derived.Test.YtibinmabdidecaaGreatDoorSeqG
import Derived.Test.YtibinmabdidecaaGreatDoorNum
import Derived.Test.YtibinmabdidecaaGreatDoorErrE
namespace Go.Proofs.YtibinmabdidecaaGreatDoor
open Go.ChangeShapes Go.WideShapes Go.ChangeAt Go.RowKit
set_option linter.unusedVariables false
set_option linter.unusedSimpArgs false
abbrev rdp (r : Nat) : Value := .pointer (some ⟨r, 0, none⟩)
/-- A reader: what is left, and the number of the next line. -/
def RdAt (w : World) (r : Nat) (rest : List UInt8) (n : Nat) : Prop := Blk w r 41 #[.string (bs rest), .int .i64 (n : Int)]
/-- The library's own variable holds a number. -/
def MaxL (w : World) : Prop := (∃ m : Int, w.cell? ⟨2, 0, none⟩ = some (.int .i64 m)) ∧ 2 < w.heap.size
theorem MaxL.chg {w w' : World} {S : Nat → Prop} (h : MaxL w) (hc : Chg S w w') (hn : ¬ S 2) : MaxL w' := by
  obtain ⟨⟨m, hm⟩, hl⟩ := h
  exact ⟨⟨m, by rw [World.cell?_of_block (w := w) (hc.block 2 hl hn)]; exact hm⟩, Nat.lt_of_lt_of_le hl hc.size⟩
theorem MaxL.below {w w' : World} (h : MaxL w) (hb : Below w.heap.size w w') : MaxL w' := h.chg (S := fun _ => False) (Chg.of_below hb) (fun h => h)
theorem bs_list (l : List UInt8) : (bs l).data.toList = l := by simp [bs]
theorem cut_some {l a b : List UInt8} (h : cutT l = some (a, b)) (hl : l.length ≤ 100000) {w : World} (hm : MaxL w) :
    Calls Tryz.prog 60 #[.string (bs l), .string ⟨#[10]⟩] w fun e w' => e = .returned (.tuple #[.string (bs a), .string (bs b), .bool true]) ∧ ∃ n, w' = w.drewN n := by
  obtain ⟨⟨m, hm⟩, -⟩ := hm
  refine (Tryz.strings_Cut (bs l) ⟨#[10]⟩ m w (by rw [bs_size]; omega) hm).mono ?_
  rintro e w' ⟨rfl, hw⟩
  refine ⟨?_, hw⟩
  have e1 : Lib.cut (bs l).data.toList (⟨#[10]⟩ : ByteArray).data.toList = (a, b, true) := by
    rw [bs_list]
    have := cut_cutT l
    rw [h] at this
    exact this
  rw [e1]
  rfl
theorem cut_none {l : List UInt8} (h : cutT l = none) (hl : l.length ≤ 100000) {w : World} (hm : MaxL w) :
    Calls Tryz.prog 60 #[.string (bs l), .string ⟨#[10]⟩] w fun e w' => e = .returned (.tuple #[.string (bs l), .string (bs []), .bool false]) ∧ ∃ n, w' = w.drewN n := by
  obtain ⟨⟨m, hm⟩, -⟩ := hm
  refine (Tryz.strings_Cut (bs l) ⟨#[10]⟩ m w (by rw [bs_size]; omega) hm).mono ?_
  rintro e w' ⟨rfl, hw⟩
  refine ⟨?_, hw⟩
  have e1 : Lib.cut (bs l).data.toList (⟨#[10]⟩ : ByteArray).data.toList = (l, [], false) := by
    rw [bs_list]
    have := cut_cutT l
    rw [h] at this
    exact this
  rw [e1]
  rfl
def strV (l : List UInt8) : Value := .string (bs l)
theorem split_ {l : List UInt8} (hl : l.length ≤ 100000) {w : World} (hm : MaxL w) :
    Calls Tryz.prog 75 #[.string (bs l), .string ⟨#[32]⟩] w fun e w' => e = .returned (.slice (some ⟨w.heap.size, 0, none⟩) (wordsT l).length (wordsT l).length) ∧ w' = w.alloc (.cells ((wordsT l).map strV).toArray 9) := by
  obtain ⟨⟨m, hm⟩, -⟩ := hm
  refine (Tryz.strings_Split (bs l) ⟨#[32]⟩ m w (by rw [bs_size]; omega) hm (by decide)).mono ?_
  rintro e w' ⟨rfl, hw⟩
  obtain ⟨h1, h2⟩ := splitB_words (bs l)
  rw [bs_list] at h1 h2
  have e1 : Lib.countB (bs l) ⟨#[32]⟩ + 1 = (wordsT l).length := h2
  have e2 : Lib.splitB ⟨#[32]⟩ 0 (Lib.countB (bs l) ⟨#[32]⟩) (bs l) = (wordsT l).map bs := h1
  refine ⟨by rw [e1], ?_⟩
  rw [hw, e2, List.map_map]
  rfl
/-- The first line; none: nothing. -/
def peekT (l : List UInt8) : List UInt8 := match cutT l with | some (a, _) => a | none => []
theorem peek_ {w : World} {r n : Nat} {rest : List UInt8} (h : RdAt w r rest n) (hm : MaxL w) (hl : rest.length ≤ 100000) :
    Calls Tryz.prog 39 #[rdp r] w fun e w' => e = .returned (.string (bs (peekT rest))) ∧ ∃ n, w' = w.drewN n := by
  have c0 : w.cell? ⟨r, 0, none⟩ = some (.string (bs rest)) := h.cell 0
  unfold peekT
  cases hc : cutT rest with
  | none =>
    have HC := Lib.hid (cut_none hc hl hm)
    have e : bs [] = ⟨#[]⟩ := rfl
    rw [e] at HC ⊢
    clear h hc e
    generalize bs rest = s at *
    go_enter Tryz.func39, Tryz.ntmps39
    go_wp2_with fail
    refine HC.out.mono ?_
    rintro e w1 ⟨rfl, k, rfl⟩
    go_wp2
    go_ret
    exact ⟨rfl, _, rfl⟩
  | some q =>
    obtain ⟨a, b⟩ := q
    have HC := Lib.hid (cut_some hc hl hm)
    clear h hc
    simp only
    generalize bs rest = s at *
    generalize bs a = sa at *
    generalize bs b = sb at *
    go_enter Tryz.func39, Tryz.ntmps39
    go_wp2_with fail
    refine HC.out.mono ?_
    rintro e w1 ⟨rfl, k, rfl⟩
    go_wp2
    go_ret
    exact ⟨rfl, _, rfl⟩
def BadR (w : World) (n : Nat) (e : Ending) (w' : World) : Prop := ∃ v, e = .returned v ∧ Bad w' 2 n v ∧ Below w.heap.size w w'
theorem bad_ {w : World} {r n : Nat} {rest : List UInt8} (h : RdAt w r rest n) : Calls Tryz.prog 40 #[rdp r] w (BadR w n) := by
  have c1 : w.cell? ⟨r, 1, none⟩ = some (.int .i64 (n : Int)) := h.cell 1
  have HN := Lib.hid (New_B 2 n (by decide) w)
  clear h
  go_enter Tryz.func40, Tryz.ntmps40
  go_wp2_with fail
  refine HN.out.mono ?_
  rintro e w1 ⟨v, rfl, hb, hw⟩
  have HF : Hid (BadR w n (.returned v) w1) := Lib.hid ⟨v, rfl, hb, hw⟩
  obtain ⟨x, rfl⟩ := hb.iface
  clear hb hw
  go_wp2
  go_ret
  exact HF.out
end Go.Proofs.YtibinmabdidecaaGreatDoor
/-
  Package trace: the reader's next, walked.
-/
namespace Go.Proofs.YtibinmabdidecaaGreatDoor
open Go.ChangeShapes Go.WideShapes Go.ChangeAt Go.RowKit
set_option linter.unusedVariables false
set_option linter.unusedSimpArgs false
/-- The words behind the first one of the next line, and what is behind it. -/
def nextT (word : List UInt8) (many : Nat) (rest : List UInt8) : Option (List (List UInt8) × List UInt8) := match cutT rest with
  | some (line, r) => (match wordsT line with
    | x :: ws => if x = word ∧ ws.length = many then some (ws, r) else none
    | [] => none)
  | none => none
/-- Words in memory. -/
def Wds (w : World) (b : Nat) (ws : List (List UInt8)) : Prop := ∀ j, j < ws.length → w.cell? ⟨b, 1 + j, none⟩ = some (strV (ws.getD j []))
def NextQ (w : World) (r n : Nat) (o : Option (List (List UInt8) × List UInt8)) (e : Ending) (w' : World) : Prop := match o with
  | some (ws, rest) => ∃ b, e = .returned (.tuple #[.slice (some ⟨b, 1, none⟩) ws.length ws.length, .nilIface]) ∧ Wds w' b ws ∧ RdAt w' r rest n ∧ Chg (fun k => k = r) w w' ∧ w.heap.size ≤ b ∧ b < w'.heap.size
  | none => ∃ v, e = .returned (.tuple #[.slice none 0 0, v]) ∧ Bad w' 2 n v ∧ Below w.heap.size w w'
theorem RdAt.below {w w' : World} {r n : Nat} {rest : List UInt8} (h : RdAt w r rest n) (hb : Below w.heap.size w w') : RdAt w' r rest n := Blk.below h hb h.lt
theorem bs_inj {a b : List UInt8} : bs a = bs b ↔ a = b := ⟨fun e => by rw [← bs_list a, ← bs_list b, e], fun e => by rw [e]⟩
set_option maxHeartbeats 2000000 in
theorem next_ {w : World} {r n : Nat} {rest : List UInt8} (h : RdAt w r rest n) (hm : MaxL w) (hl : rest.length ≤ 100000) (word : List UInt8) (many : Nat) (hmany : 1 ≤ many ∧ many ≤ 100) :
    Calls Tryz.prog 55 #[rdp r, .string (bs word), .int .i64 (many : Int)] w (NextQ w r n (nextT word many rest)) := by
  have c0 : w.cell? ⟨r, 0, none⟩ = some (.string (bs rest)) := h.cell 0
  obtain ⟨hm1, hm2⟩ := hmany
  unfold nextT
  cases hc : cutT rest with
  | none =>
    have HC := Lib.hid (cut_none hc hl hm)
    have HSP : Hid (∀ k, Calls Tryz.prog 75 #[.string (bs rest), .string ⟨#[32]⟩] (w.drewN k) fun e w' => e = .returned (.slice (some ⟨w.heap.size, 0, none⟩) (wordsT rest).length (wordsT rest).length) ∧ w' = (w.drewN k).alloc (.cells ((wordsT rest).map strV).toArray 9)) := Lib.hid fun k => split_ hl (hm.below (below_drewN (Below.refl _ _) k))
    have HBD : Hid (∀ k c, Calls Tryz.prog 40 #[rdp r] ((w.drewN k).alloc c) (BadR ((w.drewN k).alloc c) n)) := Lib.hid fun k c => bad_ (h.below ((below_drewN (Below.refl _ w) k).alloc (Nat.le_refl _) c))
    have HW : Hid (∀ k c, Below w.heap.size w ((w.drewN k).alloc c)) := Lib.hid fun k c => (below_drewN (Below.refl _ w) k).alloc (Nat.le_refl _) c
    clear h hc hm
    generalize (wordsT rest).length = m at *
    generalize ((wordsT rest).map strV).toArray = cs at *
    generalize bs rest = s at *
    go_enter Tryz.func55, Tryz.ntmps55
    go_wp2_with fail
    refine HC.out.mono ?_
    rintro e w1 ⟨rfl, k, rfl⟩
    go_wp2_with fail
    refine (HSP.out k).mono ?_
    rintro e w2 ⟨rfl, rfl⟩
    go_wp2_with fail
    refine (HBD.out k _).mono ?_
    rintro e w3 ⟨v, rfl, hb, hw⟩
    have HF : Hid (NextQ w r n none (.returned (.tuple #[.slice none 0 0, v])) w3) := Lib.hid ⟨v, rfl, hb, (HW.out k _).trans (hw.mono (HW.out k _).size)⟩
    clear hb hw
    go_wp2
    go_ret2
    exact HF.out
  | some q =>
    obtain ⟨line, r'⟩ := q
    have hll : line.length ≤ 100000 := by have := cutT_len hc; omega
    have HC := Lib.hid (cut_some hc hl hm)
    have HSP : Hid (∀ k, Calls Tryz.prog 75 #[.string (bs line), .string ⟨#[32]⟩] (w.drewN k) fun e w' => e = .returned (.slice (some ⟨w.heap.size, 0, none⟩) (wordsT line).length (wordsT line).length) ∧ w' = (w.drewN k).alloc (.cells ((wordsT line).map strV).toArray 9)) := Lib.hid fun k => split_ hll (hm.below (below_drewN (Below.refl _ _) k))
    have HBD : Hid (∀ k c, Calls Tryz.prog 40 #[rdp r] ((w.drewN k).alloc c) (BadR ((w.drewN k).alloc c) n)) := Lib.hid fun k c => bad_ (h.below ((below_drewN (Below.refl _ w) k).alloc (Nat.le_refl _) c))
    have HW : Hid (∀ k c, Below w.heap.size w ((w.drewN k).alloc c)) := Lib.hid fun k c => (below_drewN (Below.refl _ w) k).alloc (Nat.le_refl _) c
    have HR : Hid (∀ k c, RdAt ((w.drewN k).alloc c) r rest n) := Lib.hid fun k c => h.below ((below_drewN (Below.refl _ w) k).alloc (Nat.le_refl _) c)
    have HLT := Lib.hid h.lt
    simp only
    cases hw : wordsT line with
    | nil => exact absurd hw (wordsT_ne line)
    | cons x ws =>
      rw [hw] at HSP
      simp only [List.length_cons] at HSP
      simp only
      have HCS : Hid (∀ k j, j < ws.length + 1 → ((w.drewN k).alloc (.cells ((x :: ws).map strV).toArray 9)).cell? ⟨w.heap.size, j, none⟩ = some (strV ((x :: ws).getD j []))) := Lib.hid fun k j hj => by
        have hB := Blk.new (w.drewN k) 9 ((x :: ws).map strV).toArray
        have := hB.cell j
        rw [show (w.drewN k).heap.size = w.heap.size from rfl] at this
        rw [this]
        rw [List.getElem?_toArray, List.getElem?_map, List.getD_eq_getElem?_getD, List.getElem?_eq_getElem (by simpa using hj)]
        rfl
      have HWS : Hid (∃ m, m = ws.length) := Lib.hid ⟨_, rfl⟩
      by_cases hn : ws.length = many
      · by_cases hx : x = word
        · rw [if_pos ⟨hx, hn⟩]
          have hlen : ((ws.length : Int) + 1 != (many : Int) + 1) = false := by rw [hn]; simp
          have hxs : (!(bs x).toList == (bs word).toList) = false := by rw [hx]; simp
          have hx0 : ∀ k, ((w.drewN k).alloc (.cells ((x :: ws).map strV).toArray 9)).cell? ⟨w.heap.size, 0, none⟩ = some (.string (bs x)) := fun k => HCS.out k 0 (by omega)
          have HX0 := Lib.hid hx0
          have HF : Hid (∀ k, NextQ w r n (some (ws, r')) (.returned (.tuple #[.slice (some ⟨w.heap.size, 1, none⟩) many many, .nilIface])) (((w.drewN k).alloc (.cells ((x :: ws).map strV).toArray 9)).setCell ⟨r, 0, none⟩ (.string (bs r')))) := Lib.hid fun k => by
            have hlt := HLT.out
            have hB := HR.out k (.cells ((x :: ws).map strV).toArray 9)
            refine ⟨w.heap.size, by rw [hn], fun j hj => ?_, ?_, ?_, Nat.le_refl _, by simp [World.setCell]⟩
            · have hc := HCS.out k (1 + j) (by omega)
              have hne : w.heap.size ≠ r := by omega
              have hd : (((w.drewN k).alloc (.cells ((x :: ws).map strV).toArray 9)).setCell ⟨r, 0, none⟩ (.string (bs r'))).heap[w.heap.size]? = ((w.drewN k).alloc (.cells ((x :: ws).map strV).toArray 9)).heap[w.heap.size]? := Below.heap_setCell _ _ _ _ hne
              rw [World.cell?_of_block hd, hc, Nat.add_comm 1 j, List.getD_cons_succ]
            · have := Blk.set_ hB 0 (.string (bs r'))
              exact this
            · exact (Chg.of_below (S := fun k => k = r) (HW.out k _)).trans ((Chg.refl (fun k => k = r) _).setCell (p := ⟨r, 0, none⟩) (.inl rfl) _) (fun i hi => .inl hi)
          have HRF : Hid (∀ k c, ((w.drewN k).alloc c).cell? ⟨r, 0, none⟩ = some (.string (bs rest)) ∧ ((w.drewN k).alloc c).frozen? ⟨r, 0, none⟩ = false) := Lib.hid fun k c => ⟨(HR.out k c).cell 0, (HR.out k c).frozen 0⟩
          clear h hc hm hw hx hx0
          generalize hcs : ((x :: ws).map strV).toArray = cs at *
          generalize bs rest = s at *
          generalize bs word = sw at *
          generalize bs x = sx at *
          clear hcs
          go_enter Tryz.func55, Tryz.ntmps55
          go_wp2_with fail
          refine HC.out.mono ?_
          rintro e w1 ⟨rfl, k, rfl⟩
          go_wp2_with fail
          refine (HSP.out k).mono ?_
          rintro e w2 ⟨rfl, rfl⟩
          have hx1 := HX0.out k
          obtain ⟨hr1, hr2⟩ := HRF.out k (.cells cs 9)
          go_wp2
          go_ret2
          exact HF.out k
        · rw [if_neg (fun h => hx h.1)]
          have hlen : ((ws.length : Int) + 1 != (many : Int) + 1) = false := by rw [hn]; simp
          have hxs : (!(bs x).toList == (bs word).toList) = true := by rw [Lib.toList_data, Lib.toList_data, bs_list, bs_list]; simpa using hx
          have hx0 : ∀ k, ((w.drewN k).alloc (.cells ((x :: ws).map strV).toArray 9)).cell? ⟨w.heap.size, 0, none⟩ = some (.string (bs x)) := fun k => HCS.out k 0 (by omega)
          have HX0 := Lib.hid hx0
          clear h hc hm hw hx hx0
          generalize hcs : ((x :: ws).map strV).toArray = cs at *
          generalize bs rest = s at *
          generalize bs word = sw at *
          generalize bs x = sx at *
          clear hcs
          go_enter Tryz.func55, Tryz.ntmps55
          go_wp2_with fail
          refine HC.out.mono ?_
          rintro e w1 ⟨rfl, k, rfl⟩
          go_wp2_with fail
          refine (HSP.out k).mono ?_
          rintro e w2 ⟨rfl, rfl⟩
          have hx1 := HX0.out k
          go_wp2_with fail
          refine (HBD.out k _).mono ?_
          rintro e w3 ⟨v, rfl, hb, hw⟩
          have HF : Hid (NextQ w r n none (.returned (.tuple #[.slice none 0 0, v])) w3) := Lib.hid ⟨v, rfl, hb, (HW.out k _).trans (hw.mono (HW.out k _).size)⟩
          clear hb hw
          go_wp2
          go_ret2
          exact HF.out
      · rw [if_neg (fun h => hn h.2)]
        have hlen : ((ws.length : Int) + 1 != (many : Int) + 1) = true := by rw [bne_iff_ne]; omega
        generalize hcs : ((x :: ws).map strV).toArray = cs at *
        clear h hc hm hw hcs
        generalize bs rest = s at *
        generalize bs word = sw at *
        go_enter Tryz.func55, Tryz.ntmps55
        go_wp2_with fail
        refine HC.out.mono ?_
        rintro e w1 ⟨rfl, k, rfl⟩
        go_wp2_with fail
        refine (HSP.out k).mono ?_
        rintro e w2 ⟨rfl, rfl⟩
        go_wp2_with fail
        refine (HBD.out k _).mono ?_
        rintro e w3 ⟨v, rfl, hb, hw⟩
        have HF : Hid (NextQ w r n none (.returned (.tuple #[.slice none 0 0, v])) w3) := Lib.hid ⟨v, rfl, hb, (HW.out k _).trans (hw.mono (HW.out k _).size)⟩
        clear hb hw
        go_wp2
        go_ret2
        exact HF.out
end Go.Proofs.YtibinmabdidecaaGreatDoor
/-
  Package trace: the reader's numbers, walked.
-/
namespace Go.Proofs.YtibinmabdidecaaGreatDoor
open Go.ChangeShapes Go.WideShapes Go.ChangeAt Go.RowKit
set_option linter.unusedVariables false
set_option linter.unusedSimpArgs false
theorem infoU64 : (Tryz.prog.info? 57).map (fun i => (i.zero, i.size, i.bytes)) = some (some (.int .u64 0), 1, 8) := by kernel_rfl
/-- Numbers without a sign, in a list of the call's own. -/
def KU : Knd Nat := ⟨57, 54, fun n => .int .u64 (n : Int), .int .u64 0, 8, fun _ => rfl, Tryz.underlying54, infoU64, rfl, by decide⟩
theorem numsP_snoc : ∀ {a : List (List UInt8)} {b : List Nat} (x : List UInt8) (m : Nat), a.length = b.length → numsP (a ++ [x]) (b ++ [m]) = match numsP a b with | some l => (match numU x with | some n => if n ≤ m then some (l ++ [n]) else none | none => none) | none => none
  | [], [], x, m, _ => by
    simp only [List.nil_append, numsP]
    cases numU x with
    | none => rfl
    | some n => rfl
  | [], _ :: _, _, _, h => by simp at h
  | _ :: _, [], _, _, h => by simp at h
  | a :: as', b :: bs', x, m, h => by
    rw [List.cons_append, List.cons_append, numsP, numsP, numsP_snoc x m (by simpa using h)]
    cases numU a with
    | none => rfl
    | some k =>
      simp only
      by_cases hk : k ≤ b
      · rw [if_pos hk, if_pos hk]
        cases numsP as' bs' with
        | none => rfl
        | some l =>
          simp only
          cases numU x with
          | none => rfl
          | some n =>
            simp only
            by_cases hn : n ≤ m
            · rw [if_pos hn, if_pos hn]
              rfl
            · rw [if_neg hn, if_neg hn]
      · rw [if_neg hk, if_neg hk]
theorem numsP_none : ∀ {a : List (List UInt8)} {b : List Nat} (c : List (List UInt8)) (d : List Nat), a.length = b.length → numsP a b = none → numsP (a ++ c) (b ++ d) = none
  | [], [], c, d, _, h => by simp [numsP] at h
  | [], _ :: _, _, _, h, _ => by simp at h
  | _ :: _, [], _, _, h, _ => by simp at h
  | a :: as', b :: bs', c, d, h, hn => by
    rw [List.cons_append, List.cons_append, numsP]
    rw [numsP] at hn
    cases hu : numU a with
    | none => rfl
    | some k =>
      rw [hu] at hn
      simp only at hn ⊢
      by_cases hk : k ≤ b
      · rw [if_pos hk] at hn ⊢
        cases hp : numsP as' bs' with
        | none => rw [numsP_none c d (by simpa using h) hp]
        | some l => rw [hp] at hn; simp at hn
      · rw [if_neg hk]
/-- The numbers of the next line, and what is behind it. -/
def numsR (word : List UInt8) (most : List Nat) (rest : List UInt8) : Option (List Nat × List UInt8) := match nextT word most.length rest with
  | some (ws, r) => (match numsP ws most with | some l => some (l, r) | none => none)
  | none => none
theorem numsR_eq (word : List UInt8) (most : List Nat) (rest : List UInt8) : numsR word most rest = match cutT rest with | some (line, r) => (match numsT word most line with | some l => some (l, r) | none => none) | none => none := by
  unfold numsR nextT numsT
  cases cutT rest with
  | none => rfl
  | some q =>
    obtain ⟨line, r⟩ := q
    simp only
    cases wordsT line with
    | nil => rfl
    | cons x ws =>
      simp only
      by_cases hc : x = word ∧ ws.length = most.length
      · rw [if_pos hc, if_pos hc]
      · rw [if_neg hc, if_neg hc]
/-- What stands before word j. -/
def NumsI (ws : List (List UInt8)) (most : List Nat) (j : Nat) (ns : List Nat) : Prop := numsP (ws.take j) (most.take j) = some ns
theorem take_snocG {α : Type} (d : α) {l : List α} {j : Nat} (h : j < l.length) : l.take (j + 1) = l.take j ++ [l.getD j d] := by
  rw [List.take_add_one, List.getElem?_eq_getElem h]
  simp [List.getD, h]
theorem NumsI.next {ws : List (List UInt8)} {most : List Nat} {j : Nat} {ns : List Nat} (h : NumsI ws most j ns) (hl : ws.length = most.length) (hj : j < ws.length) {x : Nat} (hx : numU (ws.getD j []) = some x) (hm : x ≤ most.getD j 0) : NumsI ws most (j + 1) (ns ++ [x]) := by
  unfold NumsI at h ⊢
  rw [take_snocG [] hj, take_snocG 0 (by omega), numsP_snoc _ _ (by rw [List.length_take, List.length_take]; omega), h]
  simp only
  rw [hx]
  simp only
  rw [if_pos hm]
theorem NumsI.bad {ws : List (List UInt8)} {most : List Nat} {j : Nat} {ns : List Nat} (h : NumsI ws most j ns) (hl : ws.length = most.length) (hj : j < ws.length) (hx : ∀ x, numU (ws.getD j []) = some x → ¬ x ≤ most.getD j 0) : numsP ws most = none := by
  have e1 : ws = ws.take (j + 1) ++ ws.drop (j + 1) := (List.take_append_drop _ _).symm
  have e2 : most = most.take (j + 1) ++ most.drop (j + 1) := (List.take_append_drop _ _).symm
  rw [e1, e2]
  refine numsP_none _ _ (by rw [List.length_take, List.length_take]; omega) ?_
  rw [take_snocG [] hj, take_snocG 0 (by omega), numsP_snoc _ _ (by rw [List.length_take, List.length_take]; omega), h]
  simp only
  cases hn : numU (ws.getD j []) with
  | none => rfl
  | some x => simp only; rw [if_neg (hx x hn)]
theorem word_len : ∀ {ws : List (List UInt8)} {x : List UInt8}, ∀ y ∈ x :: ws, y.length ≤ (joinT x ws).length
  | [], x, y, h => by
    simp at h
    subst h
    simp [joinT]
  | z :: ws, x, y, h => by
    have e : joinT x (z :: ws) = x ++ 32 :: joinT z ws := by unfold joinT; simp
    rw [e, List.length_append, List.length_cons]
    rcases List.mem_cons.1 h with rfl | h
    · omega
    · have := word_len y h
      omega
theorem nextT_parts {word : List UInt8} {many : Nat} {rest r : List UInt8} {ws : List (List UInt8)} (h : nextT word many rest = some (ws, r)) : ws.length = many ∧ (∀ y ∈ ws, y.length ≤ rest.length) ∧ r.length ≤ rest.length := by
  unfold nextT at h
  cases hc : cutT rest with
  | none => rw [hc] at h; simp at h
  | some q =>
    obtain ⟨line, r'⟩ := q
    rw [hc] at h
    simp only at h
    have hl := cutT_len hc
    cases hw : wordsT line with
    | nil => rw [hw] at h; simp at h
    | cons x xs =>
      rw [hw] at h
      simp only at h
      split at h
      · rename_i hx
        injection h with h
        injection h with h1 h2
        subst h1 h2
        obtain ⟨e, -, -⟩ := joinT_words hw
        refine ⟨hx.2, fun y hy => ?_, by omega⟩
        have := word_len (x := x) y (List.mem_cons_of_mem _ hy)
        rw [← e] at this
        omega
      · simp at h
/-- Numbers in a list that the call made. -/
def NumsL (w w' : World) (u : Value) (ns : List Nat) : Prop := Row w' 57 1 u ns.length (ns.map KU.enc) ∧ ∀ g, u.ownBlock = some g → w.heap.size ≤ g
def NumsQ (w : World) (r n : Nat) (o : Option (List Nat × List UInt8)) (e : Ending) (w' : World) : Prop := Chg (fun k => k = r) w w' ∧ match o with
  | some (ns, rest) => ∃ u, e = .returned (.tuple #[u, .nilIface]) ∧ NumsL w w' u ns ∧ RdAt w' r rest (n + 1)
  | none => ∃ v, e = .returned (.tuple #[.slice none 0 0, v]) ∧ Bad w' 2 n v
set_option maxHeartbeats 4000000 in
theorem numbers_ {w : World} {r n : Nat} {rest : List UInt8} (h : RdAt w r rest n) (hm : MaxL w) (hL : Laid w) (hr : r ≠ 0) (hl : rest.length ≤ 100000) (hn : n ≤ 100000) (word : List UInt8) (most : List Nat) {bm cap : Nat} (hml : 1 ≤ most.length ∧ most.length ≤ 100)
    (hmc : ∀ j, j < most.length → w.cell? ⟨bm, j, none⟩ = some (.int .u64 ((most.getD j 0 : Nat) : Int))) (hbm : bm ≠ r) :
    Calls Tryz.prog 35 #[rdp r, .string (bs word), .slice (some ⟨bm, 0, none⟩) most.length cap] w (NumsQ w r n (numsR word most rest)) := by
  have HNX := Lib.hid (next_ h hm hl word most.length hml)
  have HMC := Lib.hid hmc
  have HL := Lib.hid hL
  have HRD := Lib.hid h
  have HR0 := Lib.hid hr
  have HBM := Lib.hid hbm
  have HLEN := Lib.hid hl
  obtain ⟨km, hkm⟩ : ∃ k, k = most.length := ⟨_, rfl⟩
  rw [← hkm] at hml HNX ⊢
  have HKM := Lib.hid hkm
  obtain ⟨hm1, hm2⟩ := hml
  cases ho : nextT word most.length rest with
  | none =>
    have HO : Hid (numsR word most rest = none) := Lib.hid (by unfold numsR; rw [ho])
    rw [hkm, ho] at HNX
    rw [← hkm] at HNX
    clear h hm hL hr hmc hbm hkm hl ho
    rw [HO.out]
    generalize bs word = sw at *
    go_enter Tryz.func35, Tryz.ntmps35
    go_wp2_with fail
    refine HNX.out.mono ?_
    rintro e w1 ⟨v, rfl, hb, hw⟩
    obtain ⟨x, rfl⟩ := hb.iface
    have c1 : w1.cell? ⟨r, 1, none⟩ = some (.int .i64 (n : Int)) := (HRD.out.below hw).cell 1
    have HW := Lib.hid (Wrap_B (HL.out.below hw) hb (n : Int))
    have HB := Lib.hid hw
    clear hb hw
    go_wp2_with fail
    refine HW.out.mono ?_
    rintro e w2 ⟨u, rfl, hb, hw⟩
    have HF : Hid (NumsQ w r n none (.returned (.tuple #[.slice none 0 0, u])) w2) := Lib.hid ⟨Chg.of_below (HB.out.trans (hw.mono HB.out.size)), u, rfl, hb⟩
    clear hb hw c1
    go_wp2
    go_ret2
    exact HF.out
  | some q =>
    obtain ⟨ws, r'⟩ := q
    obtain ⟨hwl, hwy, hrl⟩ := nextT_parts ho
    have HO : Hid (numsR word most rest = match numsP ws most with | some l => some (l, r') | none => none) := Lib.hid (by unfold numsR; rw [ho])
    rw [hkm, ho] at HNX
    rw [← hkm] at HNX
    have HWL := Lib.hid hwl
    have HWY := Lib.hid hwy
    clear h hm hL hr hmc hbm hl ho
    obtain ⟨o, hoo⟩ : ∃ o, o = numsR word most rest := ⟨_, rfl⟩
    have HOO := Lib.hid hoo
    rw [← hoo]
    generalize bs word = sw at *
    clear hoo hkm hwl hwy hrl
    go_enter Tryz.func35, Tryz.ntmps35
    go_wp2_with fail
    refine HNX.out.mono ?_
    rintro e w1 ⟨b, rfl, hwd, hrd, hch, hb1, hb2⟩
    have hws : ws.length = km := by rw [HWL.out, HKM.out]
    rw [hws]
    have HWS := Lib.hid hws
    have HWD := Lib.hid hwd
    have HRD1 := Lib.hid hrd
    have HCH := Lib.hid hch
    have HBR : Hid (r < w.heap.size) := Lib.hid HRD.out.lt
    clear hwd hrd hch hws
    go_wp2
    go_loopw [6, 9, 10, 11, 12, 31] (fun u _ _ _ _ c wr => ∃ j : Nat, ∃ ns, j ≤ km ∧ c = .int .i64 j ∧ NumsI ws most j ns ∧ ns.length = j ∧ OwnG KU w1 wr u ns) (fun _ _ _ _ _ c _ => km - (intOf c).toNat)
    case atStart => exact ⟨0, [], Nat.zero_le _, rfl, by unfold NumsI; rfl, rfl, OwnG.start KU w1⟩
    case round =>
      obtain ⟨j, ns, hj, rfl, hI, hnl, hO⟩ := hrel
      have HI := Lib.hid hI
      have HOW := Lib.hid hO
      have HNL := Lib.hid hnl
      have HBW := Lib.hid hO.2.1
      clear hI hO hnl
      by_cases hlt : (j : Int) < (km : Int)
      · have hjw : j < ws.length := by have := HWS.out; omega
        have q0 := cell_below (HWD.out j hjw) HBW.out
        unfold strV at q0
        have HY := Lib.hid (HWY.out (ws.getD j []) (by rw [List.getD_eq_getElem?_getD, List.getElem?_eq_getElem hjw]; exact List.getElem_mem hjw))
        obtain ⟨y, hy⟩ : ∃ y, y = ws.getD j [] := ⟨_, rfl⟩
        rw [← hy] at q0 HY
        have HNM := Lib.hid (number_of (bs y) wr (by rw [bs_size]; have := HY.out; have := HLEN.out; omega))
        rw [bs_list] at HNM
        have HYE := Lib.hid hy
        have HMJ : Hid (∀ W, Below w1.heap.size w1 W → W.cell? ⟨bm, j, none⟩ = some (.int .u64 ((most.getD j 0 : Nat) : Int))) := Lib.hid fun W hW => by
          have h1 := HMC.out j (by have := HKM.out; omega)
          have hlt1 := World.block_lt_of_cell? w _ h1
          have h2 : w1.cell? ⟨bm, j, none⟩ = some (.int .u64 ((most.getD j 0 : Nat) : Int)) := by
            rw [World.cell?_of_block (w := w) (HCH.out.block bm hlt1 HBM.out)]; exact h1
          exact cell_below h2 hW
        obtain ⟨mj, hmj⟩ : ∃ m, m = most.getD j 0 := ⟨_, rfl⟩
        rw [← hmj] at HMJ
        have HME := Lib.hid hmj
        have HBAD : Hid ((∀ x, numU y = some x → ¬ x ≤ mj) → o = none) := Lib.hid fun hx => by
          have := HI.out.bad (by rw [HWL.out]) hjw (by rw [← HYE.out, ← HME.out]; exact hx)
          rw [HOO.out, HO.out, this]
        generalize bs y = sy at *
        clear hy hmj hjw
        cases hu : numU y with
        | none =>
          rw [hu] at HNM
          have hon := HBAD.out (fun x hx => by rw [hu] at hx; simp at hx)
          subst hon
          clear hu
          go_wp2_with fail
          refine HNM.out.mono ?_
          rintro e w2 ⟨rfl, hb⟩
          have HB2 := Lib.hid (HBW.out.trans (hb.mono HBW.out.size))
          have HBD := Lib.hid (bad_ (HRD1.out.below HB2.out))
          clear hb q0
          unfold ansU
          go_wp2_with fail
          refine HBD.out.mono ?_
          rintro e w3 ⟨v, rfl, hb, hw⟩
          have HF : Hid (NumsQ w r n none (.returned (.tuple #[.slice none 0 0, v])) w3) := Lib.hid ⟨HCH.out.trans (Chg.of_below (S := fun k => k = r) (HB2.out.trans (hw.mono HB2.out.size))) (fun i hi => .inl hi), v, rfl, hb⟩
          clear hb hw
          go_wp2
          go_ret2
          exact HF.out
        | some x =>
          rw [hu] at HNM
          by_cases hx : x ≤ mj
          · have HNX2 := Lib.hid (HI.out.next (by rw [HWL.out]) (by have := HWS.out; omega) (by rw [← HYE.out]; exact hu) (by rw [← HME.out]; exact hx))
            have hxm : decide (mj < x) = false := decide_eq_false (by omega)
            clear hu hx
            go_wp2_with fail
            refine HNM.out.mono ?_
            rintro e w2 ⟨rfl, hb⟩
            have HB2 := Lib.hid (HBW.out.trans (hb.mono HBW.out.size))
            have HO2 := Lib.hid (HOW.out.below hb)
            have qm := HMJ.out w2 HB2.out
            clear hb q0
            unfold ansU
            go_wp2_with (at_builtin; refine wpList_G KU rfl _ _ rfl ns rfl (some ⟨w2.heap.size, 0, none⟩) 1 1 [x] rfl rfl ?hb (HO2.out.below ((Below.refl _ w2).alloc (Nat.le_refl _) (.cells #[.int .u64 (x : Int)] 57))) (Src.one (heap_alloc_new w2 _)) ?_; (case hb => (have := HNL.out; omega)); intro v4 w4 h4; have H4 := Lib.hid h4; clear h4)
            go_roundw
            case rel => exact ⟨j + 1, ns ++ [x], by omega, by go_num, HNX2.out, by rw [List.length_append, HNL.out]; rfl, H4.out⟩
            case measure => simp [intOf]; omega
          · have hon := HBAD.out (fun y hy => by rw [hu] at hy; injection hy with hy; omega)
            subst hon
            have hxm : decide (mj < x) = true := decide_eq_true (by omega)
            clear hu hx
            go_wp2_with fail
            refine HNM.out.mono ?_
            rintro e w2 ⟨rfl, hb⟩
            have HB2 := Lib.hid (HBW.out.trans (hb.mono HBW.out.size))
            have HBD := Lib.hid (bad_ (HRD1.out.below HB2.out))
            have qm := HMJ.out w2 HB2.out
            clear hb q0
            unfold ansU
            go_wp2_with fail
            refine HBD.out.mono ?_
            rintro e w3 ⟨v, rfl, hb, hw⟩
            have HF : Hid (NumsQ w r n none (.returned (.tuple #[.slice none 0 0, v])) w3) := Lib.hid ⟨HCH.out.trans (Chg.of_below (S := fun k => k = r) (HB2.out.trans (hw.mono HB2.out.size))) (fun i hi => .inl hi), v, rfl, hb⟩
            clear hb hw
            go_wp2
            go_ret2
            exact HF.out
      · obtain rfl : j = km := by omega
        have HOS : Hid (o = some (ns, r')) := Lib.hid (by
          have hI := HI.out
          unfold NumsI at hI
          rw [List.take_of_length_le (by have := HWS.out; omega), List.take_of_length_le (by have := HKM.out; omega)] at hI
          rw [HOO.out, HO.out, hI])
        have hRw := HRD1.out.below HBW.out
        have c1 : wr.cell? ⟨r, 1, none⟩ = some (.int .i64 (n : Int)) := hRw.cell 1
        have f1 := hRw.frozen 1
        have HF : Hid (∀ u, OwnG KU w1 wr u ns → NumsQ w r n o (.returned (.tuple #[u, .nilIface])) (wr.setCell ⟨r, 1, none⟩ (.int .i64 ((n : Int) + 1)))) := Lib.hid fun u hu => by
          rw [HOS.out]
          have hlt := HBR.out
          have hs := HCH.out.size
          have hc : Chg (fun k => k = r) wr (wr.setCell ⟨r, 1, none⟩ (.int .i64 ((n : Int) + 1))) := (Chg.refl (fun k => k = r) wr).setCell (p := ⟨r, 1, none⟩) (.inl rfl) _
          refine ⟨(HCH.out.trans (Chg.of_below (S := fun k => k = r) HBW.out) (fun i hi => .inl hi)).trans hc (fun i hi => .inl hi), u, rfl, ⟨hu.1.chg hc (fun g hg e => ?_), fun g hg => ?_⟩, ?_⟩
          · have := hu.2.2 g hg
            omega
          · have := hu.2.2 g hg
            omega
          · have := hRw.set_ 1 (.int .i64 ((n : Int) + 1))
            have e : ((n : Int) + 1) = ((n + 1 : Nat) : Int) := by omega
            rw [e] at this ⊢
            exact this
        have HFF := Lib.hid (HF.out _ HOW.out)
        clear hRw
        go_wp2
        go_ret2
        exact HFF.out
end Go.Proofs.YtibinmabdidecaaGreatDoor
