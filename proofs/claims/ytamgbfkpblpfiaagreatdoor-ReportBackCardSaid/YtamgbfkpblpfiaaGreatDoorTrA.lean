/-
  Package trace: a line into the printer.
-/
import Derived.Test.YtamgbfkpblpfiaaGreatDoorSeqG
import Derived.Test.YtamgbfkpblpfiaaGreatDoorFmtU
import Derived.Test.YtamgbfkpblpfiaaGreatDoorBuildP
import Derived.Test.YtamgbfkpblpfiaaGreatDoorShelf
namespace Go.Proofs.YtamgbfkpblpfiaaGreatDoor
open Go.ChangeShapes Go.WideShapes Go.ChangeAt Go.RowKit
set_option linter.unusedVariables false
def wordT (l : List UInt8) : List UInt8 := 32 :: l
def lineT (word : List UInt8) (ls : List (List UInt8)) : List UInt8 := word ++ ls.flatMap wordT ++ [10]
theorem Bd.str {B b : Nat} {l : List UInt8} {w : World} (h : Bd B b l w) (m : List UInt8) (hlen : l.length + m.length ≤ 140737488355328) (hBw : B ≤ w.heap.size) :
    Calls Tryz.prog 34 #[.pointer (some ⟨b, 0, none⟩), .string (bs m)] w fun e w' => e = .returned (.tuple #[.int .i64 m.length, .nilIface]) ∧ Bd B b (l ++ m) w' ∧ Below B w w' ∧ Keep w w' := h.write m hlen hBw
theorem words_len {ls : List (List UInt8)} (h : ∀ k, k < ls.length → (ls.getD k []).length ≤ 5000) : ∀ k, k ≤ ls.length → ((ls.take k).flatMap wordT).length ≤ k * 5001
  | 0, _ => by simp
  | k + 1, hk => by
    rw [flat_step wordT [] (by omega), List.length_append, Nat.succ_mul]
    have := words_len h k (by omega)
    have h2 := h k (by omega)
    simp only [wordT, List.length_cons]
    omega
/-- Before the k-th word. -/
def LineRel (B b : Nat) (pre : List UInt8) (ls : List (List UInt8)) (w : World) (k : Nat) (wr : World) : Prop := Bd B b (pre ++ (ls.take k).flatMap wordT) wr ∧ Below B w wr ∧ Keep w wr
def LinePost (B b : Nat) (l : List UInt8) (w : World) (e : Ending) (w' : World) : Prop := e = .returned (.tuple #[]) ∧ Bd B b l w' ∧ Below B w w' ∧ Keep w w'
set_option maxHeartbeats 2000000 in
theorem line_ {B b : Nat} {l : List UInt8} {w : World} (h : Bd B b l w) (hBw : B ≤ w.heap.size) (word : List UInt8) (ls : List (List UInt8)) (q : Nat) (hq : Blk w q 9 (strsA ls)) (n c : Nat) (hn : n = ls.length)
    (hw : word.length ≤ 100) (hc : n ≤ 100) (hl : ∀ k, k < ls.length → (ls.getD k []).length ≤ 5000) (hlen : l.length ≤ 1000000000000) :
    Calls Tryz.prog 70 #[.pointer (some ⟨b, 0, none⟩), .string (bs word), .slice (some ⟨q, 0, none⟩) n c] w (LinePost B b (l ++ lineT word ls) w) := by
  have HW := Lib.hid (h.str word (by omega) hBw)
  have HLN := Lib.hid (words_len hl)
  have HL := Lib.hid hl
  have HQ := Lib.hid hq
  have HN := Lib.hid hn
  generalize bs word = wd at *
  clear h hl hq hn
  go_enter Tryz.func70, Tryz.ntmps70
  go_wp2_with fail
  refine HW.out.mono ?_
  rintro e w1 ⟨rfl, hd1, hb1, hk1⟩
  have H1 : Hid (LineRel B b (l ++ word) ls w 0 w1) := Lib.hid ⟨by simpa using hd1, hb1, hk1⟩
  clear hd1 hb1 hk1
  go_wp2
  go_loopw [15] (fun i wr => ∃ k : Nat, k ≤ n ∧ i = .int .i64 k ∧ LineRel B b (l ++ word) ls w k wr) (fun i _ => n - (intOf i).toNat)
  case atStart => exact ⟨0, Nat.zero_le _, rfl, H1.out⟩
  case round =>
    obtain ⟨k, hk, rfl, hr⟩ := hrel
    obtain ⟨hd, hb, hkp⟩ := hr
    have hle := HLN.out k (by have := HN.out; omega)
    have hBr : B ≤ wr.heap.size := Nat.le_trans hBw hb.size
    have hpl : (l ++ word ++ (ls.take k).flatMap wordT).length ≤ 2000000000000 := by
      rw [List.length_append, List.length_append]
      have : k * 5001 ≤ 100 * 5001 := Nat.mul_le_mul_right _ (by omega)
      omega
    by_cases hlt : (k : Int) < (n : Int)
    · have hkn : k < ls.length := by have := HN.out; omega
      have hc1 := strs_cell (hkp q _ _ (by decide) (by decide) HQ.out) hkn
      have h5 := HL.out k hkn
      have hst := flat_step wordT [] hkn
      obtain ⟨m, hm⟩ : ∃ m, m = ls.getD k [] := ⟨_, rfl⟩
      rw [← hm] at hc1 h5 hst
      have hcat : bs (wordT m) = (⟨#[32]⟩ : ByteArray) ++ bs m := (bs_app [32] m).symm
      have hms : (bs m).size ≤ 5000 := by rw [bs_size]; exact h5
      have h32 : (⟨#[32]⟩ : ByteArray).size = 1 := rfl
      have r1 := fun W => run_cat (P := Tryz.prog) W (⟨#[32]⟩ : ByteArray) (bs m) (bs (wordT m)) (by omega) hcat
      have HWS := Lib.hid (hd.str (wordT m) (by simp only [wordT, List.length_cons]; omega) hBr)
      have HST := Lib.hid hst
      have HB := Lib.hid hb
      have HKP := Lib.hid hkp
      generalize bs (wordT m) = s2 at *
      generalize bs m = s1 at *
      clear hcat hms h32 hst hd hb hkp hm hle
      go_wp2_with fail
      refine HWS.out.mono ?_
      rintro e w2 ⟨rfl, hd2, hb2, hk2⟩
      have H2 : Hid (LineRel B b (l ++ word) ls w (k + 1) w2) := Lib.hid ⟨by rw [HST.out, ← List.append_assoc]; exact hd2, HB.out.trans hb2, HKP.out.trans hk2⟩
      clear hd2 hb2 hk2
      go_wp2
      go_roundw
      case rel => exact ⟨k + 1, by omega, by go_num, H2.out⟩
      case measure => simp [intOf]; omega
    · have hkn : k = ls.length := by have := HN.out; omega
      rw [hkn, List.take_length] at hd hpl
      have hw2 := hd.str [10] (by simp only [List.length_singleton]; omega) hBr
      have hten : bs [10] = ⟨#[10]⟩ := rfl
      rw [hten] at hw2
      have HWS := Lib.hid hw2
      have HB := Lib.hid hb
      have HKP := Lib.hid hkp
      clear hkn hd hw2 hten hb hkp hle
      go_wp2_with fail
      refine HWS.out.mono ?_
      rintro e w2 ⟨rfl, hd2, hb2, hk2⟩
      have H2 : Hid (Bd B b (l ++ lineT word ls) w2 ∧ Below B w w2 ∧ Keep w w2) := Lib.hid ⟨by
        unfold lineT
        simpa [List.append_assoc] using hd2, HB.out.trans hb2, HKP.out.trans hk2⟩
      clear hd2 hb2 hk2
      go_wp2
      go_returns
      exact ⟨rfl, H2.out⟩
end Go.Proofs.YtamgbfkpblpfiaaGreatDoor
/-
  Truths as text: package bits, and the document's.
-/
namespace Go.Proofs.YtamgbfkpblpfiaaGreatDoor
open Go.ChangeShapes Go.WideShapes Go.ChangeAt Go.RowKit
set_option linter.unusedVariables false
theorem infoU8 : (Tryz.prog.info? 5).map (fun i => (i.zero, i.size, i.bytes)) = some (some (.int .u8 0), 1, 1) := by kernel_rfl
def dig (b : Bool) : UInt8 := if b then 49 else 48
def digs (l : List Bool) : List UInt8 := l.map dig
theorem bits_put {w : World} {p g i n c : Nat} {u u0 : Value} (hp : w.cell? ⟨p, 0, none⟩ = some (.slice (some ⟨g, 0, none⟩) n c)) (hi : (i : Int) < (n : Int)) (hg : w.cell? ⟨g, i, none⟩ = some u0) (hf : w.frozen? ⟨g, i, none⟩ = false) (d : UInt8) (hu : u = .int .u8 (d.toNat : Int)) :
    Calls Tryz.prog 122 #[.int .i64 i, u, .pointer (some ⟨p, 0, none⟩)] w fun e w' => e = .returned (.tuple #[]) ∧ w' = w.setCell ⟨g, i, none⟩ u := by
  subst hu
  go_enter Tryz.func122, Tryz.ntmps122
  go_wp2
  go_returns
  exact ⟨rfl, rfl⟩
/-- Before round k. -/
def TxtRel (w : World) (l : List Bool) (n k : Nat) (wr : World) : Prop :=
  (∃ xs : List Value, Row wr 5 1 (.slice (some ⟨w.heap.size, 0, none⟩) n n) n xs ∧ ∀ j, j < k → xs.getD j undef = .int .u8 ((dig (l.getD j false)).toNat : Int)) ∧ Blk wr (w.heap.size + 1) 66 #[.slice (some ⟨w.heap.size, 0, none⟩) n n] ∧ Below w.heap.size w wr
theorem set_get {xs : List Value} {k j : Nat} (u : Value) (hj : j ≤ k) (hk : k < xs.length) : (xs.set k u).getD j undef = if j = k then u else xs.getD j undef := by
  by_cases h : j = k
  · subst h; simp [List.getD, hk]
  · have h' : k ≠ j := fun e => h e.symm
    simp [List.getD, h, List.getElem?_set_ne h']
theorem TxtRel.put1 {w wr : World} {l : List Bool} {n k : Nat} (h : TxtRel w l n k wr) (hk : k < n) (d : UInt8) (hd : dig (l.getD k false) = d ∨ True) (h1 : d = dig (l.getD k false)) :
    TxtRel w l n (k + 1) (wr.setCell ⟨w.heap.size, k, none⟩ (.int .u8 (d.toNat : Int))) := by
  obtain ⟨⟨xs, hr, hx⟩, hb, ho⟩ := h
  have hxl : xs.length = n := by have := hr.1; omega
  refine ⟨⟨_, hr.set1 k _, fun j hj => ?_⟩, hb.far (p := ⟨w.heap.size, k, none⟩) (by simp) _, ho.setCell (p := ⟨w.heap.size, k, none⟩) (Nat.le_refl _) _⟩
  rw [set_get _ (by omega) (by omega)]
  split
  · rename_i e; subst e; rw [h1]
  · exact hx j (by omega)
theorem TxtRel.put0 {w wr : World} {l : List Bool} {n k : Nat} (h : TxtRel w l n k wr) (hk : k < n) (u : Value) : TxtRel w l n k (wr.setCell ⟨w.heap.size, k, none⟩ u) := by
  obtain ⟨⟨xs, hr, hx⟩, hb, ho⟩ := h
  have hxl : xs.length = n := by have := hr.1; omega
  refine ⟨⟨_, hr.set1 k _, fun j hj => ?_⟩, hb.far (p := ⟨w.heap.size, k, none⟩) (by simp) _, ho.setCell (p := ⟨w.heap.size, k, none⟩) (Nat.le_refl _) _⟩
  rw [set_get _ (by omega) (by omega), if_neg (by omega)]
  exact hx j hj
theorem TxtRel.read {w wr : World} {l : List Bool} {n k : Nat} (h : TxtRel w l n k wr) {j : Nat} (hj : j < n) : ∃ u0, wr.cell? ⟨w.heap.size, j, none⟩ = some u0 ∧ wr.frozen? ⟨w.heap.size, j, none⟩ = false ∧ wr.cell? ⟨w.heap.size + 1, 0, none⟩ = some (.slice (some ⟨w.heap.size, 0, none⟩) n n) := by
  obtain ⟨⟨xs, hr, hx⟩, hb, ho⟩ := h
  obtain ⟨h1, h2⟩ := hr.at1 j hj
  exact ⟨_, h1, h2, hb.cell 0⟩
set_option maxHeartbeats 2000000 in
theorem bits_Text {w : World} {v : Value} {l : List Bool} (h : Bo w v l) (hl : l.length ≤ 100000) (h0 : 0 < l.length) :
    Calls Tryz.prog 101 #[v] w fun e w' => e = .returned (.string (bs (digs l))) ∧ Below w.heap.size w w' := by
  obtain ⟨a, cap, hv, -, -⟩ := h.form
  subst hv
  obtain ⟨n, hn⟩ : ∃ n, n = l.length := ⟨_, rfl⟩
  have hmk := fun W => run_makeN (P := Tryz.prog) 66 5 (.int .u8 0) 1 1 Tryz.underlying66 infoU8 .i64 .i64 n n (Nat.le_refl _) (by omega) (by omega) W
  have H := Lib.hid h
  obtain ⟨s, hs⟩ : ∃ s, s = bs (digs l) := ⟨_, rfl⟩
  rw [← hs, ← hn]
  rw [← hn] at hl h0 H
  have HN := Lib.hid hn
  have HS := Lib.hid hs
  clear h hn hs
  have hcv : ∀ wr, TxtRel w l n n wr → (convert 66 9 (.slice (some ⟨w.heap.size, 0, none⟩) n n)).run Tryz.prog wr = .ok (.string s) wr := fun wr hr => by
    obtain ⟨⟨xs, hr, hx⟩, -, -⟩ := hr
    have hdl : (digs l).length = n := by unfold digs; rw [List.length_map, HN.out]
    have := run_convert_bytes_back (P := Tryz.prog) wr 66 9 5 ⟨w.heap.size, 0, none⟩ n (digs l) Tryz.underlying66 Tryz.underlying5 Tryz.underlying9 (fun j hj => by
      have hj' : j < n := by omega
      have e : (⟨w.heap.size, 0, none⟩ : Addr).add j = ⟨w.heap.size, j, none⟩ := by unfold Addr.add; split <;> simp_all
      rw [e, (hr.at1 j hj').1, hx j hj']
      have hjl : j < l.length := by have := HN.out; omega
      simp [digs, List.getD, hjl])
    rw [hdl] at this
    rw [HS.out]
    exact this
  have HCV := Lib.hid hcv
  clear hcv
  have h0' : TxtRel w l n 0 ((w.alloc (.cells (madeCells (Value.int .u8 0).cells (n * 1)) 5)).alloc (.cells #[.slice (some ⟨w.heap.size, 0, none⟩) n n] 66)) := ⟨⟨_, (Row.made w 5 (Value.int .u8 0).cells 1 n n rfl (by decide) (Nat.le_refl _) (by unfold maxLen; omega)).alloc _, fun j hj => by omega⟩, by
      have := Blk.new (w.alloc (.cells (madeCells (Value.int .u8 0).cells (n * 1)) 5)) 66 #[.slice (some ⟨w.heap.size, 0, none⟩) n n]
      simpa using this, ((Below.refl _ w).alloc (Nat.le_refl _) _).alloc (by simp) _⟩
  have H0 : Hid (TxtRel w l n 0 ((w.alloc (.cells (madeCells #[Value.int .u8 0] n) 5)).alloc (.cells #[.slice (some ⟨w.heap.size, 0, none⟩) n n] 66))) := Lib.hid (by rw [Nat.mul_one] at h0'; exact h0')
  clear h0'
  go_enter Tryz.func101, Tryz.ntmps101
  go_wp2
  clear hmk
  go_loopw [13] (fun i wr => ∃ k : Nat, k ≤ n ∧ i = .int .i64 k ∧ TxtRel w l n k wr) (fun i _ => n - (intOf i).toNat)
  case atStart => exact ⟨0, Nat.zero_le _, rfl, H0.out⟩
  case round =>
    obtain ⟨k, hk, rfl, hr⟩ := hrel
    by_cases hlt : (k : Int) < (n : Int)
    · have hkn : k < l.length := by have := HN.out; omega
      obtain ⟨b, off, cap2, he, hcell⟩ := (HN.out ▸ H.out : Seq w 1 BoR false (.slice a l.length cap) l).at_ hkn
      injection he with e1 e2 e3
      subst e1
      have hc1 := cell_below hcell hr.2.2
      obtain ⟨x, hx⟩ : ∃ x, x = l.getD k false := ⟨_, rfl⟩
      unfold BoR at hcell
      rw [Nat.mul_one] at hc1
      rw [← hx] at hc1
      obtain ⟨u0, q1, q2, q3⟩ := hr.read (j := k) (by omega)
      have P1 := Lib.hid (bits_put (i := k) q3 hlt q1 q2 48 rfl)
      have HR := Lib.hid hr
      have HX := Lib.hid hx
      clear hcell hr hx e2 e3 q1 q2 q3
      have eg : ∀ args w, (callFunc 122 args).run Tryz.prog w = .ok (.enter 122 args) w := enters_of Tryz.func122 (by kernel_rfl) rfl
      cases x with
      | false =>
        go_wp2_with fail
        refine P1.out.mono ?_
        rintro e w1 ⟨rfl, rfl⟩
        have H1 : Hid (TxtRel w l n (k + 1) (wr.setCell ⟨w.heap.size, k, none⟩ (.int .u8 48))) := Lib.hid (HR.out.put1 (by omega) 48 (.inr trivial) (by rw [← HX.out]; rfl))
        go_wp2
        go_roundw
        case rel => exact ⟨k + 1, by omega, by go_num, H1.out⟩
        case measure => simp [intOf]; omega
      | true =>
        go_wp2_with fail
        refine P1.out.mono ?_
        rintro e w1 ⟨rfl, rfl⟩
        have hr2 := HR.out.put0 (show k < n by omega) (.int .u8 48)
        obtain ⟨u0, q1, q2, q3⟩ := hr2.read (j := k) (by omega)
        have P2 := Lib.hid (bits_put (i := k) q3 hlt q1 q2 49 rfl)
        have H1 : Hid (TxtRel w l n (k + 1) ((wr.setCell ⟨w.heap.size, k, none⟩ (.int .u8 48)).setCell ⟨w.heap.size, k, none⟩ (.int .u8 49))) := Lib.hid (hr2.put1 (by omega) 49 (.inr trivial) (by rw [← HX.out]; rfl))
        clear hr2 q1 q2 q3
        go_wp2_with fail
        refine P2.out.mono ?_
        rintro e w2 ⟨rfl, rfl⟩
        go_wp2
        go_roundw
        case rel => exact ⟨k + 1, by omega, by go_num, H1.out⟩
        case measure => simp [intOf]; omega
    · have hkn : k = n := by omega
      rw [hkn] at hr
      obtain ⟨u0, q1, q2, q3⟩ := hr.read (j := 0) (by omega)
      have hcv := HCV.out wr hr
      have HB := Lib.hid hr.2.2
      clear hr q1 q2 hkn
      go_wp2
      go_ret
      exact ⟨rfl, HB.out⟩
theorem bs_snoc (l : List UInt8) (c : UInt8) : bs l ++ (⟨#[c]⟩ : ByteArray) = bs (l ++ [c]) := bs_app l [c]
def truT (l : List Bool) : List UInt8 := if l = [] then [45] else digs l
theorem truT_len (l : List Bool) (h : l.length ≤ 4200) : (truT l).length ≤ 5000 := by
  unfold truT
  split
  · simp
  · unfold digs; rw [List.length_map]; omega
theorem truths_ {w : World} {v : Value} {l : List Bool} (h : Bo w v l) (hl : l.length ≤ 100000) :
    Calls Tryz.prog 72 #[v] w fun e w' => e = .returned (.string (bs (truT l))) ∧ Below w.heap.size w w' := by
  obtain ⟨a, cap, hv, -, -⟩ := h.form
  unfold truT
  by_cases h0 : l = []
  · rw [if_pos h0]
    subst hv
    have c1 : ((l.length : Int) == 0) = true := by rw [h0]; rfl
    have e : bs [45] = ⟨#[45]⟩ := rfl
    rw [e]
    clear e h h0
    go_enter Tryz.func72, Tryz.ntmps72
    go_wp2
    go_ret
    exact ⟨rfl, Below.refl _ _⟩
  · rw [if_neg h0]
    have hlen : 0 < l.length := List.length_pos_iff.2 h0
    have HT := Lib.hid (bits_Text h hl hlen)
    subst hv
    have c1 : ((l.length : Int) == 0) = false := by rw [beq_eq_false_iff_ne]; omega
    generalize bs (digs l) = s at *
    clear h h0
    go_enter Tryz.func72, Tryz.ntmps72
    go_wp2_with fail
    refine HT.out.mono ?_
    rintro e w1 ⟨rfl, hb⟩
    go_wp2
    go_ret
    exact ⟨rfl, hb⟩
end Go.Proofs.YtamgbfkpblpfiaaGreatDoor
/-
  Package trace: which witnesses are right.
-/
namespace Go.Proofs.YtamgbfkpblpfiaaGreatDoor
open Go.ChangeShapes Go.WideShapes Go.ChangeAt Go.RowKit
set_option linter.unusedVariables false
/-- A slice's index, or -1. -/
def IdxPost (w : World) (b : Bool) (e : Ending) (w' : World) : Prop := (∃ i : Int, e = .returned (.int .i64 i) ∧ decide (0 ≤ i) = b) ∧ Below w.heap.size w w'
theorem Bo.len {w : World} {v : Value} {l : List Bool} (h : Bo w v l) : ∃ a cap, v = .slice a l.length cap := by
  obtain ⟨a, cap, h, -, -⟩ := h.form; exact ⟨a, cap, h⟩
def longB (l : List Bool) : Bool := decide (4096 < l.length)
theorem long_ {w : World} {u : Value} {l : List Bool} (h : Bo w u l) : Calls Tryz.prog 89 #[u] w fun e w' => e = .returned (.bool (longB l)) ∧ Below w.heap.size w w' := by
  obtain ⟨a, cap, rfl⟩ := h.len
  clear h
  have hl : longB l = decide ((4096 : Int) < (l.length : Int)) := by unfold longB; rw [decide_eq_decide]; omega
  rw [hl]
  clear hl
  go_enter Tryz.func89, Tryz.ntmps89
  go_wp2
  go_ret
  exact ⟨by simp, Below.refl _ _⟩
def wrongB (l : CS) : Bool := !rightB 62 64 l
theorem wrong_ {w : World} {u : Value} {l : CS} (h : Pairs w u l) : Calls Tryz.prog 90 #[u] w fun e w' => e = .returned (.bool (wrongB l)) ∧ Below w.heap.size w w' := by
  have HR := Lib.hid (ram_Right (aw := 62) (ww := 64) h)
  unfold wrongB
  generalize rightB 62 64 l = r at *
  clear h
  go_enter Tryz.func90, Tryz.ntmps90
  go_wp2_with fail
  refine HR.out.mono ?_
  rintro e w1 ⟨rfl, hb⟩
  go_wp2
  go_ret
  exact ⟨rfl, hb⟩
set_option maxHeartbeats 1000000 in
theorem idxBB {w : World} {v : Value} {xs : List (List Bool)} (h : Seq w 1 BosR [] v xs) : Calls Tryz.prog 112 #[v, .func (.func 89) #[] #[]] w (IdxPost w (xs.any longB)) := by
  obtain ⟨a, cap, hv, hc, hm⟩ := h.form
  subst hv
  obtain ⟨n, hn⟩ : ∃ n, n = xs.length := ⟨_, rfl⟩
  have H := Lib.hid h
  rw [← hn] at H hc ⊢
  have hbig : n ≤ 9223372036854775807 := Nat.le_trans hc hm
  have HN := Lib.hid hn
  clear h hn hc hm
  go_enter Tryz.func112, Tryz.ntmps112
  go_wp2
  go_loopw [8] (fun i wr => ∃ k : Nat, k ≤ n ∧ i = .int .i64 k ∧ (xs.take k).any longB = false ∧ Below w.heap.size w wr) (fun i _ => n - (intOf i).toNat)
  case atStart => exact ⟨0, Nat.zero_le _, rfl, rfl, Below.refl _ _⟩
  case round =>
    obtain ⟨k, hk, rfl, hany, hb⟩ := hrel
    have HB := Lib.hid hb
    by_cases hlt : (k : Int) < (n : Int)
    · have hkn : k < xs.length := by have := HN.out; omega
      obtain ⟨b, off, cap2, he, u, hcell, hp⟩ := (HN.out ▸ H.out : Seq w 1 BosR [] (.slice a xs.length cap) xs).at_ hkn
      injection he with e1 e2 e3
      subst e1
      have hc1 := cell_below hcell hb
      rw [Nat.mul_one] at hc1
      have HC := Lib.hid (long_ (w := wr) (hp.below stays_bo hb))
      have hst : (xs.take (k + 1)).any longB = longB (xs.getD k []) := by
        rw [List.take_succ_eq_append_getElem hkn, List.any_append, hany]
        simp [List.getD, hkn]
      have HS := Lib.hid hst
      have HA : Hid (longB (xs.getD k []) = true → xs.any longB = true) := Lib.hid fun h => List.any_eq_true.2 ⟨_, List.getElem_mem hkn, by simpa [List.getD, hkn] using h⟩
      generalize longB (xs.getD k []) = ans at *
      have eg : ∀ args w, (callFunc 89 args).run Tryz.prog w = .ok (.enter 89 args) w := enters_of Tryz.func89 (by kernel_rfl) rfl
      clear hcell hp e2 e3 hany hst hb
      go_wp2_with fail
      refine HC.out.mono ?_
      rintro e w1 ⟨rfl, hb1⟩
      have HB1 := Lib.hid (HB.out.trans (hb1.mono HB.out.size))
      clear hb1
      cases ans with
      | true =>
        go_wp2
        go_ret
        exact ⟨⟨(k : Int), rfl, by rw [HA.out (by trivial)]; exact decide_eq_true (by omega)⟩, HB1.out⟩
      | false =>
        go_wp2
        go_roundw
        case rel => exact ⟨k + 1, by omega, by go_num, HS.out, HB1.out⟩
        case measure => simp [intOf]; omega
    · have hkn : k = xs.length := by have := HN.out; omega
      rw [hkn, List.take_length] at hany
      have HA := Lib.hid hany
      clear hany hkn hb
      go_wp2
      go_ret
      exact ⟨⟨-1, rfl, by rw [HA.out]; rfl⟩, HB.out⟩
theorem hasBB {w : World} {v : Value} {xs : List (List Bool)} (h : Seq w 1 BosR [] v xs) : Calls Tryz.prog 92 #[v, .func (.func 89) #[] #[]] w fun e w' => e = .returned (.bool (xs.any longB)) ∧ Below w.heap.size w w' := by
  have HI := Lib.hid (idxBB h)
  generalize xs.any longB = ans at *
  clear h
  go_enter Tryz.func92, Tryz.ntmps92
  go_wp2_with fail
  refine HI.out.mono ?_
  rintro e w1 ⟨⟨i, rfl, hd⟩, hb⟩
  have HD := Lib.hid hd
  clear hd
  go_wp2
  go_ret
  exact ⟨by rw [← HD.out]; simp, hb⟩
set_option maxHeartbeats 1000000 in
theorem idxCC {w : World} {v : Value} {xs : List (CS)} (h : Seq w 1 CesR [] v xs) : Calls Tryz.prog 113 #[v, .func (.func 90) #[] #[]] w (IdxPost w (xs.any wrongB)) := by
  obtain ⟨a, cap, hv, hc, hm⟩ := h.form
  subst hv
  obtain ⟨n, hn⟩ : ∃ n, n = xs.length := ⟨_, rfl⟩
  have H := Lib.hid h
  rw [← hn] at H hc ⊢
  have hbig : n ≤ 9223372036854775807 := Nat.le_trans hc hm
  have HN := Lib.hid hn
  clear h hn hc hm
  go_enter Tryz.func113, Tryz.ntmps113
  go_wp2
  go_loopw [8] (fun i wr => ∃ k : Nat, k ≤ n ∧ i = .int .i64 k ∧ (xs.take k).any wrongB = false ∧ Below w.heap.size w wr) (fun i _ => n - (intOf i).toNat)
  case atStart => exact ⟨0, Nat.zero_le _, rfl, rfl, Below.refl _ _⟩
  case round =>
    obtain ⟨k, hk, rfl, hany, hb⟩ := hrel
    have HB := Lib.hid hb
    by_cases hlt : (k : Int) < (n : Int)
    · have hkn : k < xs.length := by have := HN.out; omega
      obtain ⟨b, off, cap2, he, u, hcell, hp⟩ := (HN.out ▸ H.out : Seq w 1 CesR [] (.slice a xs.length cap) xs).at_ hkn
      injection he with e1 e2 e3
      subst e1
      have hc1 := cell_below hcell hb
      rw [Nat.mul_one] at hc1
      have HC := Lib.hid (wrong_ (w := wr) (hp.below hb))
      have hst : (xs.take (k + 1)).any wrongB = wrongB (xs.getD k []) := by
        rw [List.take_succ_eq_append_getElem hkn, List.any_append, hany]
        simp [List.getD, hkn]
      have HS := Lib.hid hst
      have HA : Hid (wrongB (xs.getD k []) = true → xs.any wrongB = true) := Lib.hid fun h => List.any_eq_true.2 ⟨_, List.getElem_mem hkn, by simpa [List.getD, hkn] using h⟩
      generalize wrongB (xs.getD k []) = ans at *
      have eg : ∀ args w, (callFunc 90 args).run Tryz.prog w = .ok (.enter 90 args) w := enters_of Tryz.func90 (by kernel_rfl) rfl
      clear hcell hp e2 e3 hany hst hb
      go_wp2_with fail
      refine HC.out.mono ?_
      rintro e w1 ⟨rfl, hb1⟩
      have HB1 := Lib.hid (HB.out.trans (hb1.mono HB.out.size))
      clear hb1
      cases ans with
      | true =>
        go_wp2
        go_ret
        exact ⟨⟨(k : Int), rfl, by rw [HA.out (by trivial)]; exact decide_eq_true (by omega)⟩, HB1.out⟩
      | false =>
        go_wp2
        go_roundw
        case rel => exact ⟨k + 1, by omega, by go_num, HS.out, HB1.out⟩
        case measure => simp [intOf]; omega
    · have hkn : k = xs.length := by have := HN.out; omega
      rw [hkn, List.take_length] at hany
      have HA := Lib.hid hany
      clear hany hkn hb
      go_wp2
      go_ret
      exact ⟨⟨-1, rfl, by rw [HA.out]; rfl⟩, HB.out⟩
theorem hasCC {w : World} {v : Value} {xs : List (CS)} (h : Seq w 1 CesR [] v xs) : Calls Tryz.prog 93 #[v, .func (.func 90) #[] #[]] w fun e w' => e = .returned (.bool (xs.any wrongB)) ∧ Below w.heap.size w w' := by
  have HI := Lib.hid (idxCC h)
  generalize xs.any wrongB = ans at *
  clear h
  go_enter Tryz.func93, Tryz.ntmps93
  go_wp2_with fail
  refine HI.out.mono ?_
  rintro e w1 ⟨⟨i, rfl, hd⟩, hb⟩
  have HD := Lib.hid hd
  clear hd
  go_wp2
  go_ret
  exact ⟨by rw [← HD.out]; simp, hb⟩
end Go.Proofs.YtamgbfkpblpfiaaGreatDoor
/-
  Witnesses (api.Trace) as plain data; which are right: both ways.
-/
namespace Go.Proofs.YtamgbfkpblpfiaaGreatDoor
open Go.ChangeShapes Go.WideShapes Go.ChangeAt Go.RowKit
set_option linter.unusedVariables false
structure TrD where
  lat : List Bool
  mems : List CS
  ins : List (List Bool)
  bad : Int
def trV (d : TrD) (vl vm vi : Value) : Value := .agg #[vl, vm, vi, .int .i64 d.bad]
structure TrP (w : World) (d : TrD) (vl vm vi : Value) : Prop where
  lat : Bo w vl d.lat
  mems : Ces w vm d.mems
  ins : Bos w vi d.ins
theorem TrP.below {w w' : World} {d : TrD} {vl vm vi : Value} (h : TrP w d vl vm vi) (hb : Below w.heap.size w w') : TrP w' d vl vm vi := ⟨h.lat.below stays_bo hb, h.mems.below stays_ces hb, h.ins.below stays_bos hb⟩
def dimT (d : TrD) : Bool := decide (d.lat.length ≤ 4096 ∧ d.mems.length ≤ 4 ∧ d.ins.length ≤ 4096 ∧ 0 ≤ d.bad ∧ d.bad ≤ 1000)
def rightT (d : TrD) : Bool := dimT d && (!(d.ins.any longB) && !(d.mems.any wrongB))
set_option maxHeartbeats 1000000 in
theorem trace_Right_dim {w : World} {d : TrD} {vl vm vi : Value} (h : TrP w d vl vm vi) (hd : dimT d = false) : Calls Tryz.prog 50 #[trV d vl vm vi] w fun e w' => e = .returned (.bool false) ∧ Below w.heap.size w w' := by
  obtain ⟨a1, c1, rfl⟩ := h.lat.len
  obtain ⟨a2, c2, rfl, -, -⟩ := h.mems.form
  obtain ⟨a3, c3, rfl, -, -⟩ := h.ins.form
  clear h
  unfold dimT at hd
  unfold trV
  obtain ⟨lat, mems, ins, bad⟩ := d
  simp only [decide_eq_false_iff_not] at hd ⊢
  have hd' : (4096 : Int) < (lat.length : Int) ∨ (4 : Int) < (mems.length : Int) ∨ (4096 : Int) < (ins.length : Int) ∨ bad < 0 ∨ 1000 < bad := by omega
  have HD := Lib.hid hd'
  clear hd hd'
  generalize lat.length = n1 at *
  generalize mems.length = n2 at *
  generalize ins.length = n3 at *
  go_enter Tryz.func50, Tryz.ntmps50
  go_wp2
  all_goals first
    | (exfalso; have := HD.out; omega)
    | (go_ret; exact ⟨rfl, ((Below.refl _ _).alloc (Nat.le_refl _) _).alloc (by simp) _⟩)
theorem dimT_parts {d : TrD} (h : dimT d = true) : d.lat.length ≤ 4096 ∧ d.mems.length ≤ 4 ∧ d.ins.length ≤ 4096 ∧ 0 ≤ d.bad ∧ d.bad ≤ 1000 := of_decide_eq_true h
set_option maxHeartbeats 1000000 in
theorem trace_Right_fine {w : World} {d : TrD} {vl vm vi : Value} (h : TrP w d vl vm vi) (hd : dimT d = true) : Calls Tryz.prog 50 #[trV d vl vm vi] w fun e w' => e = .returned (.bool (!(d.ins.any longB) && !(d.mems.any wrongB))) ∧ Below w.heap.size w w' := by
  obtain ⟨h1, h2, h3, h4, h5⟩ := dimT_parts hd
  obtain ⟨a1, c1, rfl⟩ := h.lat.len
  obtain ⟨a2, c2, rfl, -, -⟩ := h.mems.form
  obtain ⟨a3, c3, rfl, -, -⟩ := h.ins.form
  have HB0 : Hid (∀ x y, Below w.heap.size w ((w.alloc x).alloc y)) := Lib.hid fun x y => ((Below.refl _ _).alloc (Nat.le_refl _) _).alloc (by simp) _
  have HBB := Lib.hid (fun w' (hb : Below w.heap.size w w') => hasBB (h.ins.below stays_bos hb))
  have HCC := Lib.hid (fun w' (hb : Below w.heap.size w w') => hasCC (h.mems.below stays_ces hb))
  clear h hd
  unfold trV
  obtain ⟨lat, mems, ins, bad⟩ := d
  simp only at *
  have b1 : decide ((4096 : Int) < (lat.length : Int)) = false := decide_eq_false (by omega)
  have b2 : decide ((4 : Int) < (mems.length : Int)) = false := decide_eq_false (by omega)
  have b3 : decide ((4096 : Int) < (ins.length : Int)) = false := decide_eq_false (by omega)
  have b4 : decide (bad < 0) = false := decide_eq_false (by omega)
  have b5 : decide (1000 < bad) = false := decide_eq_false (by omega)
  generalize lat.length = n1 at *
  generalize mems.length = n2 at *
  generalize ins.length = n3 at *
  generalize ins.any longB = r1 at *
  generalize mems.any wrongB = r2 at *
  clear h1 h2 h3 h4 h5
  go_enter Tryz.func50, Tryz.ntmps50
  go_wp2_with fail
  refine (HBB.out _ (HB0.out _ _)).mono ?_
  rintro e w1 ⟨rfl, hb1⟩
  have HB1 := Lib.hid ((HB0.out _ _).trans (hb1.mono (HB0.out _ _).size))
  have q := ((Blk.new (w.alloc _) 27 #[.slice a1 n1 c1, .slice a2 n2 c2]).below hb1 (by simp)).cell 1
  simp only [World.size_alloc] at q
  clear hb1
  cases r1
  · go_wp2_with fail
    refine (HCC.out _ HB1.out).mono ?_
    rintro e w2 ⟨rfl, hb2⟩
    have HB2 := Lib.hid (HB1.out.trans (hb2.mono HB1.out.size))
    clear hb2
    go_wp2
    go_ret
    exact ⟨rfl, HB2.out⟩
  · go_wp2
    go_ret
    exact ⟨rfl, HB1.out⟩
theorem trace_Right {w : World} {d : TrD} {vl vm vi : Value} (h : TrP w d vl vm vi) : Calls Tryz.prog 50 #[trV d vl vm vi] w fun e w' => e = .returned (.bool (rightT d)) ∧ Below w.heap.size w w' := by
  unfold rightT
  cases hd : dimT d
  · exact trace_Right_dim h hd
  · rw [Bool.true_and]
    exact trace_Right_fine h hd
set_option maxHeartbeats 1000000 in
theorem r15_Right_dim {w : World} {d : TrD} {vl vm vi : Value} (h : TrP w d vl vm vi) (hd : dimT d = false) : Calls Tryz.prog 62 #[trV d vl vm vi] w fun e w' => e = .returned (.bool false) ∧ Below w.heap.size w w' := by
  obtain ⟨a1, c1, rfl⟩ := h.lat.len
  obtain ⟨a2, c2, rfl, -, -⟩ := h.mems.form
  obtain ⟨a3, c3, rfl, -, -⟩ := h.ins.form
  clear h
  unfold dimT at hd
  unfold trV
  obtain ⟨lat, mems, ins, bad⟩ := d
  simp only [decide_eq_false_iff_not] at hd ⊢
  have hd' : (4096 : Int) < (lat.length : Int) ∨ (4 : Int) < (mems.length : Int) ∨ (4096 : Int) < (ins.length : Int) ∨ bad < 0 ∨ 1000 < bad := by omega
  have HD := Lib.hid hd'
  clear hd hd'
  generalize lat.length = n1 at *
  generalize mems.length = n2 at *
  generalize ins.length = n3 at *
  go_enter Tryz.func62, Tryz.ntmps62
  go_wp2
  all_goals first
    | (exfalso; have := HD.out; omega)
    | (go_ret; exact ⟨rfl, (Below.refl _ _).alloc (Nat.le_refl _) _⟩)
/-- What stands before the second loop's round. -/
def R15Rel (w : World) (cs : Array Value) (mems : List CS) (k : Nat) (wr : World) : Prop := (mems.take k).any wrongB = false ∧ Blk wr w.heap.size 30 cs ∧ Below w.heap.size w wr
set_option maxHeartbeats 4000000 in
theorem r15_Right_fine {w : World} {d : TrD} {vl vm vi : Value} (h : TrP w d vl vm vi) (hd : dimT d = true) : Calls Tryz.prog 62 #[trV d vl vm vi] w fun e w' => e = .returned (.bool (!(d.ins.any longB) && !(d.mems.any wrongB))) ∧ Below w.heap.size w w' := by
  obtain ⟨h1, h2, h3, h4, h5⟩ := dimT_parts hd
  obtain ⟨a1, c1, rfl⟩ := h.lat.len
  obtain ⟨a2, c2, rfl, -, -⟩ := h.mems.form
  obtain ⟨a3, c3, rfl, -, -⟩ := h.ins.form
  have H := Lib.hid h
  clear h hd
  unfold trV
  obtain ⟨lat, mems, ins, bad⟩ := d
  simp only at *
  obtain ⟨n1, hn1⟩ : ∃ n, n = lat.length := ⟨_, rfl⟩
  obtain ⟨n2, hn2⟩ : ∃ n, n = mems.length := ⟨_, rfl⟩
  obtain ⟨n3, hn3⟩ : ∃ n, n = ins.length := ⟨_, rfl⟩
  rw [← hn1, ← hn2, ← hn3]
  rw [← hn1] at h1
  rw [← hn2] at h2
  rw [← hn3] at h3
  have b1 : decide ((4096 : Int) < (n1 : Int)) = false := decide_eq_false (by omega)
  have b2 : decide ((4 : Int) < (n2 : Int)) = false := decide_eq_false (by omega)
  have b3 : decide ((4096 : Int) < (n3 : Int)) = false := decide_eq_false (by omega)
  have b4 : decide (bad < 0) = false := decide_eq_false (by omega)
  have b5 : decide (1000 < bad) = false := decide_eq_false (by omega)
  clear h1 h4 h5
  have HN2 := Lib.hid hn2
  have HN3 := Lib.hid hn3
  obtain ⟨cs, hcs⟩ : ∃ cs : Array Value, cs = #[.slice a1 n1 c1, .slice a2 n2 c2, .slice a3 n3 c3, .int .i64 bad] := ⟨_, rfl⟩
  have HBK : Hid (Blk (w.alloc (.cells #[.slice a1 n1 c1, .slice a2 n2 c2, .slice a3 n3 c3, .int .i64 bad] 30)) w.heap.size 30 cs) := Lib.hid (by rw [hcs]; exact Blk.new w 30 _)
  have HB0 : Hid (∀ x, Below w.heap.size w (w.alloc x)) := Lib.hid fun x => (Below.refl _ _).alloc (Nat.le_refl _) _
  have K1 : Hid (∀ wr, Blk wr w.heap.size 30 cs → wr.cell? ⟨w.heap.size, 1, none⟩ = some (.slice a2 n2 c2) ∧ wr.cell? ⟨w.heap.size, 2, none⟩ = some (.slice a3 n3 c3)) := Lib.hid fun wr hb => by
    rw [hcs] at hb
    exact ⟨hb.cell 1, hb.cell 2⟩
  clear hn1 hn2 hn3 hcs
  go_enter Tryz.func62, Tryz.ntmps62
  go_wp2
  clear b1 b2 b3 b4 b5
  go_loopw [3] (fun i wr => ∃ k : Nat, k ≤ n3 ∧ i = .int .i64 k ∧ (ins.take k).any longB = false ∧ Blk wr w.heap.size 30 cs ∧ Below w.heap.size w wr) (fun i _ => n3 - (intOf i).toNat)
  case atStart => exact ⟨0, Nat.zero_le _, rfl, rfl, HBK.out, HB0.out _⟩
  case round =>
    obtain ⟨k, hk, rfl, hany, hblk, hb⟩ := hrel
    obtain ⟨q1, q2⟩ := K1.out _ hblk
    have HB := Lib.hid hb
    have HBL := Lib.hid hblk
    by_cases hlt : (k : Int) < (n3 : Int)
    · have hkn : k < ins.length := by have := HN3.out; omega
      obtain ⟨b, off, cap2, he, u, hcell, hp⟩ := H.out.ins.at_ hkn
      injection he with e1 e2 e3
      subst e1
      have hc1 := cell_below hcell hb
      rw [Nat.mul_one] at hc1
      obtain ⟨au, cu, rfl⟩ := hp.len
      have hst : (ins.take (k + 1)).any longB = longB (ins.getD k []) := by
        rw [List.take_succ_eq_append_getElem hkn, List.any_append, hany]
        simp [List.getD, hkn]
      have HS := Lib.hid hst
      have HA : Hid (longB (ins.getD k []) = true → ins.any longB = true) := Lib.hid fun h => List.any_eq_true.2 ⟨_, List.getElem_mem hkn, by simpa [List.getD, hkn] using h⟩
      have hl : longB (ins.getD k []) = decide ((4096 : Int) < ((ins.getD k []).length : Int)) := by unfold longB; rw [decide_eq_decide]; omega
      rw [hl] at HA HS
      generalize (ins.getD k []).length = m at *
      clear hcell hp e2 e3 hany hst hb hblk hl
      by_cases hm : (4096 : Int) < (m : Int)
      · have HAA := Lib.hid (HA.out (decide_eq_true hm))
        clear HA HS
        go_wp2
        go_ret
        exact ⟨by rw [HAA.out]; rfl, HB.out⟩
      · have HS := Lib.hid (HS.out.trans (decide_eq_false hm))
        clear HA
        go_wp2
        go_roundw
        case rel => exact ⟨k + 1, by omega, by go_num, HS.out, HBL.out, HB.out⟩
        case measure => simp [intOf]; omega
    · have hkn : k = ins.length := by have := HN3.out; omega
      rw [hkn, List.take_length] at hany
      have HA := Lib.hid hany
      clear hany hkn hb hblk
      obtain ⟨wo, rfl⟩ : ∃ wo : World, wo = wr := ⟨_, rfl⟩
      go_wp2
      go_loopw [4] (fun i wr => ∃ k : Nat, k ≤ n2 ∧ i = .int .i64 k ∧ R15Rel w cs mems k wr) (fun i _ => n2 - (intOf i).toNat)
      case atStart => exact ⟨0, Nat.zero_le _, rfl, rfl, HBL.out, HB.out⟩
      case round =>
        obtain ⟨j, hj, rfl, hany, hblk, hb⟩ := hrel
        clear q1 q2
        obtain ⟨q1, q2⟩ := K1.out _ hblk
        have HB := Lib.hid hb
        have HBL := Lib.hid hblk
        by_cases hlj : (j : Int) < (n2 : Int)
        · have hkn : j < mems.length := by have := HN2.out; omega
          obtain ⟨b, off, cap2, he, u, hcell, hp⟩ := H.out.mems.at_ hkn
          injection he with e1 e2 e3
          subst e1
          have hc1 := cell_below hcell hb
          rw [Nat.mul_one] at hc1
          have hst : (mems.take (j + 1)).any wrongB = wrongB (mems.getD j []) := by
            rw [List.take_succ_eq_append_getElem hkn, List.any_append, hany]
            simp [List.getD, hkn]
          have HS := Lib.hid hst
          have HAA : Hid (wrongB (mems.getD j []) = true → mems.any wrongB = true) := Lib.hid fun h => List.any_eq_true.2 ⟨_, List.getElem_mem hkn, by simpa [List.getD, hkn] using h⟩
          have HR := Lib.hid (r11_Right (aw := 62) (ww := 64) (hp.below hb))
          unfold wrongB at HS HAA
          generalize rightB 62 64 (mems.getD j []) = r at *
          clear hcell hp e2 e3 hany hst hb hblk
          go_wp2_with fail
          refine HR.out.mono ?_
          rintro e w1 ⟨rfl, hb1⟩
          have HB1 := Lib.hid (HB.out.trans (hb1.mono HB.out.size))
          have HBL1 := Lib.hid (HBL.out.below hb1 HBL.out.lt)
          clear hb1
          cases r with
          | false =>
            have HX := Lib.hid (HAA.out rfl)
            clear HAA HS
            go_wp2
            go_ret
            exact ⟨by rw [show mems.any wrongB = true from HX.out]; simp, HB1.out⟩
          | true =>
            clear HAA
            go_wp2
            go_roundw
            case rel => exact ⟨j + 1, by omega, by go_num, HS.out, HBL1.out, HB1.out⟩
            case measure => simp [intOf]; omega
        · have hkn : j = mems.length := by have := HN2.out; omega
          rw [hkn, List.take_length] at hany
          have HX := Lib.hid hany
          clear hany hkn hb hblk
          go_wp2
          go_ret
          exact ⟨by rw [HX.out, HA.out]; rfl, HB.out⟩
theorem r15_Right {w : World} {d : TrD} {vl vm vi : Value} (h : TrP w d vl vm vi) : Calls Tryz.prog 62 #[trV d vl vm vi] w fun e w' => e = .returned (.bool (rightT d)) ∧ Below w.heap.size w w' := by
  unfold rightT
  cases hd : dimT d
  · exact r15_Right_dim h hd
  · rw [Bool.true_and]
    exact r15_Right_fine h hd
end Go.Proofs.YtamgbfkpblpfiaaGreatDoor
