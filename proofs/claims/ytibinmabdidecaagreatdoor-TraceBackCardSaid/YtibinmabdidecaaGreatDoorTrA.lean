/-
  Package trace: a line into the printer.
-/
import Derived.Test.YtibinmabdidecaaGreatDoorSeqG
import Derived.Test.YtibinmabdidecaaGreatDoorFmtU
import Derived.Test.YtibinmabdidecaaGreatDoorBuildP
namespace Go.Proofs.YtibinmabdidecaaGreatDoor
open Go.ChangeShapes Go.WideShapes Go.ChangeAt Go.RowKit
set_option linter.unusedVariables false
def wordT (l : List UInt8) : List UInt8 := 32 :: l
def lineT (word : List UInt8) (ls : List (List UInt8)) : List UInt8 := word ++ ls.flatMap wordT ++ [10]
theorem Bd.str {B b : Nat} {l : List UInt8} {w : World} (h : Bd B b l w) (m : List UInt8) (hlen : l.length + m.length ≤ 140737488355328) (hBw : B ≤ w.heap.size) :
    Calls Tryz.prog 52 #[.pointer (some ⟨b, 0, none⟩), .string (bs m)] w fun e w' => e = .returned (.tuple #[.int .i64 m.length, .nilIface]) ∧ Bd B b (l ++ m) w' ∧ Below B w w' ∧ Keep w w' := h.write m hlen hBw
theorem words_len {ls : List (List UInt8)} (h : ∀ k, k < ls.length → (ls.getD k []).length ≤ 5000) : ∀ k, k ≤ ls.length → ((ls.take k).flatMap wordT).length ≤ k * 5001
  | 0, _ => by simp
  | k + 1, hk => by
    rw [flat_step wordT [] (by omega), List.length_append, Nat.succ_mul]
    have := words_len h k (by omega)
    have h2 := h k (by omega)
    simp only [wordT, List.length_cons]
    omega
/-- Before the k-th word. -/
def LineRel (B b : Nat) (pre : List UInt8) (ls : List (List UInt8)) (w : World) (k : Nat) (wr : World) : Prop := Bd B b (pre ++ (ls.take k).flatMap wordT) wr ∧ Below B w wr ∧ Keep w wr
def LinePost (B b : Nat) (l : List UInt8) (w : World) (e : Ending) (w' : World) : Prop := e = .returned (.tuple #[]) ∧ Bd B b l w' ∧ Below B w w' ∧ Keep w w'
set_option maxHeartbeats 2000000 in
theorem line_ {B b : Nat} {l : List UInt8} {w : World} (h : Bd B b l w) (hBw : B ≤ w.heap.size) (word : List UInt8) (ls : List (List UInt8)) (q : Nat) (hq : Blk w q 9 (strsA ls)) (n c : Nat) (hn : n = ls.length)
    (hw : word.length ≤ 100) (hc : n ≤ 100) (hl : ∀ k, k < ls.length → (ls.getD k []).length ≤ 5000) (hlen : l.length ≤ 1000000000000) :
    Calls Tryz.prog 25 #[.pointer (some ⟨b, 0, none⟩), .string (bs word), .slice (some ⟨q, 0, none⟩) n c] w (LinePost B b (l ++ lineT word ls) w) := by
  have HW := Lib.hid (h.str word (by omega) hBw)
  have HLN := Lib.hid (words_len hl)
  have HL := Lib.hid hl
  have HQ := Lib.hid hq
  have HN := Lib.hid hn
  generalize bs word = wd at *
  clear h hl hq hn
  go_enter Tryz.func25, Tryz.ntmps25
  go_wp2_with fail
  refine HW.out.mono ?_
  rintro e w1 ⟨rfl, hd1, hb1, hk1⟩
  have H1 : Hid (LineRel B b (l ++ word) ls w 0 w1) := Lib.hid ⟨by simpa using hd1, hb1, hk1⟩
  clear hd1 hb1 hk1
  go_wp2
  go_loopw [15] (fun i wr => ∃ k : Nat, k ≤ n ∧ i = .int .i64 k ∧ LineRel B b (l ++ word) ls w k wr) (fun i _ => n - (intOf i).toNat)
  case atStart => exact ⟨0, Nat.zero_le _, rfl, H1.out⟩
  case round =>
    obtain ⟨k, hk, rfl, hr⟩ := hrel
    obtain ⟨hd, hb, hkp⟩ := hr
    have hle := HLN.out k (by have := HN.out; omega)
    have hBr : B ≤ wr.heap.size := Nat.le_trans hBw hb.size
    have hpl : (l ++ word ++ (ls.take k).flatMap wordT).length ≤ 2000000000000 := by
      rw [List.length_append, List.length_append]
      have : k * 5001 ≤ 100 * 5001 := Nat.mul_le_mul_right _ (by omega)
      omega
    by_cases hlt : (k : Int) < (n : Int)
    · have hkn : k < ls.length := by have := HN.out; omega
      have hc1 := strs_cell (hkp q _ _ (by decide) (by decide) HQ.out) hkn
      have h5 := HL.out k hkn
      have hst := flat_step wordT [] hkn
      obtain ⟨m, hm⟩ : ∃ m, m = ls.getD k [] := ⟨_, rfl⟩
      rw [← hm] at hc1 h5 hst
      have hcat : bs (wordT m) = (⟨#[32]⟩ : ByteArray) ++ bs m := (bs_app [32] m).symm
      have hms : (bs m).size ≤ 5000 := by rw [bs_size]; exact h5
      have h32 : (⟨#[32]⟩ : ByteArray).size = 1 := rfl
      have r1 := fun W => run_cat (P := Tryz.prog) W (⟨#[32]⟩ : ByteArray) (bs m) (bs (wordT m)) (by omega) hcat
      have HWS := Lib.hid (hd.str (wordT m) (by simp only [wordT, List.length_cons]; omega) hBr)
      have HST := Lib.hid hst
      have HB := Lib.hid hb
      have HKP := Lib.hid hkp
      generalize bs (wordT m) = s2 at *
      generalize bs m = s1 at *
      clear hcat hms h32 hst hd hb hkp hm hle
      go_wp2_with fail
      refine HWS.out.mono ?_
      rintro e w2 ⟨rfl, hd2, hb2, hk2⟩
      have H2 : Hid (LineRel B b (l ++ word) ls w (k + 1) w2) := Lib.hid ⟨by rw [HST.out, ← List.append_assoc]; exact hd2, HB.out.trans hb2, HKP.out.trans hk2⟩
      clear hd2 hb2 hk2
      go_wp2
      go_roundw
      case rel => exact ⟨k + 1, by omega, by go_num, H2.out⟩
      case measure => simp [intOf]; omega
    · have hkn : k = ls.length := by have := HN.out; omega
      rw [hkn, List.take_length] at hd hpl
      have hw2 := hd.str [10] (by simp only [List.length_singleton]; omega) hBr
      have hten : bs [10] = ⟨#[10]⟩ := rfl
      rw [hten] at hw2
      have HWS := Lib.hid hw2
      have HB := Lib.hid hb
      have HKP := Lib.hid hkp
      clear hkn hd hw2 hten hb hkp hle
      go_wp2_with fail
      refine HWS.out.mono ?_
      rintro e w2 ⟨rfl, hd2, hb2, hk2⟩
      have H2 : Hid (Bd B b (l ++ lineT word ls) w2 ∧ Below B w w2 ∧ Keep w w2) := Lib.hid ⟨by
        unfold lineT
        simpa [List.append_assoc] using hd2, HB.out.trans hb2, HKP.out.trans hk2⟩
      clear hd2 hb2 hk2
      go_wp2
      go_returns
      exact ⟨rfl, H2.out⟩
end Go.Proofs.YtibinmabdidecaaGreatDoor
