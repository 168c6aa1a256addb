/-
  The law TraceNumbers, walked; what must come at any rate.
-/
import Derived.Test.YtibinmabdidecaaDoorTrF
import Derived.Test.YtibinmabdidecaaDoorNumR
namespace Go.Proofs.YtibinmabdidecaaDoor
open Go.ChangeShapes Go.WideShapes Go.ChangeAt Go.RowKit
set_option linter.unusedVariables false
def d0 : TrD := ⟨[], [], [[]], 0⟩
theorem right_d0 : rightT d0 = true := by decide +kernel
theorem print_d0 : printT d0 = [116, 114, 97, 99, 101, 32, 48, 32, 48, 10, 108, 97, 116, 99, 104, 101, 115, 32, 45, 10, 99, 121, 99, 108, 101, 32, 45, 10, 98, 97, 100, 32, 48, 10] := by
  have e : decT 0 = [48] := by unfold decT; rw [Int.toNat_zero, Lib.decDigits_one (by decide)]; rfl
  unfold printT headT
  show lineT _ [decT 0, decT 0] ++ _ ++ _ ++ _ ++ lineT _ [decT 0] = _
  rw [e]
  rfl
theorem tr_d0 (w : World) : TrP (w.alloc (.cells #[.slice none 0 0] 27)) d0 (.slice none 0 0) (.slice none 0 0) (.slice (some ⟨w.heap.size, 0, none⟩) 1 1) := by
  refine ⟨Seq.nil _ _ _ _, Seq.nil _ _ _ _, _, 1, rfl, by decide, by unfold maxLen; decide, .inr ⟨w.heap.size, 0, rfl, fun j hj => ?_⟩⟩
  have hj : j = 0 := by simp [d0] at hj; omega
  subst hj
  exact ⟨_, (Blk.new w 27 #[.slice none 0 0]).cell 0, Seq.nil _ _ _ _⟩
def AlivePost (w : World) (e : Ending) (w' : World) : Prop := e = .returned (.bool true) ∧ Below w.heap.size w w'
set_option maxHeartbeats 1000000 in
theorem alive_ {w : World} (ht : Tab w) : Calls Tryd.prog 5 #[] w (AlivePost w) := by
  have hb0 : Below w.heap.size w (w.alloc (.cells #[.slice none 0 0] 27)) := (Below.refl _ _).alloc (Nat.le_refl _) _
  have hp := trace_Print_yes (tr_d0 w) right_d0 (ht.below hb0)
  rw [print_d0] at hp
  have e1 : bs [116, 114, 97, 99, 101, 32, 48, 32, 48, 10, 108, 97, 116, 99, 104, 101, 115, 32, 45, 10, 99, 121, 99, 108, 101, 32, 45, 10, 98, 97, 100, 32, 48, 10] = ⟨#[116, 114, 97, 99, 101, 32, 48, 32, 48, 10, 108, 97, 116, 99, 104, 101, 115, 32, 45, 10, 99, 121, 99, 108, 101, 32, 45, 10, 98, 97, 100, 32, 48, 10]⟩ := rfl
  unfold PrintPost trV d0 at hp
  rw [e1] at hp
  have HP := Lib.hid hp
  have HB0 := Lib.hid hb0
  clear hp ht hb0 e1
  go_enter Tryd.func5, Tryd.ntmps5
  go_wp2_with fail
  refine HP.out.mono ?_
  rintro e w1 ⟨rfl, hb⟩
  have HB := Lib.hid (HB0.out.trans (hb.mono HB0.out.size))
  clear hb
  go_wp2
  go_ret
  exact ⟨rfl, HB.out⟩
set_option maxHeartbeats 1000000 in
theorem claw_numbers {w : World} (ht : Tab w) (s : ByteArray) (hs : s.size ≤ 9223372036854775807) : Calls Tryd.prog 3 #[.string s] w fun e w' => e = .returned (.bool true) ∧ Below w.heap.size w w' := by
  by_cases hl : (60 : Int) < (s.size : Int)
  · have HA := Lib.hid (alive_ ht)
    clear ht
    go_enter Tryd.func3, Tryd.ntmps3
    go_wp2_with fail
    refine HA.out.mono ?_
    rintro e w1 ⟨rfl, hb⟩
    go_wp2
    go_ret
    exact ⟨rfl, hb⟩
  · have N1 := Lib.hid (number_of s w (by omega))
    have N2 := Lib.hid (fun W => r15_number s W (by omega))
    have HT := Lib.hid ht
    clear ht
    generalize numU s.data.toList = o at *
    have c1 : decide ((60 : Int) < (s.size : Int)) = false := decide_eq_false hl
    obtain ⟨a, ha⟩ : ∃ a, a = ansU o := ⟨_, rfl⟩
    unfold NumPost at N1 N2
    rw [← ha] at N1 N2
    obtain ⟨n, b⟩ := a
    clear ha
    go_enter Tryd.func3, Tryd.ntmps3
    go_wp2_with fail
    refine N1.out.mono ?_
    rintro e w1 ⟨rfl, hb1⟩
    have B1 := Lib.hid hb1
    clear hb1
    go_wp2_with fail
    refine (N2.out w1).mono ?_
    rintro e w2 ⟨rfl, hb2⟩
    have B2 := Lib.hid (B1.out.trans (hb2.mono B1.out.size))
    have HA := Lib.hid (alive_ (HT.out.below B2.out))
    clear hb2
    go_wp2_with fail
    refine HA.out.mono ?_
    rintro e w3 ⟨rfl, hb3⟩
    have B3 := Lib.hid (B2.out.trans (hb3.mono B2.out.size))
    clear hb3
    go_wp2
    go_ret
    exact ⟨by simp, B3.out⟩
end Go.Proofs.YtibinmabdidecaaDoor
