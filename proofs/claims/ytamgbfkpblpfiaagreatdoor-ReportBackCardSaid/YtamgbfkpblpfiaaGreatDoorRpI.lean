/-
  The law ReportWords; what must come at any rate.
-/
import Derived.Test.YtamgbfkpblpfiaaGreatDoorRpE
namespace Go.Proofs.YtamgbfkpblpfiaaGreatDoor
open Go.ChangeShapes Go.WideShapes Go.ChangeAt Go.RowKit
set_option linter.unusedVariables false
def rp0 : RpD := ⟨0, 0, 0, 0, tr0, 0, 0, false, []⟩
theorem right_rp0 : rightR rp0 = true := by decide +kernel
def rp0T : List UInt8 := [118, 101, 114, 100, 105, 99, 116, 32, 117, 110, 107, 110, 111, 119, 110, 10, 100, 101, 112, 116, 104, 32, 48, 10, 102, 97, 117, 108, 116, 32, 111, 107, 32, 48, 10, 99, 97, 108, 108, 115, 32, 48, 32, 48, 10, 115, 112, 101, 110, 116, 32, 110, 111, 10, 112, 111, 114, 116, 115, 32, 45, 10]
theorem print_rp0 : rpT rp0 = rp0T := by
  have e : decT 0 = [48] := by unfold decT; rw [Int.toNat_zero, Lib.decDigits_one (by decide)]; rfl
  unfold rpT
  show lineT _ _ ++ lineT _ [decT 0] ++ lineT _ [_, decT 0] ++ lineT _ [decT 0, decT 0] ++ _ ++ _ ++ _ = _
  rw [e]
  rfl
theorem rp0_at (w : World) : RpP w rp0 (.slice none 0 0) (.slice none 0 0) (.slice none 0 0) (.slice none 0 0) := ⟨tr0_at w, ints_nil w⟩
def AlivePost (w : World) (e : Ending) (w' : World) : Prop := e = .returned (.bool true) ∧ Below w.heap.size w w'
set_option maxHeartbeats 1000000 in
theorem alive_ {w : World} (ht : Tab w) : Calls Tryz.prog 5 #[] w (AlivePost w) := by
  have hp := report_Print_yes (rp0_at w) right_rp0 ht
  rw [print_rp0] at hp
  have e1 : bs rp0T = ⟨#[118, 101, 114, 100, 105, 99, 116, 32, 117, 110, 107, 110, 111, 119, 110, 10, 100, 101, 112, 116, 104, 32, 48, 10, 102, 97, 117, 108, 116, 32, 111, 107, 32, 48, 10, 99, 97, 108, 108, 115, 32, 48, 32, 48, 10, 115, 112, 101, 110, 116, 32, 110, 111, 10, 112, 111, 114, 116, 115, 32, 45, 10]⟩ := rfl
  unfold RPost rpV rp0 tr0 at hp
  rw [e1] at hp
  have e2 : bs (wordV 2) = ⟨#[117, 110, 115, 97, 102, 101]⟩ := rfl
  have HW := Lib.hid (fun W => report_Word 2 W)
  rw [e2] at HW
  have HP := Lib.hid hp
  clear hp ht e1 e2
  go_enter Tryz.func5, Tryz.ntmps5
  go_wp2_with fail
  refine HP.out.mono ?_
  rintro e w1 ⟨rfl, hb⟩
  have HB := Lib.hid hb
  clear hb
  go_wp2_with fail
  refine (HW.out _).mono ?_
  rintro e w2 ⟨rfl, hb⟩
  have HB2 := Lib.hid (HB.out.trans (hb.mono HB.out.size))
  clear hb
  go_wp2
  go_ret
  exact ⟨rfl, HB2.out⟩
end Go.Proofs.YtamgbfkpblpfiaaGreatDoor
