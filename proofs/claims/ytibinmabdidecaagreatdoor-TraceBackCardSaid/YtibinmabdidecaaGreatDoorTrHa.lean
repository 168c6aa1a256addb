/-
  What must come at any rate of a witness.
-/
import Derived.Test.YtibinmabdidecaaGreatDoorTrF
namespace Go.Proofs.YtibinmabdidecaaGreatDoor
open Go.ChangeShapes Go.WideShapes Go.ChangeAt Go.RowKit
set_option linter.unusedVariables false
def d0 : TrD := ⟨[], [], [[]], 0⟩
theorem right_d0 : rightT d0 = true := by decide +kernel
theorem print_d0 : printT d0 = [116, 114, 97, 99, 101, 32, 48, 32, 48, 10, 108, 97, 116, 99, 104, 101, 115, 32, 45, 10, 99, 121, 99, 108, 101, 32, 45, 10, 98, 97, 100, 32, 48, 10] := by
  have e : decT 0 = [48] := by unfold decT; rw [Int.toNat_zero, Lib.decDigits_one (by decide)]; rfl
  unfold printT headT
  show lineT _ [decT 0, decT 0] ++ _ ++ _ ++ _ ++ lineT _ [decT 0] = _
  rw [e]
  rfl
theorem tr_d0 (w : World) : TrP (w.alloc (.cells #[.slice none 0 0] 23)) d0 (.slice none 0 0) (.slice none 0 0) (.slice (some ⟨w.heap.size, 0, none⟩) 1 1) := by
  refine ⟨Seq.nil _ _ _ _, Seq.nil _ _ _ _, _, 1, rfl, by decide, by unfold maxLen; decide, .inr ⟨w.heap.size, 0, rfl, fun j hj => ?_⟩⟩
  have hj : j = 0 := by simp [d0] at hj; omega
  subst hj
  exact ⟨_, (Blk.new w 23 #[.slice none 0 0]).cell 0, Seq.nil _ _ _ _⟩
def AlivePost (w : World) (e : Ending) (w' : World) : Prop := e = .returned (.bool true) ∧ Below w.heap.size w w'
set_option maxHeartbeats 1000000 in
theorem alive_ {w : World} (ht : Tab w) : Calls Tryz.prog 5 #[] w (AlivePost w) := by
  have hb0 : Below w.heap.size w (w.alloc (.cells #[.slice none 0 0] 23)) := (Below.refl _ _).alloc (Nat.le_refl _) _
  have hp := trace_Print_yes (tr_d0 w) right_d0 (ht.below hb0)
  rw [print_d0] at hp
  have e1 : bs [116, 114, 97, 99, 101, 32, 48, 32, 48, 10, 108, 97, 116, 99, 104, 101, 115, 32, 45, 10, 99, 121, 99, 108, 101, 32, 45, 10, 98, 97, 100, 32, 48, 10] = ⟨#[116, 114, 97, 99, 101, 32, 48, 32, 48, 10, 108, 97, 116, 99, 104, 101, 115, 32, 45, 10, 99, 121, 99, 108, 101, 32, 45, 10, 98, 97, 100, 32, 48, 10]⟩ := rfl
  unfold PrintPost trV d0 at hp
  rw [e1] at hp
  have HP := Lib.hid hp
  have HB0 := Lib.hid hb0
  clear hp ht hb0 e1
  go_enter Tryz.func5, Tryz.ntmps5
  go_wp2_with fail
  refine HP.out.mono ?_
  rintro e w1 ⟨rfl, hb⟩
  have HB := Lib.hid (HB0.out.trans (hb.mono HB0.out.size))
  clear hb
  go_wp2
  go_ret
  exact ⟨rfl, HB.out⟩
end Go.Proofs.YtibinmabdidecaaGreatDoor
