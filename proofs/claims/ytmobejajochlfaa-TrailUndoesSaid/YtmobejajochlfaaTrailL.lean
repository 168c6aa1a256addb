/-
  The laws of chapter 21: alive, TrailNils.
-/
import Derived.Test.YtmobejajochlfaaTrailP
import Derived.Test.YtmobejajochlfaaFrame
namespace Go.Proofs.Ytmobejajochlfaa
open Go.ChangeShapes Go.WideShapes Go.ChangeAt Go.RowKit
set_option linter.unusedVariables false

theorem trail_Lits {w : World} {t : Nat} {s : TS} {fp : List Nat} (h : TrailAt w t s fp) (hs : s.l.length ≤ 1099511627776) :
    Calls Try.prog 9 #[.pointer (some ⟨t, 0, none⟩)] w fun e w' => ∃ u, e = .returned u ∧ ClonePost w s.l u w' := by
  obtain ⟨vl, gm, cm, vv, vw, hp, rfl⟩ := h.parts
  obtain ⟨k0, -, -, -, -, -⟩ := hp.c
  have hl : Ints w vl s.l := Row.ints hp.l
  obtain ⟨al, cl, rfl⟩ := own_slice hp.l
  have HL := Lib.hid hl
  clear hp h hl
  go_enter Try.func9, Try.ntmps9
  go_wp2_with ((go_at_call 20; refine (slices_Clone HL.out hs).mono ?_; rintro e w1 ⟨u, rfl, hp⟩))
  go_ret
  exact ⟨u, rfl, hp⟩

def sA : TS := (TS.new 2).up.put 1 (-1)
def sB : TS := sA.put (-2) 7
theorem good_A : Good sA 1 := Good.upput ⟨ok_new 2, signs_new 2, by simp [TS.new], by simp [TS.new]⟩ _ _ (by decide +kernel) (by omega)
theorem good_B : Good sB 2 := good_A.put _ _ (by decide +kernel) (by omega)
theorem pair_21 (w : World) : Ints (w.alloc (.cells #[.int .i64 2, .int .i64 1] 3)) (.slice (some ⟨w.heap.size, 0, none⟩) 2 2) [2, 1] := by
  refine ⟨_, 2, rfl, (fun h => by cases h), by simp, by simp [maxLen], .inr ⟨w.heap.size, 0, rfl, fun j hj => ?_⟩⟩
  match j, hj with
  | 0, _ => simp [World.cell?_alloc_at]
  | 1, _ => simp [World.cell?_alloc_at]

set_option maxHeartbeats 1000000 in
set_option maxRecDepth 100000 in
theorem alive (w : World) : Calls Try.prog 5 #[] w fun e w' => e = .returned (.bool true) ∧ Below w.heap.size w w' := by
  have hgA := good_A
  have hgB := good_B
  have HGA := Lib.hid hgA
  have HGB := Lib.hid hgB
  clear hgA hgB
  go_enter Try.func5, Try.ntmps5
  go_wp2_with fail
  refine (trail_New 2 (by omega) _).mono ?_
  rintro e w1 ⟨rfl, hT, hb⟩
  obtain ⟨t, ht⟩ : ∃ t, t = w.heap.size + 1 := ⟨_, rfl⟩
  rw [← ht] at hT ⊢
  have ho1 : Obj w.heap.size w w1 t (TS.new 2) := ⟨_, hT, by intro k hk; simp at hk; omega, hb, hb.size⟩
  clear ht hT hb
  obtain ⟨fp, hT, hf, hb, hB⟩ := ho1
  have HF := Lib.hid hf
  clear hf
  go_wp2_with fail
  refine (trail_Decide_yes hT 1 (by decide +kernel) (by simp [TS.new]) (by simp [TS.new]) (by simp [TS.new]) (by simp [TS.new]) (by simp [TS.new])).mono ?_
  rintro e w2 ⟨rfl, hD⟩
  have ho2 : Obj w.heap.size w w2 t sA := Obj.done hT HF.out hb hB hD
  clear hD hT hb hB HF
  obtain ⟨fp2, hT, hf, hb, hB⟩ := ho2
  have HF := Lib.hid hf
  clear hf
  go_wp2_with fail
  refine (trail_Imply_yes hT (-2) 7 (by decide +kernel) (by have := HGA.out.2.2.1; omega) (by rw [HGA.out.1.wh]; have := HGA.out.2.2.1; omega) HGA.out.1.now0 (by have := HGA.out.2.2.2; omega)).mono ?_
  rintro e w3 ⟨rfl, hD⟩
  have ho3 : Obj w.heap.size w w3 t sB := Obj.done hT HF.out hb hB hD
  clear hD hT hb hB HF
  obtain ⟨fp3, hT, hf, hb, hB⟩ := ho3
  have HF := Lib.hid hf
  clear hf
  go_wp2_with fail
  refine (trail_Value hT HGB.out.2.1 2).mono ?_
  rintro e w4 ⟨rfl, rfl⟩
  rw [show sB.value 2 = -1 by decide +kernel]
  go_wp2_with fail
  refine (trail_Reason hT 2).mono ?_
  rintro e w5 ⟨rfl, hb5⟩
  rw [show sB.reason 2 = 7 by decide +kernel]
  have hT5 := hT.below hb5
  go_wp2_with fail
  refine (trail_Level hT5 1).mono ?_
  rintro e w6 ⟨rfl, hb6⟩
  rw [show sB.level 1 = 1 by decide +kernel]
  have hT6 := hT5.below hb6
  have hb06 := (hb.trans (hb5.mono hB)).trans (hb6.mono (Nat.le_trans hB hb5.size))
  have hB6 := Nat.le_trans (Nat.le_trans hB hb5.size) hb6.size
  clear hT5 hT hb5 hb6 hb hB
  go_wp2_with fail
  refine (trail_Back_some hT6 HGB.out.1 0 (by decide +kernel) 0 (.inl rfl)).mono ?_
  rintro e w7 ⟨v, rfl, hrow, -, hD⟩
  have hbv : sB.backVs 0 = [2, 1] := by decide +kernel
  rw [hbv] at hrow
  have hI : Ints w7 v [2, 1] := Row.ints hrow
  have ho7 : Obj w.heap.size w w7 t (sB.back 0) := Obj.done hT6 HF.out hb06 hB6 hD
  clear hD hT6 hb06 hB6 HF hrow hbv
  obtain ⟨fp7, hT, hf, hb, hB⟩ := ho7
  go_wp2_with fail
  refine (r01_Same (hI.below ((Below.refl _ _).alloc (Nat.le_refl _) _)) (pair_21 w7)).mono ?_
  rintro e w8 ⟨rfl, hq⟩
  rw [sameB_self]
  have hb78 : Below w7.heap.size w7 w8 := ((Below.refl _ w7).alloc (Nat.le_refl _) _).trans (hq.below.mono (by simp))
  have hT8 := hT.below hb78
  go_wp2_with fail
  refine (trail_Len hT8).mono ?_
  rintro e w9 ⟨rfl, rfl⟩
  rw [show (sB.back 0).l.length = 0 by decide +kernel]
  go_wp2_with fail
  go_ret
  exact ⟨rfl, hb.trans (hb78.mono hB)⟩

set_option maxRecDepth 100000 in
theorem nils (l : Int) (w : World) : Calls Try.prog 4 #[.int .i64 l] w fun e w' => e = .returned (.bool true) ∧ Below w.heap.size w w' := by
  go_enter Try.func4, Try.ntmps4
  go_wp2_with (first | (go_at_call 15; refine (trail_Grow_nil _ _).mono ?_; rintro e w' ⟨rfl, rfl⟩) | (go_at_call 13; refine (trail_Value_nil _ _).mono ?_; rintro e w' ⟨rfl, rfl⟩) | (go_at_call 7; refine (trail_Decide_nil _ _).mono ?_; rintro e w' ⟨rfl, rfl⟩) | (go_at_call 8; refine (trail_Imply_nil _ _ _).mono ?_; rintro e w' ⟨rfl, rfl⟩) | (go_at_call 14; refine (trail_Level_nil _ _).mono ?_; rintro e w' ⟨rfl, rfl⟩) | (go_at_call 16; refine (trail_Reason_nil _ _).mono ?_; rintro e w' ⟨rfl, rfl⟩) | (go_at_call 10; refine (trail_Depth_nil _).mono ?_; rintro e w' ⟨rfl, rfl⟩) | (go_at_call 11; refine (trail_Back_nil _ _).mono ?_; rintro e w' ⟨rfl, rfl⟩) | (go_at_call 9; refine (trail_Lits_nil _).mono ?_; rintro e w' ⟨rfl, rfl⟩) | (go_at_call 17; refine (trail_At_nil _ _).mono ?_; rintro e w' ⟨rfl, rfl⟩) | (go_at_call 18; refine (trail_Len_nil _).mono ?_; rintro e w' ⟨rfl, rfl⟩) | (go_at_call 5; refine (alive _).mono ?_; rintro e w' ⟨rfl, hb⟩))
  go_ret
  exact ⟨rfl, hb⟩
end Go.Proofs.Ytmobejajochlfaa
