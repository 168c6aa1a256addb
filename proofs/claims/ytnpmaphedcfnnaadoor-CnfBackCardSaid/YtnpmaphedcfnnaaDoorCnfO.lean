/-
  The chapter's example.
-/
import Derived.Test.YtnpmaphedcfnnaaDoorCnfM
import Derived.Deep.RegionLaw
namespace Go.Proofs.YtnpmaphedcfnnaaDoor
open Go.ChangeShapes Go.WideShapes Go.ChangeAt Go.RowKit
set_option linter.unusedVariables false
theorem ex_cnt : cntG (goodB [[1, -2]] [] 2) (2 ^ 2) = 3 := by kernel_rfl
theorem ex_fst : fstG (goodB [[1, -2]] [] 2) (2 ^ 2) = some 0 := by kernel_rfl
theorem ex_print : bs (printT 2 [[1, -2]]) = ⟨#[112, 32, 99, 110, 102, 32, 50, 32, 49, 10, 49, 32, 45, 50, 32, 48, 10]⟩ := by kernel_rfl
theorem ex_right : rightB [1, -2] 2 = true := by kernel_rfl
theorem ex_cl : AllCl [[1, -2]] := by
  intro c hc
  simp at hc
  subst hc
  exact (rightB_cl ex_right (by decide)).1
theorem ex_ok : ∀ k, k < ([[1, -2]] : List (List Int)).length → Ok64 (([[1, -2]] : List (List Int)).getD k []) ∧ (([[1, -2]] : List (List Int)).getD k []).length ≤ 1000 := by
  intro k hk
  simp at hk
  subst hk
  exact ⟨(rightB_cl ex_right (by decide)).2, by decide⟩
theorem ex_ints (w : World) : Ints (w.alloc (.cells #[.int .i64 1, .int .i64 (-2)] 3)) (.slice (some ⟨w.heap.size, 0, none⟩) 2 2) [1, -2] := by
  refine ⟨_, _, rfl, by simp, by simp, by simp [maxLen], .inr ⟨w.heap.size, 0, rfl, fun j hj => ?_⟩⟩
  have hB := Blk.new w 3 #[.int .i64 1, .int .i64 (-2)]
  simp at hj
  match j, hj with
  | 0, _ => exact hB.cell 0
  | 1, _ => exact hB.cell 1
set_option maxHeartbeats 1000000 in
set_option maxRecDepth 100000 in
theorem alive_ {w : World} (ht : Tab w) : Calls Tryd.prog 10 #[] w fun e w' => e = .returned (.bool true) ∧ Below w.heap.size w w' := by
  have HN := Lib.hid (New_F 2 (by decide) (by decide) w)
  have HT := Lib.hid ht
  clear ht
  go_enter Tryd.func10, Tryd.ntmps10
  go_wp2_with fail
  refine HN.out.mono ?_
  rintro e w1 ⟨rfl, hF, hb, hsz⟩
  have hbA : Below w1.heap.size w1 (w1.alloc (.cells #[.int .i64 1, .int .i64 (-2)] 3)) := (Below.refl _ _).alloc (Nat.le_refl _) _
  have HA := Lib.hid (Add_yes (hF.below hbA) (by have := hb.size; simp; omega) (by decide) (by decide) (ex_ints w1) ex_right (by simp) (by simp))
  have HB := Lib.hid (hb.trans (hbA.mono hb.size))
  have HS := Lib.hid hsz
  clear hF hb hbA hsz
  go_wp2_with fail
  refine HA.out.mono ?_
  rintro e w2 ⟨rfl, fp, hF, -, -, hb2⟩
  rw [show ([] ++ [[1, -2]] : List (List Int)) = [[1, -2]] from rfl] at hF
  have HC := Lib.hid (Count_ (n := 2) (v := .slice none 0 0) (fs := []) hF.toF (by decide) ex_cl ⟨none, 0, rfl, fun _ => rfl, by simp, by simp, .inl rfl⟩ (fun x hx => by simp at hx))
  have HF := Lib.hid hF
  have HB2 := Lib.hid (HB.out.trans (hb2.mono (Nat.le_refl _)))
  clear hF hb2
  go_wp2_with fail
  refine HC.out.mono ?_
  rw [ex_cnt, ex_fst]
  rintro e w3 ⟨u, rfl, ⟨⟨ua, uc, rfl, -, -, -⟩, -, -⟩, hb3⟩
  have hm : (model 0 2).length = 3 := by kernel_rfl
  rw [hm]
  have HB3 := Lib.hid (HB2.out.trans (hb3.mono HB2.out.size))
  have HP := Lib.hid (Print_ (HF.out.toF.below hb3) (HT.out.below HB3.out) (by unfold i64ok; decide) (by decide) ex_ok)
  clear hb3 hm
  go_wp2_with fail
  refine HP.out.mono ?_
  rw [ex_print]
  rintro e w4 ⟨rfl, hb4⟩
  have HB4 := Lib.hid (HB3.out.trans (hb4.mono HB3.out.size))
  clear hb4
  go_wp2
  go_ret
  exact ⟨rfl, HB4.out⟩
end Go.Proofs.YtnpmaphedcfnnaaDoor
