/-
  Package gates: And at the example; the law's alive.
-/
import Derived.Test.YtkofhilgehhopaaGtE
namespace Go.Proofs.Ytkofhilgehhopaa
open Go Go.ChangeShapes Go.WideShapes Go.ChangeAt Go.RowKit Go.Maps
set_option linter.unusedVariables false
set_option linter.unusedSimpArgs false
set_option linter.unnecessarySimpa false
attribute [local go_sem ↓] Go.wp_at_zero Go.wp_at_succ
theorem cellA (w : World) (v : Value) (T : TypeId) (o2 o3 : Obj) : (((w.alloc (.cells #[v] T)).alloc o2).alloc o3).cell? ⟨w.heap.size, 0, none⟩ = some v :=
  ((al2 (w.alloc (.cells #[v] T)) o2 o3).cell (p := ⟨w.heap.size, 0, none⟩) (by simp)).trans ((Blk.new w T #[v]).cell 0)
theorem cellB (w : World) (v : Value) (T : TypeId) (o1 o3 : Obj) : (((w.alloc o1).alloc (.cells #[v] T)).alloc o3).cell? ⟨w.heap.size + 1, 0, none⟩ = some v :=
  ((al1 ((w.alloc o1).alloc (.cells #[v] T)) o3).cell (p := ⟨w.heap.size + 1, 0, none⟩) (by simp)).trans (by have := (Blk.new (w.alloc o1) T #[v]).cell 0; simpa using this)
section
variable {fp : Nat → Prop} {B : Nat} {w : World} {g f m : Nat} {n : Int} {xss : List (List Int)} {D : DataW Unit}
set_option maxHeartbeats 2000000 in
set_option maxRecDepth 100000 in
theorem And_22 (h : GAt fp B w g f m n xss D) (hb : [2, 2].any (badG n) = false) : Calls Try.prog 10 #[.pointer (some ⟨g, 0, none⟩), .int .i64 2, .int .i64 2] w fun e w' => e = .returned (.int .i64 2) ∧ Below w.heap.size w w' := by
  have hB := al3 w (.cells #[.int .i64 2] 3) (.cells #[.int .i64 2] 3) (.cells #[.int .i64 2, .int .i64 2] 3)
  have hf := fine_ (h.below hB) (int2 ((w.alloc (.cells #[.int .i64 2] 3)).alloc (.cells #[.int .i64 2] 3)) (w.heap.size + 1 + 1) (by simp) 2 2)
  rw [hb] at hf
  have HF := Lib.hid hf
  have HB := Lib.hid hB
  clear h hB hf hb
  go_enter Try.func10, Try.ntmps10
  go_wp2_with fail
  refine HF.out.mono ?_
  rintro e w1 ⟨rfl, hb⟩
  have p1 : w1.cell? ⟨w.heap.size, 0, none⟩ = some (.int .i64 2) := (hb.cell (p := ⟨w.heap.size, 0, none⟩) (by simp; omega)).trans (cellA w _ _ _ _)
  have p2 : w1.cell? ⟨w.heap.size + 1, 0, none⟩ = some (.int .i64 2) := (hb.cell (p := ⟨w.heap.size + 1, 0, none⟩) (by simp)).trans (cellB w _ _ _ _)
  have HB1 := Lib.hid (HB.out.trans (hb.mono HB.out.size))
  clear hb
  go_wp2
  go_ret
  exact ⟨rfl, HB1.out⟩
set_option maxHeartbeats 2000000 in
set_option maxRecDepth 100000 in
/-- The example's conjunction. -/
theorem And_23 (h : GAt fp B w g f m 3 [[1]] (.map [])) (hBw : B ≤ w.heap.size) : Calls Try.prog 10 #[.pointer (some ⟨g, 0, none⟩), .int .i64 2, .int .i64 3] w fun e w' => e = .returned (.int .i64 4) ∧ ∃ D', GSt fp B w g f m 4 [[1], [-4, 2], [-4, 3], [4, -2, -3]] D' w' := by
  have hB := al3 w (.cells #[.int .i64 2] 3) (.cells #[.int .i64 3] 3) (.cells #[.int .i64 2, .int .i64 3] 3)
  have hf := fine_ (h.below hB) (int2 ((w.alloc (.cells #[.int .i64 2] 3)).alloc (.cells #[.int .i64 3] 3)) (w.heap.size + 1 + 1) (by simp) 2 3)
  rw [show [2, 3].any (badG 3) = false by decide +kernel] at hf
  have HF := Lib.hid hf
  have HB := Lib.hid hB
  have H := Lib.hid h
  have HBw := Lib.hid hBw
  obtain ⟨kl, hk⟩ := Option.isSome_iff_exists.1 (by kernel_rfl : (keyOf Try.prog 62 (.agg (keyC 0 2 3 0 ByteArray.empty))).isSome = true)
  have HK := Lib.hid hk
  clear h hB hf hBw hk
  go_enter Try.func10, Try.ntmps10
  go_wp2_with fail
  refine HF.out.mono ?_
  rintro e w1 ⟨rfl, hb⟩
  have p1 : w1.cell? ⟨w.heap.size, 0, none⟩ = some (.int .i64 2) := (hb.cell (p := ⟨w.heap.size, 0, none⟩) (by simp; omega)).trans (cellA w _ _ _ _)
  have p2 : w1.cell? ⟨w.heap.size + 1, 0, none⟩ = some (.int .i64 3) := (hb.cell (p := ⟨w.heap.size + 1, 0, none⟩) (by simp)).trans (cellB w _ _ _ _)
  have hb1 := HB.out.trans (hb.mono HB.out.size)
  have hfl := H.out.fo.lt'
  have hml := H.out.mp.lt
  have hga := gate_and (H.out.below hb1) HK.out rfl (by simp [Maps.size]) (Nat.le_trans HBw.out hb1.size) (by decide) (by decide) (by simp) (pa := w.heap.size) (pb := w.heap.size + 1) (x := 2) (y := 3)
    ⟨p1, fun e => by have := hfl _ e; omega, by omega⟩ ⟨p2, fun e => by have := hfl _ e; omega, by omega⟩ (by omega) (by omega) (by decide) (by decide) (by decide)
  have HGA := Lib.hid hga
  have HB1 := Lib.hid hb1
  unfold keyC at HGA
  clear hb hb1 hfl hml hga
  go_wp2_with fail
  refine HGA.out.mono ?_
  rintro e w2 ⟨rfl, hG⟩
  have HP := Lib.hid (GSt.pre HB1.out HBw.out hG)
  clear hG p1 p2
  go_wp2
  go_ret
  exact ⟨rfl, _, HP.out⟩
end
def exC : List (List Int) := [[1], [-4, 2], [-4, 3], [4, -2, -3]]
theorem exC_ok : ClsOk 4 exC := by
  refine ⟨by decide, fun j hj => ?_⟩
  match j, hj with
  | 0, _ => exact ⟨by decide, by kernel_rfl⟩
  | 1, _ => exact ⟨by decide, by kernel_rfl⟩
  | 2, _ => exact ⟨by decide, by kernel_rfl⟩
  | 3, _ => exact ⟨by decide, by kernel_rfl⟩
theorem exC_cl : AllCl exC := by
  intro c hc
  unfold exC at hc
  simp at hc
  rcases hc with rfl | rfl | rfl | rfl <;> (intro x hx; simp at hx; omega)
theorem exC_n : cntG (goodB [[1], [-4, 2], [-4, 3], [4, -2, -3]] [2, 3, 4] 4) (2 ^ 4) = 1 := by kernel_rfl
theorem exC_m : cntG (goodB [[1], [-4, 2], [-4, 3], [4, -2, -3]] [] 4) (2 ^ 4) = 4 := by kernel_rfl
set_option maxHeartbeats 4000000 in
set_option maxRecDepth 100000 in
theorem alive27 (w : World) : Calls Try.prog 20 #[] w fun e w' => e = .returned (.bool true) ∧ Below w.heap.size w w' := by
  obtain ⟨B, hB⟩ : ∃ B, B = w.heap.size := ⟨_, rfl⟩
  have hN := gates_New w
  rw [← hB] at hN ⊢
  have HN := Lib.hid hN
  have HBB := Lib.hid hB
  clear hN hB
  go_enter Try.func20, Try.ntmps20
  go_wp2_with fail
  refine HN.out.mono ?_
  rintro e w1 ⟨g, f, m, fp, rfl, hG, hb⟩
  have hs1 : B ≤ w1.heap.size := by rw [HBB.out]; exact hb.size
  have HF1 := Lib.hid (Fresh_ hG (by decide) (by decide))
  have HB1 := Lib.hid hb
  have HS1 := Lib.hid hs1
  clear hG hb hs1
  go_wp2_with fail
  refine HF1.out.mono ?_
  rintro e w2 ⟨rfl, fp2, hG, hc, hs, hb⟩
  have HF2 := Lib.hid (Fresh_ hG (by decide) (by decide))
  have HB2 := Lib.hid (HB1.out.trans hb)
  have HS2 := Lib.hid (Nat.le_trans HS1.out hc.size)
  clear hG hc hs hb
  go_wp2_with fail
  refine HF2.out.mono ?_
  rintro e w3 ⟨rfl, fp3, hG, hc, hs, hb⟩
  have HA := Lib.hid (And_23 hG (Nat.le_trans HS2.out hc.size))
  have HB3 := Lib.hid (HB2.out.trans hb)
  have HS3 := Lib.hid (Nat.le_trans HS2.out hc.size)
  clear hG hc hs hb
  go_wp2_with fail
  refine HA.out.mono ?_
  rintro e w4 ⟨rfl, D', fp4, hG, hc, hs, hb⟩
  have HFo := Lib.hid (Formula_ hG (by decide) (by decide) exC_ok)
  have HG4 := Lib.hid hG
  have HB4 := Lib.hid (HB3.out.trans hb)
  have HS4 := Lib.hid (Nat.le_trans HS3.out hc.size)
  clear hG hc hs hb
  go_wp2_with fail
  refine HFo.out.mono ?_
  rintro e w5 ⟨f5, rfl, hF5, hb5⟩
  have hal := al1 w5 (.cells #[.int .i64 2, .int .i64 3, .int .i64 4] 3)
  have HC := Lib.hid (Count_ (n := 4) (hF5.below hal) (by decide) exC_cl (int3 w5 w5.heap.size rfl 2 3 4) (fun x hx => by simp at hx; omega))
  have HB5 := Lib.hid ((HB4.out.trans (hb5.mono HS4.out)).trans (hal.mono (Nat.le_trans HS4.out hb5.size)))
  have HW5 := Lib.hid (hb5.trans (hal.mono hb5.size))
  have HS5 := Lib.hid (Nat.le_trans (Nat.le_trans HS4.out hb5.size) hal.size)
  clear hF5 hb5 hal
  go_wp2_with fail
  refine HC.out.mono ?_
  rw [exC_n]
  rintro e w6 ⟨u6, rfl, -, hb6⟩
  have HW6 := Lib.hid (HW5.out.trans (hb6.mono HW5.out.size))
  have HB6 := Lib.hid (HB5.out.trans (hb6.mono HS5.out))
  have HS6 := Lib.hid (Nat.le_trans HS5.out hb6.size)
  have HFo2 := Lib.hid (Formula_ (HG4.out.below HW6.out) (by decide) (by decide) exC_ok)
  clear hb6
  go_wp2_with fail
  refine HFo2.out.mono ?_
  rintro e w7 ⟨f7, rfl, hF7, hb7⟩
  have HC2 := Lib.hid (Count_ (n := 4) (v := .slice none 0 0) (fs := []) hF7 (by decide) exC_cl ⟨none, 0, rfl, fun _ => rfl, by simp, by simp, .inl rfl⟩ (fun x hx => by simp at hx))
  have HB7 := Lib.hid (HB6.out.trans (hb7.mono HS6.out))
  have HW7 := Lib.hid (HW6.out.trans (hb7.mono HW6.out.size))
  have HS7 := Lib.hid (Nat.le_trans HS6.out hb7.size)
  clear hF7 hb7
  go_wp2_with fail
  refine HC2.out.mono ?_
  rw [exC_m]
  rintro e w8 ⟨u8, rfl, -, hb8⟩
  have hW8 := HW7.out.trans (hb8.mono HW7.out.size)
  have HA2 := Lib.hid (And_22 (HG4.out.below hW8) (by decide +kernel))
  have HW8 := Lib.hid hW8
  have HB8 := Lib.hid (HB7.out.trans (hb8.mono HS7.out))
  have HS8 := Lib.hid (Nat.le_trans HS7.out hb8.size)
  clear hb8 hW8
  go_wp2_with fail
  refine HA2.out.mono ?_
  rintro e w9 ⟨rfl, hb9⟩
  have HFu := Lib.hid (Full_ (HG4.out.below (HW8.out.trans (hb9.mono HW8.out.size))))
  have HB9 := Lib.hid (HB8.out.trans (hb9.mono HS8.out))
  clear hb9
  go_wp2_with ((go_at_call 19; refine (HFu.out).mono ?_; rintro e w' ⟨rfl, rfl⟩))
  go_ret
  exact ⟨rfl, HB9.out⟩
end Go.Proofs.Ytkofhilgehhopaa
