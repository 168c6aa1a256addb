/-
  Package gates: Choose, walked for any literals that may be.
-/
import Derived.Test.YtkofhilgehhopaaGuC
import Derived.Test.YtkofhilgehhopaaGuE
namespace Go.Proofs.Ytkofhilgehhopaa
open Go Go.ChangeShapes Go.WideShapes Go.ChangeAt Go.RowKit Go.Maps
set_option linter.unusedVariables false
set_option linter.unusedSimpArgs false
attribute [local go_sem ↓] Go.wp_at_zero Go.wp_at_succ
theorem cell3A (w : World) (v : Value) (T : TypeId) (o2 o3 o4 : Obj) : ((((w.alloc (.cells #[v] T)).alloc o2).alloc o3).alloc o4).cell? ⟨w.heap.size, 0, none⟩ = some v :=
  ((al3 (w.alloc (.cells #[v] T)) o2 o3 o4).cell (p := ⟨w.heap.size, 0, none⟩) (by simp)).trans ((Blk.new w T #[v]).cell 0)
theorem cell3B (w : World) (v : Value) (T : TypeId) (o1 o3 o4 : Obj) : ((((w.alloc o1).alloc (.cells #[v] T)).alloc o3).alloc o4).cell? ⟨w.heap.size + 1, 0, none⟩ = some v :=
  ((al2 ((w.alloc o1).alloc (.cells #[v] T)) o3 o4).cell (p := ⟨w.heap.size + 1, 0, none⟩) (by simp)).trans (by simp)
theorem cell3C (w : World) (v : Value) (T : TypeId) (o1 o2 o4 : Obj) : ((((w.alloc o1).alloc o2).alloc (.cells #[v] T)).alloc o4).cell? ⟨w.heap.size + 1 + 1, 0, none⟩ = some v := by
  have e : ((w.alloc o1).alloc o2).heap.size = w.heap.size + 1 + 1 := by simp
  have h := (Blk.new ((w.alloc o1).alloc o2) T #[v]).cell 0
  have h2 := (al1 (((w.alloc o1).alloc o2).alloc (.cells #[v] T)) o4).cell (p := ⟨((w.alloc o1).alloc o2).heap.size, 0, none⟩) (by simp)
  rw [e] at h h2
  exact h2.trans h
section
variable {fp : Nat → Prop} {B : Nat} {w : World} {g f m : Nat} {S : GS}
set_option maxHeartbeats 4000000 in
set_option maxRecDepth 100000 in
theorem Choose_ (h : GMem fp B w g f m S) (hB : B ≤ w.heap.size) (hr : Room S) {c a b : Int} (hc : okL S.n c) (ha : okL S.n a) (hb : okL S.n b) :
    Calls Try.prog 12 #[.pointer (some ⟨g, 0, none⟩), .int .i64 c, .int .i64 a, .int .i64 b] w fun e w' => e = .returned (.int .i64 (chooseS c a b S).1) ∧ GLeft fp B w g f m (chooseS c a b S).2 w' := by
  have h0 := h
  obtain ⟨D, hrep, hG⟩ := h
  have hB3 := al4 w (.cells #[.int .i64 c] 3) (.cells #[.int .i64 a] 3) (.cells #[.int .i64 b] 3) (.cells #[.int .i64 c, .int .i64 a, .int .i64 b] 3)
  have hf := fine_ (hG.below hB3) (int3 (((w.alloc (.cells #[.int .i64 c] 3)).alloc (.cells #[.int .i64 a] 3)).alloc (.cells #[.int .i64 b] 3)) (w.heap.size + 1 + 1 + 1) (by simp) c a b)
  rw [show [c, a, b].any (badG (S.n : Int)) = false by simp [badG_ok (by have := hr.n; omega) ha, badG_ok (by have := hr.n; omega) hb, badG_ok (by have := hr.n; omega) hc]] at hf
  have hfl := hG.fo.lt'
  have hml := hG.mp.lt
  have HF := Lib.hid hf
  have H0 := Lib.hid h0
  have HB := Lib.hid hB
  have HB3 := Lib.hid hB3
  have HFL := Lib.hid hfl
  have HML := Lib.hid hml
  have HRM := Lib.hid hr
  have HA := Lib.hid ha
  have HBB := Lib.hid hb
  have HCC := Lib.hid hc
  have hn := hr.n
  have a0 : -60000 ≤ a := by have := ha.2.1; omega
  have a1 : a ≤ 60000 := by have := ha.2.2; omega
  have b0 : -60000 ≤ b := by have := hb.2.1; omega
  have b1 : b ≤ 60000 := by have := hb.2.2; omega
  have c0 : -60000 ≤ c := by have := hc.2.1; omega
  have c1 : c ≤ 60000 := by have := hc.2.2; omega
  clear h0 hrep hG hB3 hf hfl hml hB hr ha hb hn hc
  go_enter Try.func12, Try.ntmps12
  go_wp2_with fail
  refine HF.out.mono ?_
  rintro e w1 ⟨rfl, hb⟩
  have p1 : w1.cell? ⟨w.heap.size, 0, none⟩ = some (.int .i64 c) := (hb.cell (p := ⟨w.heap.size, 0, none⟩) (by simp; omega)).trans (cell3A w _ _ _ _ _)
  have p2 : w1.cell? ⟨w.heap.size + 1, 0, none⟩ = some (.int .i64 a) := (hb.cell (p := ⟨w.heap.size + 1, 0, none⟩) (by first | (simp; done) | (simp; omega))).trans (cell3B w _ _ _ _ _)
  have p3 : w1.cell? ⟨w.heap.size + 1 + 1, 0, none⟩ = some (.int .i64 b) := (hb.cell (p := ⟨w.heap.size + 1 + 1, 0, none⟩) (by simp)).trans (cell3C w _ _ _ _ _)
  have hb1 := HB3.out.trans (hb.mono HB3.out.size)
  have HB1 := Lib.hid hb1
  have HL : Hid (∀ r, chooseS c a b S = (r, S) → GLeft fp B w g f m (chooseS c a b S).2 w1) := Lib.hid fun r e => by rw [e]; exact GLeft.same H0.out hb1 HB.out
  clear hb hb1
  rcases (show c = 1 ∨ (c ≠ 1 ∧ a = b) ∨ (c ≠ 1 ∧ a ≠ b ∧ c = -1) ∨ (c ≠ 1 ∧ a ≠ b ∧ c ≠ -1) by omega) with q1 | ⟨q1, q2⟩ | ⟨q1, q2, q3⟩ | ⟨q1, q2, q3⟩
  · have HE : Hid (chooseS c a b S = (a, S)) := Lib.hid (by unfold chooseS; rw [if_pos (.inl q1)])
    have d1 : (c == 1) = true := by rw [beq_iff_eq]; exact q1
    clear q1
    go_wp2_with fail
    go_ret
    exact ⟨by rw [HE.out]; rfl, HL.out _ HE.out⟩
  · have HE : Hid (chooseS c a b S = (a, S)) := Lib.hid (by unfold chooseS; rw [if_pos (.inr q2)])
    have d1 : (c == 1) = false := by rw [beq_eq_false_iff_ne]; exact q1
    have d2 : (a == b) = true := by rw [beq_iff_eq]; exact q2
    clear q1 q2
    go_wp2_with fail
    go_ret
    exact ⟨by rw [HE.out]; rfl, HL.out _ HE.out⟩
  · have HE : Hid (chooseS c a b S = (b, S)) := Lib.hid (by unfold chooseS; rw [if_neg (by omega), if_pos q3])
    have d1 : (c == 1) = false := by rw [beq_eq_false_iff_ne]; exact q1
    have d2 : (a == b) = false := by rw [beq_eq_false_iff_ne]; exact q2
    have d3 : (c == -1) = true := by rw [beq_iff_eq]; exact q3
    clear q1 q2 q3
    go_wp2_with fail
    go_ret
    exact ⟨by rw [HE.out]; rfl, HL.out _ HE.out⟩
  · have HE : Hid (chooseS c a b S = gateS ⟨2, c, a, b, []⟩ (fun o => [[-c, -a, o], [-c, a, -o], [c, -b, o], [c, b, -o]]) S) := Lib.hid (by unfold chooseS; rw [if_neg (by omega), if_neg (by omega)])
    have d1 : (c == 1) = false := by rw [beq_eq_false_iff_ne]; exact q1
    have d2 : (a == b) = false := by rw [beq_eq_false_iff_ne]; exact q2
    have d3 : (c == -1) = false := by rw [beq_eq_false_iff_ne]; exact q3
    have bp1 : BoxG fp w1 m w.heap.size (.int .i64 c) := ⟨p1, fun e => by have := HFL.out _ e; omega, by have := HML.out; omega⟩
    have bp2 : BoxG fp w1 m (w.heap.size + 1) (.int .i64 a) := ⟨p2, fun e => by have := HFL.out _ e; omega, by have := HML.out; omega⟩
    have bp3 : BoxG fp w1 m (w.heap.size + 1 + 1) (.int .i64 b) := ⟨p3, fun e => by have := HFL.out _ e; omega, by have := HML.out; omega⟩
    have hn := HRM.out.n
    have ok : ∀ x ∈ [c, a, b, (S.n : Int) + 1], okL (S.n + 1) x ∧ okL (S.n + 1) (-x) := by
      intro x hx
      have e1 := HA.out
      have e2 := HBB.out
      have e3 := HCC.out
      simp at hx
      unfold okL at *
      omega
    have rg : ∀ l : List Int, (∀ x ∈ l, ∃ y ∈ [c, a, b, (S.n : Int) + 1], x = y ∨ x = -y) → rightB l ((S.n : Int) + 1) = true := fun l hl => rightB_ok (n := S.n + 1) (fun x hx => by
      obtain ⟨y, hy, e | e⟩ := hl x hx
      · rw [e]; exact (ok y hy).1
      · rw [e]; exact (ok y hy).2)
    have hga := gate_C (H0.out.below HB1.out) ⟨2, c, a, b, []⟩ ⟨by unfold wf64'; dsimp only; omega, by unfold wf64'; dsimp only; omega, by unfold wf64'; dsimp only; omega, by unfold wf64'; dsimp only; omega, by simp⟩ (Nat.le_trans HB.out HB1.out.size) hn HRM.out.tb (pa := w.heap.size) (pb := w.heap.size + 1) (pc := w.heap.size + 1 + 1) (fun o => [[-c, -a, o], [-c, a, -o], [c, -b, o], [c, b, -o]])
      (fun fp1 w1' D1 hc hs hG1 hx1 hB1' => choose_put hG1 hx1 (bp1.chg hc hs) (bp2.chg hc hs) (bp3.chg hc hs) hB1' ⟨by have := HRM.out.cl; omega, by omega, by omega⟩ ⟨by omega, by omega⟩ ⟨by omega, by omega⟩ ⟨by omega, by omega⟩ ⟨by omega, by omega⟩
        (rg _ (by simp)) (rg _ (by simp)) (rg _ (by simp)) (rg _ (by simp)))
    have HGA := Lib.hid hga
    unfold GKey.v keyC at HGA
    dsimp only at HGA
    clear q1 q2 q3 bp1 bp2 bp3 hn ok hga rg
    go_wp2_with fail
    refine HGA.out.mono ?_
    rintro e w2 ⟨rfl, hL⟩
    have HP := Lib.hid (GLeft.pre HB1.out HB.out hL)
    clear hL p1 p2 p3
    go_wp2
    go_ret
    exact ⟨by rw [HE.out]; rfl, by rw [HE.out]; exact HP.out⟩
end
end Go.Proofs.Ytkofhilgehhopaa
