/-
  Package gates: And, Or, walked for any literals that may be.
-/
import Derived.Test.YtkofhilgehhopaaGuB
import Derived.Test.YtkofhilgehhopaaGuD
import Derived.Test.YtkofhilgehhopaaGuC
namespace Go.Proofs.Ytkofhilgehhopaa
open Go Go.ChangeShapes Go.WideShapes Go.ChangeAt Go.RowKit Go.Maps
set_option linter.unusedVariables false
set_option linter.unusedSimpArgs false
set_option linter.unnecessarySimpa false
attribute [local go_sem ↓] Go.wp_at_zero Go.wp_at_succ
theorem badG_ok {n : Nat} {x : Int} (hn : n ≤ 65536) (h : okL n x) : badG (n : Int) x = false := by
  obtain ⟨h0, h1, h2⟩ := h
  unfold badG
  have hw : wrap64 (-x) = -x := by unfold wrap64; omega
  rw [hw, decide_eq_false h0, decide_eq_false (by omega), decide_eq_false (by omega)]
  rfl
theorem rightB_ok {n : Nat} {c : List Int} (h : ∀ x ∈ c, okL n x) : rightB c (n : Int) = true := by
  unfold rightB
  rw [List.all_eq_true]
  intro x hx
  obtain ⟨h0, h1, h2⟩ := h x hx
  exact decide_eq_true ⟨h0, by omega, h1, h2⟩
/-- There is room. -/
structure Room (S : GS) : Prop where
  n : S.n < 60000
  cl : S.cl.length ≤ 97000
  tb : S.tab.length ≤ 1000000
theorem cellA' (w : World) (v : Value) (T : TypeId) (o2 o3 : Obj) : (((w.alloc (.cells #[v] T)).alloc o2).alloc o3).cell? ⟨w.heap.size, 0, none⟩ = some v :=
  ((al2 (w.alloc (.cells #[v] T)) o2 o3).cell (p := ⟨w.heap.size, 0, none⟩) (by simp)).trans ((Blk.new w T #[v]).cell 0)
theorem cellB' (w : World) (v : Value) (T : TypeId) (o1 o3 : Obj) : (((w.alloc o1).alloc (.cells #[v] T)).alloc o3).cell? ⟨w.heap.size + 1, 0, none⟩ = some v :=
  ((al1 ((w.alloc o1).alloc (.cells #[v] T)) o3).cell (p := ⟨w.heap.size + 1, 0, none⟩) (by simp)).trans (by have := (Blk.new (w.alloc o1) T #[v]).cell 0; simpa using this)
section
variable {fp : Nat → Prop} {B : Nat} {w : World} {g f m : Nat} {S : GS}
theorem GMem.below (h : GMem fp B w g f m S) {w' : World} (hb : Below w.heap.size w w') : GMem fp B w' g f m S := by
  obtain ⟨D, h1, h2⟩ := h
  exact ⟨D, h1, h2.below hb⟩
theorem GLeft.pre {S' : GS} {w0 w2 : World} (hb : Below w.heap.size w w0) (hB : B ≤ w.heap.size) (h2 : GLeft fp B w0 g f m S' w2) : GLeft fp B w g f m S' w2 := by
  obtain ⟨D, h1, h2⟩ := h2
  exact ⟨D, h1, GSt.pre hb hB h2⟩
theorem GLeft.same (h : GMem fp B w g f m S) {w' : World} (hb : Below w.heap.size w w') (hB : B ≤ w.heap.size) : GLeft fp B w g f m S w' := by
  obtain ⟨D, h1, h2⟩ := h
  exact ⟨D, h1, GSt.of h2 hb hB⟩
set_option maxHeartbeats 4000000 in
set_option maxRecDepth 100000 in
theorem And_ (h : GMem fp B w g f m S) (hB : B ≤ w.heap.size) (hr : Room S) {a b : Int} (ha : okL S.n a) (hb : okL S.n b) :
    Calls Try.prog 10 #[.pointer (some ⟨g, 0, none⟩), .int .i64 a, .int .i64 b] w fun e w' => e = .returned (.int .i64 (andS a b S).1) ∧ GLeft fp B w g f m (andS a b S).2 w' := by
  have h0 := h
  obtain ⟨D, hrep, hG⟩ := h
  have hB3 := al3 w (.cells #[.int .i64 a] 3) (.cells #[.int .i64 b] 3) (.cells #[.int .i64 a, .int .i64 b] 3)
  have hf := fine_ (hG.below hB3) (int2 ((w.alloc (.cells #[.int .i64 a] 3)).alloc (.cells #[.int .i64 b] 3)) (w.heap.size + 1 + 1) (by simp) a b)
  rw [show [a, b].any (badG (S.n : Int)) = false by simp [badG_ok (by have := hr.n; omega) ha, badG_ok (by have := hr.n; omega) hb]] at hf
  have hfl := hG.fo.lt'
  have hml := hG.mp.lt
  have HF := Lib.hid hf
  have H0 := Lib.hid h0
  have HB := Lib.hid hB
  have HB3 := Lib.hid hB3
  have HFL := Lib.hid hfl
  have HML := Lib.hid hml
  have HRM := Lib.hid hr
  have HA := Lib.hid ha
  have HBB := Lib.hid hb
  have hn := hr.n
  have a0 : -60000 ≤ a := by have := ha.2.1; omega
  have a1 : a ≤ 60000 := by have := ha.2.2; omega
  have b0 : -60000 ≤ b := by have := hb.2.1; omega
  have b1 : b ≤ 60000 := by have := hb.2.2; omega
  clear h0 hrep hG hB3 hf hfl hml hB hr ha hb hn
  go_enter Try.func10, Try.ntmps10
  go_wp2_with fail
  refine HF.out.mono ?_
  rintro e w1 ⟨rfl, hb⟩
  have p1 : w1.cell? ⟨w.heap.size, 0, none⟩ = some (.int .i64 a) := (hb.cell (p := ⟨w.heap.size, 0, none⟩) (by simp; omega)).trans (cellA' w _ _ _ _)
  have p2 : w1.cell? ⟨w.heap.size + 1, 0, none⟩ = some (.int .i64 b) := (hb.cell (p := ⟨w.heap.size + 1, 0, none⟩) (by simp)).trans (cellB' w _ _ _ _)
  have hb1 := HB3.out.trans (hb.mono HB3.out.size)
  have HB1 := Lib.hid hb1
  have HL : Hid (∀ r, andS a b S = (r, S) → GLeft fp B w g f m (andS a b S).2 w1) := Lib.hid fun r e => by rw [e]; exact GLeft.same H0.out hb1 HB.out
  clear hb hb1
  rcases (show a = -1 ∨ (a ≠ -1 ∧ b = -1) ∨ (a ≠ -1 ∧ b ≠ -1 ∧ a = -b) ∨ (a ≠ -1 ∧ b ≠ -1 ∧ a ≠ -b ∧ a = 1) ∨ (a ≠ -1 ∧ b ≠ -1 ∧ a ≠ -b ∧ a ≠ 1 ∧ a = b) ∨ (a ≠ -1 ∧ b ≠ -1 ∧ a ≠ -b ∧ a ≠ 1 ∧ a ≠ b ∧ b = 1) ∨ (a ≠ -1 ∧ b ≠ -1 ∧ a ≠ -b ∧ a ≠ 1 ∧ a ≠ b ∧ b ≠ 1) by omega)
    with q1 | ⟨q1, q2⟩ | ⟨q1, q2, q3⟩ | ⟨q1, q2, q3, q4⟩ | ⟨q1, q2, q3, q4, q5⟩ | ⟨q1, q2, q3, q4, q5, q6⟩ | ⟨q1, q2, q3, q4, q5, q6⟩
  · have HE : Hid (andS a b S = (-1, S)) := Lib.hid (by unfold andS; rw [if_pos (.inl q1)])
    have d1 : (a == -1) = true := by rw [beq_iff_eq]; exact q1
    clear q1
    go_wp2_with fail
    go_ret
    exact ⟨by rw [HE.out]; rfl, HL.out _ HE.out⟩
  · have HE : Hid (andS a b S = (-1, S)) := Lib.hid (by unfold andS; rw [if_pos (.inr (.inl q2))])
    have d1 : (a == -1) = false := by rw [beq_eq_false_iff_ne]; exact q1
    have d2 : (b == -1) = true := by rw [beq_iff_eq]; exact q2
    clear q1 q2
    go_wp2_with fail
    go_ret
    exact ⟨by rw [HE.out]; rfl, HL.out _ HE.out⟩
  · have HE : Hid (andS a b S = (-1, S)) := Lib.hid (by unfold andS; rw [if_pos (.inr (.inr q3))])
    have d1 : (a == -1) = false := by rw [beq_eq_false_iff_ne]; exact q1
    have d2 : (b == -1) = false := by rw [beq_eq_false_iff_ne]; exact q2
    have d3 : (a == -b) = true := by rw [beq_iff_eq]; exact q3
    clear q1 q2 q3
    go_wp2_with fail
    go_ret
    exact ⟨by rw [HE.out]; rfl, HL.out _ HE.out⟩
  · have HE : Hid (andS a b S = (b, S)) := Lib.hid (by unfold andS; rw [if_neg (by omega), if_pos (.inl q4)])
    have d1 : (a == -1) = false := by rw [beq_eq_false_iff_ne]; exact q1
    have d2 : (b == -1) = false := by rw [beq_eq_false_iff_ne]; exact q2
    have d3 : (a == -b) = false := by rw [beq_eq_false_iff_ne]; exact q3
    have d4 : (a == 1) = true := by rw [beq_iff_eq]; exact q4
    clear q1 q2 q3 q4
    go_wp2_with fail
    go_ret
    exact ⟨by rw [HE.out]; rfl, HL.out _ HE.out⟩
  · have HE : Hid (andS a b S = (b, S)) := Lib.hid (by unfold andS; rw [if_neg (by omega), if_pos (.inr q5)])
    have d1 : (a == -1) = false := by rw [beq_eq_false_iff_ne]; exact q1
    have d2 : (b == -1) = false := by rw [beq_eq_false_iff_ne]; exact q2
    have d3 : (a == -b) = false := by rw [beq_eq_false_iff_ne]; exact q3
    have d4 : (a == 1) = false := by rw [beq_eq_false_iff_ne]; exact q4
    have d5 : (a == b) = true := by rw [beq_iff_eq]; exact q5
    clear q1 q2 q3 q4 q5
    go_wp2_with fail
    go_ret
    exact ⟨by rw [HE.out]; rfl, HL.out _ HE.out⟩
  · have HE : Hid (andS a b S = (a, S)) := Lib.hid (by unfold andS; rw [if_neg (by omega), if_neg (by omega), if_pos q6])
    have d1 : (a == -1) = false := by rw [beq_eq_false_iff_ne]; exact q1
    have d2 : (b == -1) = false := by rw [beq_eq_false_iff_ne]; exact q2
    have d3 : (a == -b) = false := by rw [beq_eq_false_iff_ne]; exact q3
    have d4 : (a == 1) = false := by rw [beq_eq_false_iff_ne]; exact q4
    have d5 : (a == b) = false := by rw [beq_eq_false_iff_ne]; exact q5
    have d6 : (b == 1) = true := by rw [beq_iff_eq]; exact q6
    clear q1 q2 q3 q4 q5 q6
    go_wp2_with fail
    go_ret
    exact ⟨by rw [HE.out]; rfl, HL.out _ HE.out⟩
  · have HE : Hid (andS a b S = gateS ⟨0, min a b, max a b, 0, []⟩ (fun o => [[-o, a], [-o, b], [o, -a, -b]]) S) := Lib.hid (by unfold andS; rw [if_neg (by omega), if_neg (by omega), if_neg (by omega)])
    have d1 : (a == -1) = false := by rw [beq_eq_false_iff_ne]; exact q1
    have d2 : (b == -1) = false := by rw [beq_eq_false_iff_ne]; exact q2
    have d3 : (a == -b) = false := by rw [beq_eq_false_iff_ne]; exact q3
    have d4 : (a == 1) = false := by rw [beq_eq_false_iff_ne]; exact q4
    have d5 : (a == b) = false := by rw [beq_eq_false_iff_ne]; exact q5
    have d6 : (b == 1) = false := by rw [beq_eq_false_iff_ne]; exact q6
    have bp1 : BoxG fp w1 m w.heap.size (.int .i64 a) := ⟨p1, fun e => by have := HFL.out _ e; omega, by have := HML.out; omega⟩
    have bp2 : BoxG fp w1 m (w.heap.size + 1) (.int .i64 b) := ⟨p2, fun e => by have := HFL.out _ e; omega, by have := HML.out; omega⟩
    have hn := HRM.out.n
    have ok : ∀ x ∈ [-((S.n : Int) + 1), a, b, (S.n : Int) + 1, -a, -b], okL (S.n + 1) x := by
      intro x hx
      have e1 := HA.out
      have e2 := HBB.out
      simp at hx
      unfold okL at *
      omega
    have hga := gate_A (H0.out.below HB1.out) ⟨0, min a b, max a b, 0, []⟩ ⟨by unfold wf64'; dsimp only; omega, by unfold wf64'; dsimp only; omega, by unfold wf64'; dsimp only; omega, by unfold wf64'; dsimp only; omega, by simp⟩ (Nat.le_trans HB.out HB1.out.size) hn HRM.out.tb (pa := w.heap.size) (pb := w.heap.size + 1) (fun o => [[-o, a], [-o, b], [o, -a, -b]])
      (fun fp1 w1' D1 hc hs hG1 hx1 hB1' => and_put hG1 hx1 (bp1.chg hc hs) (bp2.chg hc hs) hB1' ⟨by have := HRM.out.cl; omega, by omega, by omega⟩ ⟨by omega, by omega⟩ ⟨by omega, by omega⟩ ⟨by omega, by omega⟩
        (rightB_ok (n := S.n + 1) (fun x hx => ok x (by simp at hx ⊢; omega))) (rightB_ok (n := S.n + 1) (fun x hx => ok x (by simp at hx ⊢; omega))) (rightB_ok (n := S.n + 1) (fun x hx => ok x (by simp at hx ⊢; omega))))
    have HGA := Lib.hid hga
    unfold GKey.v keyC at HGA
    dsimp only at HGA
    clear q1 q2 q3 q4 q5 q6 bp1 bp2 hn ok hga
    go_wp2_with fail
    refine HGA.out.mono ?_
    rintro e w2 ⟨rfl, hL⟩
    have HP := Lib.hid (GLeft.pre HB1.out HB.out hL)
    clear hL p1 p2
    go_wp2
    go_ret
    exact ⟨by rw [HE.out]; rfl, by rw [HE.out]; exact HP.out⟩
theorem Or_ (h : GMem fp B w g f m S) (hB : B ≤ w.heap.size) (hr : Room S) {F : Nat → Prop} (hi : GI S F) {a b : Int} (ha : okL S.n a) (hb : okL S.n b) :
    Calls Try.prog 17 #[.pointer (some ⟨g, 0, none⟩), .int .i64 a, .int .i64 b] w fun e w' => e = .returned (.int .i64 (orS a b S).1) ∧ GLeft fp B w g f m (orS a b S).2 w' := by
  have HA := Lib.hid (And_ h hB hr ha.neg hb.neg)
  have hok := (and_res hi ha.neg hb.neg).ok
  have hnb := (and_res hi ha.neg hb.neg).nb
  have hn := hr.n
  have a0 : -60000 ≤ a := by have := ha.2.1; omega
  have a1 : a ≤ 60000 := by have := ha.2.2; omega
  have b0 : -60000 ≤ b := by have := hb.2.1; omega
  have b1 : b ≤ 60000 := by have := hb.2.2; omega
  unfold orS
  obtain ⟨r, hr'⟩ : ∃ r, r = (andS (-a) (-b) S).1 := ⟨_, rfl⟩
  rw [← hr'] at HA hok ⊢
  have r0 : -60010 ≤ r := by have := hok.2.1; omega
  have r1 : r ≤ 60010 := by have := hok.2.2; omega
  clear h hB hr ha hb hok hnb hr'
  go_enter Try.func17, Try.ntmps17
  go_wp2_with fail
  refine HA.out.mono ?_
  rintro e w1 ⟨rfl, hL⟩
  have HL := Lib.hid hL
  clear hL
  go_wp2
  go_ret
  exact ⟨rfl, HL.out⟩
end
end Go.Proofs.Ytkofhilgehhopaa
/-
  Package gates: Choose, walked for any literals that may be.
-/
namespace Go.Proofs.Ytkofhilgehhopaa
open Go Go.ChangeShapes Go.WideShapes Go.ChangeAt Go.RowKit Go.Maps
set_option linter.unusedVariables false
set_option linter.unusedSimpArgs false
attribute [local go_sem ↓] Go.wp_at_zero Go.wp_at_succ
theorem cell3A (w : World) (v : Value) (T : TypeId) (o2 o3 o4 : Obj) : ((((w.alloc (.cells #[v] T)).alloc o2).alloc o3).alloc o4).cell? ⟨w.heap.size, 0, none⟩ = some v :=
  ((al3 (w.alloc (.cells #[v] T)) o2 o3 o4).cell (p := ⟨w.heap.size, 0, none⟩) (by simp)).trans ((Blk.new w T #[v]).cell 0)
theorem cell3B (w : World) (v : Value) (T : TypeId) (o1 o3 o4 : Obj) : ((((w.alloc o1).alloc (.cells #[v] T)).alloc o3).alloc o4).cell? ⟨w.heap.size + 1, 0, none⟩ = some v :=
  ((al2 ((w.alloc o1).alloc (.cells #[v] T)) o3 o4).cell (p := ⟨w.heap.size + 1, 0, none⟩) (by simp)).trans (by simp)
theorem cell3C (w : World) (v : Value) (T : TypeId) (o1 o2 o4 : Obj) : ((((w.alloc o1).alloc o2).alloc (.cells #[v] T)).alloc o4).cell? ⟨w.heap.size + 1 + 1, 0, none⟩ = some v := by
  have e : ((w.alloc o1).alloc o2).heap.size = w.heap.size + 1 + 1 := by simp
  have h := (Blk.new ((w.alloc o1).alloc o2) T #[v]).cell 0
  have h2 := (al1 (((w.alloc o1).alloc o2).alloc (.cells #[v] T)) o4).cell (p := ⟨((w.alloc o1).alloc o2).heap.size, 0, none⟩) (by simp)
  rw [e] at h h2
  exact h2.trans h
section
variable {fp : Nat → Prop} {B : Nat} {w : World} {g f m : Nat} {S : GS}
set_option maxHeartbeats 4000000 in
set_option maxRecDepth 100000 in
theorem Choose_ (h : GMem fp B w g f m S) (hB : B ≤ w.heap.size) (hr : Room S) {c a b : Int} (hc : okL S.n c) (ha : okL S.n a) (hb : okL S.n b) :
    Calls Try.prog 12 #[.pointer (some ⟨g, 0, none⟩), .int .i64 c, .int .i64 a, .int .i64 b] w fun e w' => e = .returned (.int .i64 (chooseS c a b S).1) ∧ GLeft fp B w g f m (chooseS c a b S).2 w' := by
  have h0 := h
  obtain ⟨D, hrep, hG⟩ := h
  have hB3 := al4 w (.cells #[.int .i64 c] 3) (.cells #[.int .i64 a] 3) (.cells #[.int .i64 b] 3) (.cells #[.int .i64 c, .int .i64 a, .int .i64 b] 3)
  have hf := fine_ (hG.below hB3) (int3 (((w.alloc (.cells #[.int .i64 c] 3)).alloc (.cells #[.int .i64 a] 3)).alloc (.cells #[.int .i64 b] 3)) (w.heap.size + 1 + 1 + 1) (by simp) c a b)
  rw [show [c, a, b].any (badG (S.n : Int)) = false by simp [badG_ok (by have := hr.n; omega) ha, badG_ok (by have := hr.n; omega) hb, badG_ok (by have := hr.n; omega) hc]] at hf
  have hfl := hG.fo.lt'
  have hml := hG.mp.lt
  have HF := Lib.hid hf
  have H0 := Lib.hid h0
  have HB := Lib.hid hB
  have HB3 := Lib.hid hB3
  have HFL := Lib.hid hfl
  have HML := Lib.hid hml
  have HRM := Lib.hid hr
  have HA := Lib.hid ha
  have HBB := Lib.hid hb
  have HCC := Lib.hid hc
  have hn := hr.n
  have a0 : -60000 ≤ a := by have := ha.2.1; omega
  have a1 : a ≤ 60000 := by have := ha.2.2; omega
  have b0 : -60000 ≤ b := by have := hb.2.1; omega
  have b1 : b ≤ 60000 := by have := hb.2.2; omega
  have c0 : -60000 ≤ c := by have := hc.2.1; omega
  have c1 : c ≤ 60000 := by have := hc.2.2; omega
  clear h0 hrep hG hB3 hf hfl hml hB hr ha hb hn hc
  go_enter Try.func12, Try.ntmps12
  go_wp2_with fail
  refine HF.out.mono ?_
  rintro e w1 ⟨rfl, hb⟩
  have p1 : w1.cell? ⟨w.heap.size, 0, none⟩ = some (.int .i64 c) := (hb.cell (p := ⟨w.heap.size, 0, none⟩) (by simp; omega)).trans (cell3A w _ _ _ _ _)
  have p2 : w1.cell? ⟨w.heap.size + 1, 0, none⟩ = some (.int .i64 a) := (hb.cell (p := ⟨w.heap.size + 1, 0, none⟩) (by first | (simp; done) | (simp; omega))).trans (cell3B w _ _ _ _ _)
  have p3 : w1.cell? ⟨w.heap.size + 1 + 1, 0, none⟩ = some (.int .i64 b) := (hb.cell (p := ⟨w.heap.size + 1 + 1, 0, none⟩) (by simp)).trans (cell3C w _ _ _ _ _)
  have hb1 := HB3.out.trans (hb.mono HB3.out.size)
  have HB1 := Lib.hid hb1
  have HL : Hid (∀ r, chooseS c a b S = (r, S) → GLeft fp B w g f m (chooseS c a b S).2 w1) := Lib.hid fun r e => by rw [e]; exact GLeft.same H0.out hb1 HB.out
  clear hb hb1
  rcases (show c = 1 ∨ (c ≠ 1 ∧ a = b) ∨ (c ≠ 1 ∧ a ≠ b ∧ c = -1) ∨ (c ≠ 1 ∧ a ≠ b ∧ c ≠ -1) by omega) with q1 | ⟨q1, q2⟩ | ⟨q1, q2, q3⟩ | ⟨q1, q2, q3⟩
  · have HE : Hid (chooseS c a b S = (a, S)) := Lib.hid (by unfold chooseS; rw [if_pos (.inl q1)])
    have d1 : (c == 1) = true := by rw [beq_iff_eq]; exact q1
    clear q1
    go_wp2_with fail
    go_ret
    exact ⟨by rw [HE.out]; rfl, HL.out _ HE.out⟩
  · have HE : Hid (chooseS c a b S = (a, S)) := Lib.hid (by unfold chooseS; rw [if_pos (.inr q2)])
    have d1 : (c == 1) = false := by rw [beq_eq_false_iff_ne]; exact q1
    have d2 : (a == b) = true := by rw [beq_iff_eq]; exact q2
    clear q1 q2
    go_wp2_with fail
    go_ret
    exact ⟨by rw [HE.out]; rfl, HL.out _ HE.out⟩
  · have HE : Hid (chooseS c a b S = (b, S)) := Lib.hid (by unfold chooseS; rw [if_neg (by omega), if_pos q3])
    have d1 : (c == 1) = false := by rw [beq_eq_false_iff_ne]; exact q1
    have d2 : (a == b) = false := by rw [beq_eq_false_iff_ne]; exact q2
    have d3 : (c == -1) = true := by rw [beq_iff_eq]; exact q3
    clear q1 q2 q3
    go_wp2_with fail
    go_ret
    exact ⟨by rw [HE.out]; rfl, HL.out _ HE.out⟩
  · have HE : Hid (chooseS c a b S = gateS ⟨2, c, a, b, []⟩ (fun o => [[-c, -a, o], [-c, a, -o], [c, -b, o], [c, b, -o]]) S) := Lib.hid (by unfold chooseS; rw [if_neg (by omega), if_neg (by omega)])
    have d1 : (c == 1) = false := by rw [beq_eq_false_iff_ne]; exact q1
    have d2 : (a == b) = false := by rw [beq_eq_false_iff_ne]; exact q2
    have d3 : (c == -1) = false := by rw [beq_eq_false_iff_ne]; exact q3
    have bp1 : BoxG fp w1 m w.heap.size (.int .i64 c) := ⟨p1, fun e => by have := HFL.out _ e; omega, by have := HML.out; omega⟩
    have bp2 : BoxG fp w1 m (w.heap.size + 1) (.int .i64 a) := ⟨p2, fun e => by have := HFL.out _ e; omega, by have := HML.out; omega⟩
    have bp3 : BoxG fp w1 m (w.heap.size + 1 + 1) (.int .i64 b) := ⟨p3, fun e => by have := HFL.out _ e; omega, by have := HML.out; omega⟩
    have hn := HRM.out.n
    have ok : ∀ x ∈ [c, a, b, (S.n : Int) + 1], okL (S.n + 1) x ∧ okL (S.n + 1) (-x) := by
      intro x hx
      have e1 := HA.out
      have e2 := HBB.out
      have e3 := HCC.out
      simp at hx
      unfold okL at *
      omega
    have rg : ∀ l : List Int, (∀ x ∈ l, ∃ y ∈ [c, a, b, (S.n : Int) + 1], x = y ∨ x = -y) → rightB l ((S.n : Int) + 1) = true := fun l hl => rightB_ok (n := S.n + 1) (fun x hx => by
      obtain ⟨y, hy, e | e⟩ := hl x hx
      · rw [e]; exact (ok y hy).1
      · rw [e]; exact (ok y hy).2)
    have hga := gate_C (H0.out.below HB1.out) ⟨2, c, a, b, []⟩ ⟨by unfold wf64'; dsimp only; omega, by unfold wf64'; dsimp only; omega, by unfold wf64'; dsimp only; omega, by unfold wf64'; dsimp only; omega, by simp⟩ (Nat.le_trans HB.out HB1.out.size) hn HRM.out.tb (pa := w.heap.size) (pb := w.heap.size + 1) (pc := w.heap.size + 1 + 1) (fun o => [[-c, -a, o], [-c, a, -o], [c, -b, o], [c, b, -o]])
      (fun fp1 w1' D1 hc hs hG1 hx1 hB1' => choose_put hG1 hx1 (bp1.chg hc hs) (bp2.chg hc hs) (bp3.chg hc hs) hB1' ⟨by have := HRM.out.cl; omega, by omega, by omega⟩ ⟨by omega, by omega⟩ ⟨by omega, by omega⟩ ⟨by omega, by omega⟩ ⟨by omega, by omega⟩
        (rg _ (by simp)) (rg _ (by simp)) (rg _ (by simp)) (rg _ (by simp)))
    have HGA := Lib.hid hga
    unfold GKey.v keyC at HGA
    dsimp only at HGA
    clear q1 q2 q3 bp1 bp2 bp3 hn ok hga rg
    go_wp2_with fail
    refine HGA.out.mono ?_
    rintro e w2 ⟨rfl, hL⟩
    have HP := Lib.hid (GLeft.pre HB1.out HB.out hL)
    clear hL p1 p2 p3
    go_wp2
    go_ret
    exact ⟨by rw [HE.out]; rfl, by rw [HE.out]; exact HP.out⟩
end
end Go.Proofs.Ytkofhilgehhopaa
