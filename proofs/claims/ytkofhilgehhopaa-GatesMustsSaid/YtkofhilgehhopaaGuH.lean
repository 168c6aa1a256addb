/-
  Package gates: Xor, walked for any literals that may be.
-/
import Derived.Test.YtkofhilgehhopaaGuF
import Derived.IntWalk
import Derived.Deep.CutBlock
import Derived.Deep.DeepCutAuto
namespace Go.Proofs.Ytkofhilgehhopaa
open Go Go.ChangeShapes Go.WideShapes Go.ChangeAt Go.RowKit Go.Maps
set_option linter.unusedVariables false
set_option linter.unusedSimpArgs false
attribute [local go_sem ↓] Go.wp_at_zero Go.wp_at_succ
section
variable {fp : Nat → Prop} {B : Nat} {w : World} {g f m : Nat} {S : GS}
theorem GMem.chg (h : GMem fp B w g f m S) {w' : World} {T : Nat → Prop} (hc : Chg T w w') (hT : ∀ x, T x → w.heap.size ≤ x ∨ (x ≠ g ∧ ¬ fp x ∧ x ≠ m)) : GMem fp B w' g f m S := by
  obtain ⟨D, h1, h2⟩ := h
  have hgl := h2.bk.lt
  have hml := h2.mp.lt
  have hfl := h2.fo.lt'
  refine ⟨D, h1, ⟨h2.ge, h2.bk.chg hc (fun e => ?_), h2.fo.chg hc (fun x hx e => ?_), ?_, h2.mB, h2.gm, h2.gf, h2.mf⟩⟩
  · rcases hT g e with e | e
    · omega
    · exact e.1 rfl
  · rcases hT x e with e | e
    · have := hfl x hx; omega
    · exact e.2.1 hx
  · obtain ⟨es, clock, hm, F, hs, hD⟩ := h2.mp
    exact ⟨es, clock, hc.at_ hm (fun e => by
      rcases hT m e with e | e
      · omega
      · exact e.2.2 rfl), F, hs, hD⟩
/-- The two boxes of Xor, on the way. -/
structure XoR (fp : Nat → Prop) (B : Nat) (w : World) (g f m : Nat) (S : GS) (va vb : Int) (wx : World) : Prop where
  a : Blk wx w.heap.size 3 #[.int .i64 va]
  b : Blk wx (w.heap.size + 1) 3 #[.int .i64 vb]
  g : GMem fp B wx g f m S
  o : Below w.heap.size w wx
theorem XoR.setA {va vb : Int} {wx : World} (h : XoR fp B w g f m S va vb wx) (h0 : GMem fp B w g f m S) (v : Int) : XoR fp B w g f m S v vb (wx.setCell ⟨w.heap.size, 0, none⟩ (.int .i64 v)) := by
  have hc : Chg (fun y => y = w.heap.size) wx (wx.setCell ⟨w.heap.size, 0, none⟩ (.int .i64 v)) := (Chg.refl (fun y => y = w.heap.size) wx).setCell (p := ⟨w.heap.size, 0, none⟩) (.inl rfl) _
  obtain ⟨D, -, hG⟩ := h0
  have hgl := hG.bk.lt
  have hml := hG.mp.lt
  have hfl := hG.fo.lt'
  refine ⟨?_, h.b.chg hc (fun e => by omega), h.g.chg hc (fun x hx => .inr ?_), h.o.setCell (p := ⟨w.heap.size, 0, none⟩) (Nat.le_refl _) _⟩
  · have := h.a.set_ 0 (.int .i64 v)
    simpa using this
  · have hx : x = w.heap.size := hx
    subst hx
    exact ⟨by omega, fun e => by have := hfl _ e; omega, by omega⟩
theorem XoR.setB {va vb : Int} {wx : World} (h : XoR fp B w g f m S va vb wx) (h0 : GMem fp B w g f m S) (v : Int) : XoR fp B w g f m S va v (wx.setCell ⟨w.heap.size + 1, 0, none⟩ (.int .i64 v)) := by
  have hc : Chg (fun y => y = w.heap.size + 1) wx (wx.setCell ⟨w.heap.size + 1, 0, none⟩ (.int .i64 v)) := (Chg.refl (fun y => y = w.heap.size + 1) wx).setCell (p := ⟨w.heap.size + 1, 0, none⟩) (.inl rfl) _
  obtain ⟨D, -, hG⟩ := h0
  have hgl := hG.bk.lt
  have hml := hG.mp.lt
  have hfl := hG.fo.lt'
  refine ⟨h.a.chg hc (fun e => by omega), ?_, h.g.chg hc (fun x hx => .inr ?_), h.o.setCell (p := ⟨w.heap.size + 1, 0, none⟩) (Nat.le_succ _) _⟩
  · have := h.b.set_ 0 (.int .i64 v)
    simpa using this
  · have hx : x = w.heap.size + 1 := hx
    subst hx
    exact ⟨by omega, fun e => by have := hfl _ e; omega, by omega⟩
set_option maxHeartbeats 8000000 in
set_option maxRecDepth 100000 in
theorem Xor_ (h : GMem fp B w g f m S) (hB : B ≤ w.heap.size) (hr : Room S) {F : Nat → Prop} (hi : GI S F) {a b : Int} (ha : okL S.n a) (hb : okL S.n b) :
    Calls Try.prog 11 #[.pointer (some ⟨g, 0, none⟩), .int .i64 a, .int .i64 b] w fun e w' => e = .returned (.int .i64 (xorS a b S).1) ∧ GLeft fp B w g f m (xorS a b S).2 w' := by
  have h0 := h
  obtain ⟨D, hrep, hG⟩ := h
  have hB3 := al3 w (.cells #[.int .i64 a] 3) (.cells #[.int .i64 b] 3) (.cells #[.int .i64 a, .int .i64 b] 3)
  have hf := fine_ (hG.below hB3) (int2 ((w.alloc (.cells #[.int .i64 a] 3)).alloc (.cells #[.int .i64 b] 3)) (w.heap.size + 1 + 1) (by simp) a b)
  rw [show [a, b].any (badG (S.n : Int)) = false by simp [badG_ok (by have := hr.n; omega) ha, badG_ok (by have := hr.n; omega) hb]] at hf
  have hfl := hG.fo.lt'
  have hml := hG.mp.lt
  have HF := Lib.hid hf
  have H0 := Lib.hid h0
  have HB := Lib.hid hB
  have HB3 := Lib.hid hB3
  have HFL := Lib.hid hfl
  have HML := Lib.hid hml
  have HRM := Lib.hid hr
  have HA := Lib.hid ha
  have HBB := Lib.hid hb
  have HRES := Lib.hid (xor_res hi ha hb)
  have hn := hr.n
  have a0 : -60000 ≤ a := by have := ha.2.1; omega
  have a1 : a ≤ 60000 := by have := ha.2.2; omega
  have b0 : -60000 ≤ b := by have := hb.2.1; omega
  have b1 : b ≤ 60000 := by have := hb.2.2; omega
  clear h0 hrep hG hB3 hf hfl hml hB hr ha hb hn hi
  go_enter Try.func11, Try.ntmps11
  go_wp2_with fail
  refine HF.out.mono ?_
  rintro e w1 ⟨rfl, hb⟩
  have hX : XoR fp B w g f m S a b w1 := by
    have ka := ((Blk.new w 3 #[.int .i64 a]).below (al2 (w.alloc (.cells #[.int .i64 a] 3)) (.cells #[.int .i64 b] 3) (.cells #[.int .i64 a, .int .i64 b] 3)) (by simp)).below hb (by simp; omega)
    have kb := ((Blk.new (w.alloc (.cells #[.int .i64 a] 3)) 3 #[.int .i64 b]).below (al1 _ (.cells #[.int .i64 a, .int .i64 b] 3)) (by simp)).below hb (by simp)
    have hb1 := HB3.out.trans (hb.mono HB3.out.size)
    exact ⟨ka, by simpa using kb, H0.out.below hb1, hb1⟩
  have p1 := hX.a.cell 0
  have p2 := hX.b.cell 0
  have HX := Lib.hid hX
  have HL : Hid (∀ r, xorS a b S = (r, S) → GLeft fp B w g f m (xorS a b S).2 w1) := Lib.hid fun r e => by rw [e]; exact GLeft.same H0.out hX.o HB.out
  clear hb hX
  rcases (show a = 1 ∨ (a ≠ 1 ∧ a = -1) ∨ (a ≠ 1 ∧ a ≠ -1 ∧ b = 1) ∨ (a ≠ 1 ∧ a ≠ -1 ∧ b ≠ 1 ∧ b = -1) ∨ (a ≠ 1 ∧ a ≠ -1 ∧ b ≠ 1 ∧ b ≠ -1 ∧ a = b) ∨ (a ≠ 1 ∧ a ≠ -1 ∧ b ≠ 1 ∧ b ≠ -1 ∧ a ≠ b ∧ a = -b) ∨ (a ≠ 1 ∧ a ≠ -1 ∧ b ≠ 1 ∧ b ≠ -1 ∧ a ≠ b ∧ a ≠ -b) by omega)
    with q1 | ⟨q1, q2⟩ | ⟨q1, q2, q3⟩ | ⟨q1, q2, q3, q4⟩ | ⟨q1, q2, q3, q4, q5⟩ | ⟨q1, q2, q3, q4, q5, q6⟩ | ⟨q1, q2, q3, q4, q5, q6⟩
  · have HE : Hid (xorS a b S = (-b, S)) := Lib.hid (by unfold xorS; rw [if_pos (.inl q1), q1]; simp)
    have m1 : wrap64 (-a * b) = -b := by rw [q1]; unfold wrap64; omega
    have m2 : IntKind.i64.wrap (-a * b) = -b := by rw [q1, show (-1 : Int) * b = -b by omega]; exact IntWalk.i64_in _ (by omega)
    have d1 : (a == 1) = true := by rw [beq_iff_eq]; exact q1
    clear q1
    go_wp2_with fail
    go_ret
    exact ⟨by rw [HE.out]; rfl, HL.out _ HE.out⟩
  · have HE : Hid (xorS a b S = (b, S)) := Lib.hid (by unfold xorS; rw [if_pos (.inr q2), q2]; simp)
    have m1 : wrap64 (-a * b) = b := by rw [q2]; unfold wrap64; omega
    have m2 : IntKind.i64.wrap (-a * b) = b := by rw [q2, show (- -1 : Int) * b = b by omega]; exact IntWalk.i64_in _ (by omega)
    have d1 : (a == 1) = false := by rw [beq_eq_false_iff_ne]; exact q1
    have d2 : (a == -1) = true := by rw [beq_iff_eq]; exact q2
    clear q1 q2
    go_wp2_with fail
    go_ret
    exact ⟨by rw [HE.out]; rfl, HL.out _ HE.out⟩
  · have HE : Hid (xorS a b S = (-a, S)) := Lib.hid (by unfold xorS; rw [if_neg (by omega), if_pos (.inl q3), q3]; simp)
    have m1 : wrap64 (-b * a) = -a := by rw [q3]; unfold wrap64; omega
    have m2 : IntKind.i64.wrap (-b * a) = -a := by rw [q3, show (-1 : Int) * a = -a by omega]; exact IntWalk.i64_in _ (by omega)
    have d1 : (a == 1) = false := by rw [beq_eq_false_iff_ne]; exact q1
    have d2 : (a == -1) = false := by rw [beq_eq_false_iff_ne]; exact q2
    have d3 : (b == 1) = true := by rw [beq_iff_eq]; exact q3
    clear q1 q2 q3
    go_wp2_with fail
    go_ret
    exact ⟨by rw [HE.out]; rfl, HL.out _ HE.out⟩
  · have HE : Hid (xorS a b S = (a, S)) := Lib.hid (by unfold xorS; rw [if_neg (by omega), if_pos (.inr q4), q4]; simp)
    have m1 : wrap64 (-b * a) = a := by rw [q4]; unfold wrap64; omega
    have m2 : IntKind.i64.wrap (-b * a) = a := by rw [q4, show (- -1 : Int) * a = a by omega]; exact IntWalk.i64_in _ (by omega)
    have d1 : (a == 1) = false := by rw [beq_eq_false_iff_ne]; exact q1
    have d2 : (a == -1) = false := by rw [beq_eq_false_iff_ne]; exact q2
    have d3 : (b == 1) = false := by rw [beq_eq_false_iff_ne]; exact q3
    have d4 : (b == -1) = true := by rw [beq_iff_eq]; exact q4
    clear q1 q2 q3 q4
    go_wp2_with fail
    go_ret
    exact ⟨by rw [HE.out]; rfl, HL.out _ HE.out⟩
  · have HE : Hid (xorS a b S = (-1, S)) := Lib.hid (by unfold xorS; rw [if_neg (by omega), if_neg (by omega), if_pos q5])
    have d1 : (a == 1) = false := by rw [beq_eq_false_iff_ne]; exact q1
    have d2 : (a == -1) = false := by rw [beq_eq_false_iff_ne]; exact q2
    have d3 : (b == 1) = false := by rw [beq_eq_false_iff_ne]; exact q3
    have d4 : (b == -1) = false := by rw [beq_eq_false_iff_ne]; exact q4
    have d5 : (a == b) = true := by rw [beq_iff_eq]; exact q5
    clear q1 q2 q3 q4 q5
    go_wp2_with fail
    go_ret
    exact ⟨by rw [HE.out]; rfl, HL.out _ HE.out⟩
  · have HE : Hid (xorS a b S = (1, S)) := Lib.hid (by unfold xorS; rw [if_neg (by omega), if_neg (by omega), if_neg q5, if_pos q6])
    have d1 : (a == 1) = false := by rw [beq_eq_false_iff_ne]; exact q1
    have d2 : (a == -1) = false := by rw [beq_eq_false_iff_ne]; exact q2
    have d3 : (b == 1) = false := by rw [beq_eq_false_iff_ne]; exact q3
    have d4 : (b == -1) = false := by rw [beq_eq_false_iff_ne]; exact q4
    have d5 : (a == b) = false := by rw [beq_eq_false_iff_ne]; exact q5
    have d6 : (a == -b) = true := by rw [beq_iff_eq]; exact q6
    clear q1 q2 q3 q4 q5 q6
    go_wp2_with fail
    go_ret
    exact ⟨by rw [HE.out]; rfl, HL.out _ HE.out⟩
  · have d1 : (a == 1) = false := by rw [beq_eq_false_iff_ne]; exact q1
    have d2 : (a == -1) = false := by rw [beq_eq_false_iff_ne]; exact q2
    have d3 : (b == 1) = false := by rw [beq_eq_false_iff_ne]; exact q3
    have d4 : (b == -1) = false := by rw [beq_eq_false_iff_ne]; exact q4
    have d5 : (a == b) = false := by rw [beq_eq_false_iff_ne]; exact q5
    have d6 : (a == -b) = false := by rw [beq_eq_false_iff_ne]; exact q6
    have HN : Hid (¬ (a = 1 ∨ a = -1) ∧ ¬ (b = 1 ∨ b = -1) ∧ ¬ a = b ∧ ¬ a = -b) := Lib.hid (by omega)
    have f1 := HX.out.a.frozen 0
    clear q1 q2 q3 q4 q5 q6
    go_upto_if 46 with (fail)
    go_cut [7] (fun v wx => v = .int .i64 (sgn a) ∧ XoR fp B w g f m S (absG a) b wx)
    case first =>
      by_cases hs : a < 0
      · have HSG : Hid (sgn a = -1 ∧ absG a = -a) := Lib.hid (by unfold sgn absG; rw [if_pos hs, if_pos hs]; exact ⟨rfl, rfl⟩)
        have ds : decide (a < 0) = true := decide_eq_true hs
        have HXA := Lib.hid (HX.out.setA H0.out (-a))
        have ql := HX.out.a.lt
        go_wp2_with fail
        go_meet
        exact ⟨by rw [HSG.out.1], by rw [HSG.out.2]; exact HXA.out⟩
      · have HSG : Hid (sgn a = 1 ∧ absG a = a) := Lib.hid (by unfold sgn absG; rw [if_neg hs, if_neg hs]; exact ⟨rfl, rfl⟩)
        have ds : decide (a < 0) = false := decide_eq_false hs
        go_wp2_with fail
        go_meet
        exact ⟨by rw [HSG.out.1], by rw [HSG.out.2]; exact HX.out⟩
    case rest =>
      obtain ⟨rfl, hx⟩ := hcut
      have p1 := hx.a.cell 0
      have p2 := hx.b.cell 0
      have f2 := hx.b.frozen 0
      have HX2 := Lib.hid hx
      obtain ⟨s, hs⟩ : ∃ s, s = sgn a := ⟨_, rfl⟩
      have hs2 : s = 1 ∨ s = -1 := by rw [hs]; unfold sgn; split <;> simp
      obtain ⟨x, hxa⟩ : ∃ x, x = absG a := ⟨_, rfl⟩
      rw [← hxa] at HX2 p1
      rw [← hs]
      have HSA := Lib.hid hs
      have HXE := Lib.hid hxa
      clear hx hs hxa
      go_upto_if 52 with (fail)
      go_cut [7] (fun v wx => v = .int .i64 (s * sgn b) ∧ XoR fp B w g f m S x (absG b) wx)
      case first =>
        by_cases hb0 : b < 0
        · have HSG : Hid (sgn b = -1 ∧ absG b = -b) := Lib.hid (by unfold sgn absG; rw [if_pos hb0, if_pos hb0]; exact ⟨rfl, rfl⟩)
          have ds : decide (b < 0) = true := decide_eq_true hb0
          have HXB := Lib.hid (HX2.out.setB H0.out (-b))
          have ql := HX2.out.b.lt
          rcases hs2 with rfl | rfl
          · go_wp2_with fail
            go_meet
            exact ⟨by rw [HSG.out.1]; rfl, by rw [HSG.out.2]; exact HXB.out⟩
          · go_wp2_with fail
            go_meet
            exact ⟨by rw [HSG.out.1]; rfl, by rw [HSG.out.2]; exact HXB.out⟩
        · have HSG : Hid (sgn b = 1 ∧ absG b = b) := Lib.hid (by unfold sgn absG; rw [if_neg hb0, if_neg hb0]; exact ⟨rfl, rfl⟩)
          have ds : decide (b < 0) = false := decide_eq_false hb0
          go_wp2_with fail
          go_meet
          exact ⟨by rw [HSG.out.1, Int.mul_one], by rw [HSG.out.2]; exact HX2.out⟩
      case rest =>
        obtain ⟨rfl, hx⟩ := hcut
        obtain ⟨y, hya⟩ : ∃ y, y = absG b := ⟨_, rfl⟩
        rw [← hya] at hx
        have p1 := hx.a.cell 0
        have p2 := hx.b.cell 0
        have ex : xorS a b S = (s * sgn b * (gateS ⟨1, min x y, max x y, 0, []⟩ (fun o => [[-o, x, y], [-o, -x, -y], [o, -x, y], [o, x, -y]]) S).1, (gateS ⟨1, min x y, max x y, 0, []⟩ (fun o => [[-o, x, y], [-o, -x, -y], [o, -x, y], [o, x, -y]]) S).2) := by
          obtain ⟨n1, n2, n3, n4⟩ := HN.out
          unfold xorS
          rw [if_neg n1, if_neg n2, if_neg n3, if_neg n4, HSA.out, HXE.out, hya]
        have okx : okL S.n x := by
          have := HA.out; rw [HXE.out]; unfold okL absG at *; split <;> omega
        have oky : okL S.n y := by
          have := HBB.out; rw [hya]; unfold okL absG at *; split <;> omega
        have hok := HRES.out.ok
        have hnb := HRES.out.nb
        rw [ex] at hok hnb
        dsimp only at hok hnb
        have hn := HRM.out.n
        obtain ⟨sb, hsb⟩ : ∃ sb, sb = s * sgn b := ⟨_, rfl⟩
        rw [← hsb] at ex hok ⊢
        have x0 : -60000 ≤ x := by have := okx.2.1; omega
        have x1 : x ≤ 60000 := by have := okx.2.2; omega
        have y0 : -60000 ≤ y := by have := oky.2.1; omega
        have y1 : y ≤ 60000 := by have := oky.2.2; omega
        have bp1 : BoxG fp wc m w.heap.size (.int .i64 x) := ⟨p1, fun e => by have := HFL.out _ e; omega, by have := HML.out; omega⟩
        have bp2 : BoxG fp wc m (w.heap.size + 1) (.int .i64 y) := ⟨p2, fun e => by have := HFL.out _ e; omega, by have := HML.out; omega⟩
        have ok : ∀ z ∈ [x, y, (S.n : Int) + 1], okL (S.n + 1) z ∧ okL (S.n + 1) (-z) := by
          intro z hz
          simp at hz
          unfold okL at *
          omega
        have rg : ∀ l : List Int, (∀ z ∈ l, ∃ u ∈ [x, y, (S.n : Int) + 1], z = u ∨ z = -u) → rightB l ((S.n : Int) + 1) = true := fun l hl => rightB_ok (n := S.n + 1) (fun z hz => by
          obtain ⟨u, hu, e | e⟩ := hl z hz
          · rw [e]; exact (ok u hu).1
          · rw [e]; exact (ok u hu).2)
        have hga := gate_X hx.g ⟨1, min x y, max x y, 0, []⟩ ⟨by unfold wf64'; dsimp only; omega, by unfold wf64'; dsimp only; omega, by unfold wf64'; dsimp only; omega, by unfold wf64'; dsimp only; omega, by simp⟩ (Nat.le_trans HB.out hx.o.size) hn HRM.out.tb (pa := w.heap.size) (pb := w.heap.size + 1) (fun o => [[-o, x, y], [-o, -x, -y], [o, -x, y], [o, x, -y]])
          (fun fp1 w1' D1 hc hs hG1 hx1 hB1' => xor_put hG1 hx1 (bp1.chg hc hs) (bp2.chg hc hs) hB1' ⟨by have := HRM.out.cl; omega, by omega, by omega⟩ ⟨by omega, by omega⟩ ⟨by omega, by omega⟩ ⟨by omega, by omega⟩
            (rg _ (by simp)) (rg _ (by simp)) (rg _ (by simp)) (rg _ (by simp)))
        have HE := Lib.hid ex
        obtain ⟨q, hq⟩ : ∃ q, q = (gateS ⟨1, min x y, max x y, 0, []⟩ (fun o => [[-o, x, y], [-o, -x, -y], [o, -x, y], [o, x, -y]]) S).1 := ⟨_, rfl⟩
        rw [← hq] at hga hok
        have HQ := Lib.hid hq
        have hp0 : -60010 ≤ sb * q ∧ sb * q ≤ 60010 := by have := hok.2.1; have := hok.2.2; omega
        have m1 : wrap64 (sb * q) = sb * q := by generalize sb * q = z at *; unfold wrap64; omega
        have m2 : IntKind.i64.wrap (sb * q) = sb * q := IntWalk.i64_in _ (by generalize sb * q = z at *; omega)
        have HGA := Lib.hid hga
        have HO := Lib.hid hx.o
        unfold GKey.v keyC at HGA
        dsimp only at HGA
        clear hx ex okx oky hok hnb hn bp1 bp2 ok rg hga hq hp0 hya hsb
        go_wp2_with fail
        refine HGA.out.mono ?_
        rintro e w2 ⟨rfl, hL⟩
        have HP := Lib.hid (GLeft.pre HO.out HB.out hL)
        clear hL p1 p2
        go_wp2
        go_ret
        exact ⟨by rw [HE.out, ← HQ.out]; rfl, by rw [HE.out]; exact HP.out⟩
end
end Go.Proofs.Ytkofhilgehhopaa
