/-
  Chapter 40: alive, Light; the law StatLists.
-/
import Derived.Test.YtlahecdpcpejpaaDoorFkG
namespace Go.Proofs.YtlahecdpcpejpaaDoor
open Go Go.ChangeShapes Go.WideShapes Go.ChangeAt Go.RowKit
set_option linter.unusedVariables false
set_option linter.unusedSimpArgs false
attribute [local go_sem ↓] Go.wp_at_zero Go.wp_at_succ
def T01 (x : Int) : List UInt8 := if x = 1 then [49] else [48]
theorem itoa01 {x : Int} (h : x = 0 ∨ x = 1) (W : World) : Calls Tryd.prog 24 #[.int .i64 x] W fun e w' => e = .returned (.string (bsT (T01 x))) ∧ Below W.heap.size W w' := by
  have h0 : Lib.decDigits 0 = [48] := by rw [Lib.decDigits, dif_pos (by omega)]; rfl
  have h1 : Lib.decDigits 1 = [49] := by rw [Lib.decDigits, dif_pos (by omega)]; rfl
  rcases h with rfl | rfl
  · have := Tryd.strconv_Itoa_small 0 (by omega) W
    rw [h0] at this
    exact this.mono fun e w' ⟨a, b⟩ => ⟨a, by rw [b]; exact Below.refl _ _⟩
  · have := Tryd.strconv_Itoa_small 1 (by omega) W
    rw [h1] at this
    exact this.mono fun e w' ⟨a, b⟩ => ⟨a, by rw [b]; exact Below.refl _ _⟩
theorem text_ex (w : World) : Calls Tryd.prog 9 #[.agg #[.int .i64 1, .int .i64 0, .int .i64 0, .int .i64 0, .int .i64 0, .int .i64 0, .int .i64 1, .int .i64 0, .int .i64 0, .int .i64 0]] w fun e w' => e = .returned (.string ⟨#[49, 32, 48, 32, 48, 32, 48, 32, 48, 32, 48, 32, 49, 32, 48, 32, 48, 32, 48]⟩) ∧ Below w.heap.size w w' := by
  have := stat_Text (w := w) (x0 := 1) (x1 := 0) (x2 := 0) (x3 := 0) (x4 := 0) (x5 := 0) (x6 := 1) (x7 := 0) (x8 := 0) (x9 := 0) T01 (fun x hx W _ => itoa01 (by simp at hx; omega) W) (by decide)
  exact this
theorem ints_lit40 (w : World) (x : Int) : Ints (w.alloc (.cells #[.int .i64 x] 3)) (.slice (some ⟨w.heap.size, 0, none⟩) 1 1) [x] := by
  refine ⟨_, _, rfl, (fun h => by cases h), Nat.le_refl _, by simp [maxLen], .inr ⟨w.heap.size, 0, rfl, fun j hj => ?_⟩⟩
  have hj : j < 1 := hj
  have : j = 0 := by omega
  subst this
  exact (Blk.new w 3 #[.int .i64 x]).cell 0
set_option maxHeartbeats 2000000 in
set_option maxRecDepth 100000 in
theorem alive40 (w : World) : Calls Tryd.prog 6 #[] w fun e w' => e = .returned (.bool true) ∧ Below w.heap.size w w' := by
  obtain ⟨w1, hw1⟩ : ∃ w1, w1 = w.alloc (.cells #[.int .i64 1] 3) := ⟨_, rfl⟩
  obtain ⟨w2, hw2⟩ : ∃ w2, w2 = w1.alloc (.cells #[.int .i64 2] 3) := ⟨_, rfl⟩
  have z1 : w1.heap.size = w.heap.size + 1 := by rw [hw1]; simp
  have b1 : Below w.heap.size w w1 := by rw [hw1]; exact below_new1 w _
  have b2 : Below w1.heap.size w1 w2 := by rw [hw2]; exact below_new1 w1 _
  have i1 : Ints w2 (.slice (some ⟨w.heap.size, 0, none⟩) 1 1) [1] := by
    have : Ints w1 (.slice (some ⟨w.heap.size, 0, none⟩) 1 1) [1] := by rw [hw1]; exact ints_lit40 w 1
    exact this.below b2
  have i2 : Ints w2 (.slice (some ⟨w.heap.size + 1, 0, none⟩) 1 1) [2] := by rw [← z1, hw2]; exact ints_lit40 w1 2
  have hex : ExP w2 (some ⟨w.heap.size, 0, none⟩) (some ⟨w.heap.size + 1, 0, none⟩) := ⟨i1, ⟨none, 0, rfl, Nat.le_refl _, by decide, .inl rfl⟩, ints_nil _, i2, ints_nil _, ⟨none, 0, rfl, Nat.le_refl _, by decide, .inl rfl⟩, ⟨none, 0, rfl, Nat.le_refl _, by decide, .inl rfl⟩⟩
  have hof := stat_Of_ex hex
  unfold exV at hof
  have HOF := Lib.hid hof
  have HB2 := Lib.hid (b1.trans (b2.mono b1.size))
  have HW2 : Hid (w2 = (w.alloc (.cells #[.int .i64 1] 3)).alloc (.cells #[.int .i64 2] 3)) := Lib.hid (by rw [hw2, hw1])
  clear hw1 hw2 z1 b1 b2 i1 i2 hex hof
  go_enter Tryd.func6, Tryd.ntmps6
  go_wp2_with fail
  rw [← HW2.out]
  refine HOF.out.mono ?_
  rintro e w3 ⟨rfl, hb3⟩
  have HB3 := Lib.hid (HB2.out.trans (hb3.mono HB2.out.size))
  obtain ⟨w4, hw4⟩ : ∃ w4, w4 = w3.alloc (.cells #[.int .i64 1, .int .i64 0, .int .i64 0, .int .i64 0, .int .i64 0, .int .i64 0, .int .i64 1, .int .i64 0, .int .i64 0, .int .i64 0] 32) := ⟨_, rfl⟩
  have hb4 : Below w3.heap.size w3 w4 := by rw [hw4]; exact below_new1 w3 _
  have HB4 := Lib.hid (HB3.out.trans (hb4.mono HB3.out.size))
  have HT := Lib.hid (text_ex w4)
  clear hb3 hb4
  go_wp2_with fail
  rw [← hw4]
  refine HT.out.mono ?_
  rintro e w5 ⟨rfl, hb5⟩
  have HB5 := Lib.hid (HB4.out.trans (hb5.mono HB4.out.size))
  clear hb5 hw4
  go_wp2
  go_ret
  exact ⟨rfl, HB5.out⟩
/-- What Light of chapter 7 tells. -/
def Li7 (w : World) (d : NetD) (e : Ending) (w' : World) : Prop := ∃ b, e = .returned (.bool b) ∧ (b = true → lightN d = true) ∧ Below w.heap.size w w'
set_option maxHeartbeats 4000000 in
set_option maxRecDepth 100000 in
theorem light07 {w : World} {d : NetD} {vi vl vo vb vc vm va : Value} (h : NetP w d vi vl vo vb vc vm va) :
    Calls Tryd.prog 5 #[netV d vi vl vo vb vc vm va] w (Li7 w d) := by
  obtain ⟨ai, ci, h1, -, i1, i2, -⟩ := id h.inp
  obtain ⟨al, cl, h2, l1, l2⟩ := h.lat.form
  obtain ⟨ao, co, h3, -, o1, o2, -⟩ := id h.out
  obtain ⟨ab, cb, h4, -, b1, b2, -⟩ := id h.bad
  obtain ⟨ac, cc, h5, -, c1, c2, -⟩ := id h.con
  obtain ⟨am, cm, h6, m1, m2⟩ := h.mems.form
  obtain ⟨aa, ca, h7, a1, a2⟩ := h.ands.form
  obtain ⟨ni, hni⟩ : ∃ n, n = d.inp.length := ⟨_, rfl⟩
  obtain ⟨nl, hnl⟩ : ∃ n, n = d.lat.length := ⟨_, rfl⟩
  obtain ⟨no, hno⟩ : ∃ n, n = d.out.length := ⟨_, rfl⟩
  obtain ⟨nb, hnb⟩ : ∃ n, n = d.bad.length := ⟨_, rfl⟩
  obtain ⟨nc, hnc⟩ : ∃ n, n = d.con.length := ⟨_, rfl⟩
  obtain ⟨nm, hnm⟩ : ∃ n, n = d.mems.length := ⟨_, rfl⟩
  obtain ⟨na, hna⟩ : ∃ n, n = d.ands.length := ⟨_, rfl⟩
  rw [← hni] at h1 i1
  rw [← hnl] at h2 l1
  rw [← hno] at h3 o1
  rw [← hnb] at h4 b1
  rw [← hnc] at h5 c1
  rw [← hnm] at h6 m1
  rw [← hna] at h7 a1
  unfold maxLen at i2 l2 o2 b2 c2 m2 a2
  subst h1 h2 h3 h4 h5 h6 h7
  obtain ⟨wb, hwb⟩ : ∃ wb, wb = w.alloc (.cells #[.int .i64 d.vars, .slice ai ni ci, .slice al nl cl, .slice ao no co, .slice ab nb cb, .slice ac nc cc, .slice am nm cm, .slice aa na ca] 28) := ⟨_, rfl⟩
  obtain ⟨bx, hbx⟩ : ∃ bx, bx = w.heap.size := ⟨_, rfl⟩
  have hB1 : Below w.heap.size w wb := by rw [hwb]; exact below_new1 w _
  have HBX : Hid (NBox wb bx d (.slice ai ni ci) (.slice al nl cl) (.slice ao no co) (.slice ab nb cb) (.slice ac nc cc) (.slice am nm cm) (.slice aa na ca)) := Lib.hid (by rw [hwb, hbx]; exact NBox.new w _ _ _ _ _ _ _ _)
  have hli := light_net (h.below hB1)
  have HB1 := Lib.hid hB1
  unfold netV at hli ⊢
  rw [hwb] at hli
  have HLI := Lib.hid hli
  have HW1 := Lib.hid hwb
  have HBE := Lib.hid hbx
  clear h hli hwb hB1 hbx hni hnl hno hnb hnc hnm hna
  cases hq : lightN d with
  | false =>
    rw [hq] at HLI
    clear hq
    go_enter Tryd.func5, Tryd.ntmps5
    go_wp2_with fail
    refine HLI.out.mono ?_
    rintro e w2 ⟨rfl, hb⟩
    have HB2 := Lib.hid ((below_new1 w _).trans (hb.mono (by simp)))
    clear hb
    go_wp2
    go_ret
    exact ⟨_, rfl, fun e => (by cases e), HB2.out⟩
  | true =>
    rw [hq] at HLI
    have HQ := Lib.hid hq
    clear hq
    go_enter Tryd.func5, Tryd.ntmps5
    go_wp2_with fail
    refine HLI.out.mono ?_
    rintro e w2 ⟨rfl, hb⟩
    rw [← HW1.out] at hb
    rw [← HBE.out]
    obtain ⟨k0, k1, k2, k3, k4, k5, k6, k7⟩ := (HBX.out.later hb).all
    have HB2 := Lib.hid (HB1.out.trans (hb.mono HB1.out.size))
    clear hb
    have hsum : ∀ x y z : Nat, x ≤ 9223372036854775807 → True := fun _ _ _ _ => trivial
    clear hsum
    by_cases q1 : na ≤ 100
    · have e1 : decide ((na : Int) ≤ 100) = true := decide_eq_true (by omega)
      by_cases q2 : ni ≤ 100
      · have e2 : decide ((ni : Int) ≤ 100) = true := decide_eq_true (by omega)
        by_cases q3 : nl ≤ 100
        · have e3 : decide ((nl : Int) ≤ 100) = true := decide_eq_true (by omega)
          have HQ2 : Hid (∀ b : Bool, b = true → lightN d = true) := Lib.hid fun _ _ => HQ.out
          go_wp2
          go_ret
          exact ⟨_, rfl, HQ2.out _, HB2.out⟩
        · have e3 : decide ((nl : Int) ≤ 100) = false := decide_eq_false (by omega)
          have f3 : ¬ ((nl : Int) ≤ 100) := by omega
          go_wp2
          go_ret
          exact ⟨_, rfl, fun _ => HQ.out, HB2.out⟩
      · have e2 : decide ((ni : Int) ≤ 100) = false := decide_eq_false (by omega)
        have f2 : ¬ ((ni : Int) ≤ 100) := by omega
        go_wp2
        go_ret
        exact ⟨_, rfl, fun _ => HQ.out, HB2.out⟩
    · have e1 : decide ((na : Int) ≤ 100) = false := decide_eq_false (by omega)
      have f1 : ¬ ((na : Int) ≤ 100) := by omega
      go_wp2
      go_ret
      exact ⟨_, rfl, fun _ => HQ.out, HB2.out⟩
end Go.Proofs.YtlahecdpcpejpaaDoor
