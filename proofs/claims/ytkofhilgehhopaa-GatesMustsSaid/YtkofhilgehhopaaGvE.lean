/-
  astrariumref27: acts, walked.
-/
import Derived.Test.YtkofhilgehhopaaGvB
import Derived.Test.YtkofhilgehhopaaGuW
namespace Go.Proofs.Ytkofhilgehhopaa
open Go Go.ChangeShapes Go.WideShapes Go.ChangeAt Go.RowKit Go.Maps
set_option linter.unusedVariables false
set_option linter.unusedSimpArgs false
attribute [local go_sem ↓] Go.wp_at_zero Go.wp_at_succ
/-- An act as a value. -/
def ActV (w : World) (v : Value) (a : ActD) : Prop := ∃ va vn, v = .agg #[.int .i64 a.k, va, vn, .bool a.fr] ∧ Ints w va a.at_ ∧ Bools w vn a.neg
theorem ActV.below {w w' : World} {v : Value} {a : ActD} (h : ActV w v a) (hb : Below w.heap.size w w') : ActV w' v a := by
  obtain ⟨va, vn, h1, h2, h3⟩ := h
  exact ⟨va, vn, h1, h2.below hb, h3.below hb⟩
theorem Many_ (k : Int) (w : World) : Calls Try.prog 67 #[.int .i64 k] w fun e w' => e = .returned (.int .i64 (manyZ k)) ∧ w = w' := by
  obtain ⟨r, hr⟩ : ∃ r, r = manyZ k := ⟨_, rfl⟩
  rw [← hr]
  have HR := Lib.hid hr
  clear hr
  rcases (show k = 0 ∨ k = 1 ∨ k = 2 ∨ k = 3 ∨ k = 4 ∨ k = 7 ∨ (k ≠ 0 ∧ k ≠ 1 ∧ k ≠ 2 ∧ k ≠ 3 ∧ k ≠ 4 ∧ k ≠ 7) by omega) with rfl | rfl | rfl | rfl | rfl | rfl | ⟨h0, h1, h2, h3, h4, h7⟩
  case inr.inr.inr.inr.inr.inr =>
    have HE : Hid (r = -1) := Lib.hid (by rw [HR.out]; unfold manyZ; rw [if_neg h0, if_neg (by omega), if_neg h4, if_neg h7])
    have d0 : (k == 0) = false := by rw [beq_eq_false_iff_ne]; exact h0
    have d1 : (k == 1) = false := by rw [beq_eq_false_iff_ne]; exact h1
    have d2 : (k == 2) = false := by rw [beq_eq_false_iff_ne]; exact h2
    have d3 : (k == 3) = false := by rw [beq_eq_false_iff_ne]; exact h3
    have d4 : (k == 4) = false := by rw [beq_eq_false_iff_ne]; exact h4
    have d7 : (k == 7) = false := by rw [beq_eq_false_iff_ne]; exact h7
    clear h0 h1 h2 h3 h4 h7
    go_enter Try.func67, Try.ntmps67
    go_wp2
    go_ret
    exact ⟨by rw [HE.out]; rfl, rfl⟩
  all_goals
    go_enter Try.func67, Try.ntmps67
    go_wp2
    go_ret
    exact ⟨by rw [HR.out]; rfl, rfl⟩
theorem ints_at' {w : World} {va : Value} {l : List Int} (h : Ints w va l) {j : Nat} (hj : j < l.length) : ∃ b off c, va = .slice (some ⟨b, off, none⟩) l.length c ∧ ∀ wr, Below w.heap.size w wr → wr.cell? ⟨b, off + j, none⟩ = some (.int .i64 (l.getD j 0)) := by
  obtain ⟨a, cap, rfl, -, -, -, h3⟩ := h
  obtain ⟨b, off, rfl, hc⟩ := ints_cells h3 hj
  exact ⟨b, off, cap, rfl, hc⟩
set_option maxHeartbeats 4000000 in
set_option maxRecDepth 100000 in
theorem Fine_ {w : World} {v : Value} {a : ActD} (h : ActV w v a) (n : Nat) (hn : n ≤ 1000) :
    Calls Try.prog 47 #[v, .int .i64 n] w fun e w' => e = .returned (.bool (fineA a n)) ∧ Below w.heap.size w w' := by
  obtain ⟨va, vn, rfl, h1, h2⟩ := h
  obtain ⟨ans, hans⟩ : ∃ ans, ans = fineA a n := ⟨_, rfl⟩
  rw [← hans]
  have HA := Lib.hid hans
  have H1 := Lib.hid h1
  obtain ⟨aa, ac, rfl, -⟩ := h1
  obtain ⟨q, hq⟩ : ∃ q, q = a.at_.length := ⟨_, rfl⟩
  rw [← hq] at H1 ⊢
  have HQ := Lib.hid hq
  obtain ⟨k, hk⟩ : ∃ k, k = a.k := ⟨_, rfl⟩
  rw [← hk]
  have HK := Lib.hid hk
  have HB := Lib.hid (al1 w (.cells #[.int .i64 k, .slice aa q ac, vn, .bool a.fr] 74))
  clear h2 hans hq hk
  by_cases hbk : badK a = true
  · have HE : Hid (ans = false) := Lib.hid (by rw [HA.out]; unfold fineA; rw [hbk]; rfl)
    unfold badK at hbk
    rw [← HK.out, ← HQ.out] at hbk
    simp only [Bool.or_eq_true, decide_eq_true_eq] at hbk
    rcases (show k < 0 ∨ (¬ k < 0 ∧ 7 < k) ∨ (¬ k < 0 ∧ ¬ 7 < k ∧ 8 < (q : Int)) by omega) with d1 | ⟨d1, d2⟩ | ⟨d1, d2, d3⟩
    all_goals
      clear hbk
      go_enter Try.func47, Try.ntmps47
      go_wp2
      go_ret
      exact ⟨by rw [HE.out]; rfl, HB.out⟩
  have hbk' : ¬ k < 0 ∧ ¬ 7 < k ∧ ¬ 8 < (q : Int) := by
    unfold badK at hbk
    rw [← HK.out, ← HQ.out] at hbk
    simp only [Bool.or_eq_true, decide_eq_true_eq] at hbk
    omega
  obtain ⟨d1, d2, d3⟩ := hbk'
  have HBK : Hid (badK a = false) := Lib.hid (by simpa using hbk)
  clear hbk
  have HM := Lib.hid (Many_ k)
  obtain ⟨r, hr⟩ : ∃ r, r = manyZ k := ⟨_, rfl⟩
  rw [← hr] at HM
  have HR := Lib.hid hr
  clear hr
  by_cases hbn : badN a = true
  · have HE : Hid (ans = false) := Lib.hid (by rw [HA.out]; unfold fineA; rw [hbn]; simp)
    unfold badN at hbn
    rw [← HK.out, ← HQ.out, ← HR.out] at hbn
    simp only [Bool.or_eq_true, Bool.and_eq_true, decide_eq_true_eq] at hbn
    rcases (show (0 ≤ r ∧ (q : Int) ≠ r) ∨ (r = -2 ∧ q % 2 = 1) by omega) with ⟨e1, e2⟩ | ⟨rfl, e2⟩
    · have e3 : ((q : Int) == r) = false := by rw [beq_eq_false_iff_ne]; exact e2
      have e4 : ((q : Int) != r) = true := by rw [bne_iff_ne]; exact e2
      clear hbn e2
      go_enter Try.func47, Try.ntmps47
      go_wp2_with ((go_at_call 67; refine (HM.out _).mono ?_; rintro e w' ⟨rfl, rfl⟩))
      go_ret
      exact ⟨by rw [HE.out]; rfl, HB.out⟩
    · have e3 : (q : Int) % 2 = 1 := by omega
      clear hbn e2
      go_enter Try.func47, Try.ntmps47
      go_wp2_with ((go_at_call 67; refine (HM.out _).mono ?_; rintro e w' ⟨rfl, rfl⟩))
      go_ret
      exact ⟨by rw [HE.out]; rfl, HB.out⟩
  have HBN : Hid (badN a = false) := Lib.hid (by simpa using hbn)
  have hbn' : (0 ≤ r ∧ (q : Int) = r) ∨ (r = -2 ∧ q % 2 = 0) ∨ r = -1 := by
    unfold badN at hbn
    rw [← HK.out, ← HQ.out, ← HR.out] at hbn
    simp only [Bool.or_eq_true, Bool.and_eq_true, decide_eq_true_eq] at hbn
    have : r = 0 ∨ r = 2 ∨ r = 3 ∨ r = -2 ∨ r = -1 := by
      rw [HR.out]; unfold manyZ; split; omega; split; omega; split; omega; split <;> omega
    omega
  clear hbn
  have HAT : Hid (ans = a.at_.all fun x => decide (0 ≤ x) && decide (x < (n : Int))) := Lib.hid (by rw [HA.out]; unfold fineA; rw [HBK.out, HBN.out]; rfl)
  have HLOOP : Hid (∀ i, i < q → ∃ b off c, (Value.slice aa q ac) = .slice (some ⟨b, off, none⟩) q c ∧ ∀ wr, Below w.heap.size w wr → wr.cell? ⟨b, off + i, none⟩ = some (.int .i64 (a.at_.getD i 0))) := Lib.hid fun i hi => by
    obtain ⟨b, off, c, h1, h2⟩ := ints_at' H1.out (j := i) (by rw [← HQ.out]; exact hi)
    rw [← HQ.out] at h1
    exact ⟨b, off, c, h1, h2⟩
  rcases hbn' with ⟨e1, e2⟩ | ⟨rfl, e2⟩ | rfl
  · have e3 : ((q : Int) == r) = true := by rw [beq_iff_eq]; exact e2
    have e4 : ((q : Int) != r) = false := by rw [← e2]; simp
    have e5 : (r == -2) = false := by rw [beq_eq_false_iff_ne]; omega
    clear e2
    go_enter Try.func47, Try.ntmps47
    go_wp2_with ((go_at_call 67; refine (HM.out _).mono ?_; rintro e w' ⟨rfl, rfl⟩))
    go_loopw [6] (fun i wr => ∃ j : Nat, j ≤ q ∧ i = .int .i64 j ∧ wr = w.alloc (.cells #[.int .i64 k, .slice aa q ac, vn, .bool a.fr] 74) ∧ Hid (∀ i, i < j → 0 ≤ a.at_.getD i 0 ∧ a.at_.getD i 0 < (n : Int))) (fun i _ => q - (intOf i).toNat)
    case atStart => exact ⟨0, Nat.zero_le _, rfl, rfl, Lib.hid (fun i hi => by omega)⟩
    case round =>
      obtain ⟨j, hj, rfl, rfl, hG⟩ := hrel
      by_cases hlt : (j : Int) < (q : Int)
      · obtain ⟨b, off, c, he, hc⟩ := HLOOP.out j (by omega)
        injection he with q1 q2 q3
        subst q1
        have c1 := hc _ HB.out
        obtain ⟨x, hx⟩ : ∃ x, x = a.at_.getD j 0 := ⟨_, rfl⟩
        rw [← hx] at c1
        have HX := Lib.hid hx
        have HMEM : Hid (x ∈ a.at_) := Lib.hid (by
          have hjl : j < a.at_.length := by rw [← HQ.out]; omega
          rw [hx]; simp [List.getD, hjl])
        clear hc hx q2 q3
        rcases (show x < 0 ∨ (¬ x < 0 ∧ (n : Int) ≤ x) ∨ (¬ x < 0 ∧ ¬ (n : Int) ≤ x) by omega) with z1 | ⟨z1, z2⟩ | ⟨z1, z2⟩
        · have HE : Hid (ans = false) := Lib.hid (by
            rw [HAT.out, ← Bool.not_eq_true, List.all_eq_true]
            intro hh
            have := hh x HMEM.out
            simp at this; omega)
          go_wp2
          go_ret
          exact ⟨by rw [HE.out]; rfl, HB.out⟩
        · have HE : Hid (ans = false) := Lib.hid (by
            rw [HAT.out, ← Bool.not_eq_true, List.all_eq_true]
            intro hh
            have := hh x HMEM.out
            simp at this; omega)
          go_wp2
          go_ret
          exact ⟨by rw [HE.out]; rfl, HB.out⟩
        · have HN2 : Hid (∀ i, i < j + 1 → 0 ≤ a.at_.getD i 0 ∧ a.at_.getD i 0 < (n : Int)) := Lib.hid fun i hi => by
            by_cases e : i = j
            · rw [e, ← HX.out]; omega
            · exact hG.out i (by omega)
          clear HX
          go_wp2
          go_roundw
          case rel => exact ⟨j + 1, by omega, by go_num, (by first | rfl | trivial), HN2⟩
          case measure => simp [intOf]; omega
      · have HE : Hid (ans = true) := Lib.hid (by
          rw [HAT.out, List.all_eq_true]
          intro x hx
          obtain ⟨i, hi, rfl⟩ := List.getElem_of_mem hx
          have := hG.out i (by have := HQ.out; omega)
          simp [List.getD, hi] at this
          simp; exact this)
        go_wp2
        go_ret
        exact ⟨by rw [HE.out]; rfl, HB.out⟩
  · have e3 : (q : Int) % 2 = 0 := by omega
    clear e2
    go_enter Try.func47, Try.ntmps47
    go_wp2_with ((go_at_call 67; refine (HM.out _).mono ?_; rintro e w' ⟨rfl, rfl⟩))
    go_loopw [6] (fun i wr => ∃ j : Nat, j ≤ q ∧ i = .int .i64 j ∧ wr = w.alloc (.cells #[.int .i64 k, .slice aa q ac, vn, .bool a.fr] 74) ∧ Hid (∀ i, i < j → 0 ≤ a.at_.getD i 0 ∧ a.at_.getD i 0 < (n : Int))) (fun i _ => q - (intOf i).toNat)
    case atStart => exact ⟨0, Nat.zero_le _, rfl, rfl, Lib.hid (fun i hi => by omega)⟩
    case round =>
      obtain ⟨j, hj, rfl, rfl, hG⟩ := hrel
      by_cases hlt : (j : Int) < (q : Int)
      · obtain ⟨b, off, c, he, hc⟩ := HLOOP.out j (by omega)
        injection he with q1 q2 q3
        subst q1
        have c1 := hc _ HB.out
        obtain ⟨x, hx⟩ : ∃ x, x = a.at_.getD j 0 := ⟨_, rfl⟩
        rw [← hx] at c1
        have HX := Lib.hid hx
        have HMEM : Hid (x ∈ a.at_) := Lib.hid (by
          have hjl : j < a.at_.length := by rw [← HQ.out]; omega
          rw [hx]; simp [List.getD, hjl])
        clear hc hx q2 q3
        rcases (show x < 0 ∨ (¬ x < 0 ∧ (n : Int) ≤ x) ∨ (¬ x < 0 ∧ ¬ (n : Int) ≤ x) by omega) with z1 | ⟨z1, z2⟩ | ⟨z1, z2⟩
        · have HE : Hid (ans = false) := Lib.hid (by
            rw [HAT.out, ← Bool.not_eq_true, List.all_eq_true]
            intro hh
            have := hh x HMEM.out
            simp at this; omega)
          go_wp2
          go_ret
          exact ⟨by rw [HE.out]; rfl, HB.out⟩
        · have HE : Hid (ans = false) := Lib.hid (by
            rw [HAT.out, ← Bool.not_eq_true, List.all_eq_true]
            intro hh
            have := hh x HMEM.out
            simp at this; omega)
          go_wp2
          go_ret
          exact ⟨by rw [HE.out]; rfl, HB.out⟩
        · have HN2 : Hid (∀ i, i < j + 1 → 0 ≤ a.at_.getD i 0 ∧ a.at_.getD i 0 < (n : Int)) := Lib.hid fun i hi => by
            by_cases e : i = j
            · rw [e, ← HX.out]; omega
            · exact hG.out i (by omega)
          clear HX
          go_wp2
          go_roundw
          case rel => exact ⟨j + 1, by omega, by go_num, (by first | rfl | trivial), HN2⟩
          case measure => simp [intOf]; omega
      · have HE : Hid (ans = true) := Lib.hid (by
          rw [HAT.out, List.all_eq_true]
          intro x hx
          obtain ⟨i, hi, rfl⟩ := List.getElem_of_mem hx
          have := hG.out i (by have := HQ.out; omega)
          simp [List.getD, hi] at this
          simp; exact this)
        go_wp2
        go_ret
        exact ⟨by rw [HE.out]; rfl, HB.out⟩
  · go_enter Try.func47, Try.ntmps47
    go_wp2_with ((go_at_call 67; refine (HM.out _).mono ?_; rintro e w' ⟨rfl, rfl⟩))
    go_loopw [6] (fun i wr => ∃ j : Nat, j ≤ q ∧ i = .int .i64 j ∧ wr = w.alloc (.cells #[.int .i64 k, .slice aa q ac, vn, .bool a.fr] 74) ∧ Hid (∀ i, i < j → 0 ≤ a.at_.getD i 0 ∧ a.at_.getD i 0 < (n : Int))) (fun i _ => q - (intOf i).toNat)
    case atStart => exact ⟨0, Nat.zero_le _, rfl, rfl, Lib.hid (fun i hi => by omega)⟩
    case round =>
      obtain ⟨j, hj, rfl, rfl, hG⟩ := hrel
      by_cases hlt : (j : Int) < (q : Int)
      · obtain ⟨b, off, c, he, hc⟩ := HLOOP.out j (by omega)
        injection he with q1 q2 q3
        subst q1
        have c1 := hc _ HB.out
        obtain ⟨x, hx⟩ : ∃ x, x = a.at_.getD j 0 := ⟨_, rfl⟩
        rw [← hx] at c1
        have HX := Lib.hid hx
        have HMEM : Hid (x ∈ a.at_) := Lib.hid (by
          have hjl : j < a.at_.length := by rw [← HQ.out]; omega
          rw [hx]; simp [List.getD, hjl])
        clear hc hx q2 q3
        rcases (show x < 0 ∨ (¬ x < 0 ∧ (n : Int) ≤ x) ∨ (¬ x < 0 ∧ ¬ (n : Int) ≤ x) by omega) with z1 | ⟨z1, z2⟩ | ⟨z1, z2⟩
        · have HE : Hid (ans = false) := Lib.hid (by
            rw [HAT.out, ← Bool.not_eq_true, List.all_eq_true]
            intro hh
            have := hh x HMEM.out
            simp at this; omega)
          go_wp2
          go_ret
          exact ⟨by rw [HE.out]; rfl, HB.out⟩
        · have HE : Hid (ans = false) := Lib.hid (by
            rw [HAT.out, ← Bool.not_eq_true, List.all_eq_true]
            intro hh
            have := hh x HMEM.out
            simp at this; omega)
          go_wp2
          go_ret
          exact ⟨by rw [HE.out]; rfl, HB.out⟩
        · have HN2 : Hid (∀ i, i < j + 1 → 0 ≤ a.at_.getD i 0 ∧ a.at_.getD i 0 < (n : Int)) := Lib.hid fun i hi => by
            by_cases e : i = j
            · rw [e, ← HX.out]; omega
            · exact hG.out i (by omega)
          clear HX
          go_wp2
          go_roundw
          case rel => exact ⟨j + 1, by omega, by go_num, (by first | rfl | trivial), HN2⟩
          case measure => simp [intOf]; omega
      · have HE : Hid (ans = true) := Lib.hid (by
          rw [HAT.out, List.all_eq_true]
          intro x hx
          obtain ⟨i, hi, rfl⟩ := List.getElem_of_mem hx
          have := hG.out i (by have := HQ.out; omega)
          simp [List.getD, hi] at this
          simp; exact this)
        go_wp2
        go_ret
        exact ⟨by rw [HE.out]; rfl, HB.out⟩
end Go.Proofs.Ytkofhilgehhopaa
/-
  astrariumref27: a list of acts; Cost, walked.
-/
namespace Go.Proofs.Ytkofhilgehhopaa
open Go Go.ChangeShapes Go.WideShapes Go.ChangeAt Go.RowKit Go.Maps
set_option linter.unusedVariables false
set_option linter.unusedSimpArgs false
attribute [local go_sem ↓] Go.wp_at_zero Go.wp_at_succ
/-- A list of acts. -/
def ActsS (w : World) (v : Value) (xs : List ActD) : Prop :=
  ∃ a cap, v = .slice a xs.length cap ∧ xs.length ≤ cap ∧ cap ≤ maxLen ∧ (xs = [] ∨ ∃ b off, a = some ⟨b, off, none⟩ ∧ ∀ j, j < xs.length → w.cell? ⟨b, off + j * 4, none⟩ = some (.int .i64 (xs.getD j act0).k) ∧
    (∃ va, w.cell? ⟨b, off + j * 4 + 1, none⟩ = some va ∧ Ints w va (xs.getD j act0).at_) ∧ (∃ vn, w.cell? ⟨b, off + j * 4 + 2, none⟩ = some vn ∧ Bools w vn (xs.getD j act0).neg) ∧ w.cell? ⟨b, off + j * 4 + 3, none⟩ = some (.bool (xs.getD j act0).fr))
theorem ActsS.form {w : World} {v : Value} {xs : List ActD} (h : ActsS w v xs) : ∃ a cap, v = .slice a xs.length cap ∧ xs.length ≤ cap ∧ cap ≤ maxLen := by
  obtain ⟨a, cap, h1, h2, h3, -⟩ := h
  exact ⟨a, cap, h1, h2, h3⟩
/-- An act of a list, in any later world. -/
theorem ActsS.at_ {w : World} {v : Value} {xs : List ActD} (h : ActsS w v xs) {j : Nat} (hj : j < xs.length) : ∃ b off cap va vn, v = .slice (some ⟨b, off, none⟩) xs.length cap ∧ ActV w (.agg #[.int .i64 (xs.getD j act0).k, va, vn, .bool (xs.getD j act0).fr]) (xs.getD j act0) ∧
    ∀ W, Below w.heap.size w W → W.cell? ⟨b, off + j * 4, none⟩ = some (.int .i64 (xs.getD j act0).k) ∧ W.cell? ⟨b, off + j * 4 + 1, none⟩ = some va ∧ W.cell? ⟨b, off + j * 4 + 2, none⟩ = some vn ∧ W.cell? ⟨b, off + j * 4 + 3, none⟩ = some (.bool (xs.getD j act0).fr) := by
  obtain ⟨a, cap, rfl, h1, h2, h3⟩ := h
  rcases h3 with rfl | ⟨b, off, rfl, hc⟩
  · simp at hj
  obtain ⟨c0, ⟨va, c1, d1⟩, ⟨vn, c2, d2⟩, c3⟩ := hc j hj
  exact ⟨b, off, cap, va, vn, rfl, ⟨va, vn, rfl, d1, d2⟩, fun W hW =>
    ⟨(hW.cell (World.block_lt_of_cell? w _ c0)).trans c0, (hW.cell (World.block_lt_of_cell? w _ c1)).trans c1, (hW.cell (World.block_lt_of_cell? w _ c2)).trans c2, (hW.cell (World.block_lt_of_cell? w _ c3)).trans c3⟩⟩
theorem bools_at2 {w : World} {va : Value} {l : List Bool} (h : Bools w va l) {j : Nat} (hj : j < l.length) : ∃ b off c, va = .slice (some ⟨b, off, none⟩) l.length c ∧ ∀ wr, Below w.heap.size w wr → wr.cell? ⟨b, off + j, none⟩ = some (.bool (l.getD j false)) := by
  obtain ⟨b, off, cap, he, hc⟩ := bools_cell h hj
  exact ⟨b, off, cap, he, fun wr hw => (hw.cell (p := ⟨b, off + j, none⟩) (World.block_lt_of_cell? w _ hc)).trans hc⟩
theorem tdiv2 (q : Nat) : (q : Int).tdiv 2 = ((q / 2 : Nat) : Int) := by rw [Int.tdiv_eq_ediv_of_nonneg (by omega)]; omega
set_option maxHeartbeats 4000000 in
set_option maxRecDepth 100000 in
theorem Cost_ {w : World} {v : Value} {a : ActD} (h : ActV w v a) (h9 : a.at_.length ≤ 100) :
    Calls Try.prog 49 #[v] w fun e w' => e = .returned (.tuple #[.int .i64 (costV a), .int .i64 (costC a)]) ∧ Below w.heap.size w w' := by
  obtain ⟨va, vn, rfl, h1, h2⟩ := h
  obtain ⟨aa, ac, rfl, -⟩ := h1
  obtain ⟨q, hq⟩ : ∃ q, q = a.at_.length := ⟨_, rfl⟩
  obtain ⟨k, hk⟩ : ∃ k, k = a.k := ⟨_, rfl⟩
  obtain ⟨cv, hcv⟩ : ∃ cv, cv = costV a := ⟨_, rfl⟩
  obtain ⟨cc, hcc⟩ : ∃ cc, cc = costC a := ⟨_, rfl⟩
  have HV : Hid (cv = if k = 0 ∨ k = 1 ∨ k = 2 ∨ k = 3 ∨ k = 4 then 1 else if k = 7 then q + 1 else q) := Lib.hid (by rw [hcv, hk, hq]; rfl)
  have HC : Hid (cc = if k = 0 then 0 else if k = 1 ∨ k = 2 then 3 else if k = 3 ∨ k = 4 then 4 else if k = 7 then 5 * (q / 2) + 1 else q + 1) := Lib.hid (by rw [hcc, hk, hq]; rfl)
  have HB := Lib.hid (al1 w (.cells #[.int .i64 a.k, .slice aa a.at_.length ac, vn, .bool a.fr] 74))
  rw [← hcv, ← hcc]
  rw [← hk, ← hq] at HB ⊢
  rw [← hq] at h9
  generalize a.fr = fr at *
  have q9 : (q : Int) ≤ 100 := by omega
  have q0 : (0 : Int) ≤ (q : Int) := by omega
  have ht := tdiv2 q
  obtain ⟨z, hz⟩ : ∃ z, z = q / 2 := ⟨_, rfl⟩
  rw [← hz] at HC
  have z9 : (z : Int) ≤ 50 := by omega
  have z0 : (0 : Int) ≤ (z : Int) := by omega
  have he : (q : Int) / 2 = (z : Int) := by omega
  rw [← hz] at ht
  clear h2 hq hk hcv hcc h9 hz
  rcases (show k = 0 ∨ k = 1 ∨ k = 2 ∨ k = 3 ∨ k = 4 ∨ k = 7 ∨ (k ≠ 0 ∧ k ≠ 1 ∧ k ≠ 2 ∧ k ≠ 3 ∧ k ≠ 4 ∧ k ≠ 7) by omega) with rfl | rfl | rfl | rfl | rfl | rfl | ⟨h0, h1, h2, h3, h4, h7⟩
  case inr.inr.inr.inr.inr.inr =>
    replace HV : Hid (cv = q) := Lib.hid (by rw [HV.out, if_neg (by omega), if_neg h7])
    replace HC : Hid (cc = q + 1) := Lib.hid (by rw [HC.out, if_neg h0, if_neg (by omega), if_neg (by omega), if_neg h7])
    have d0 : (k == 0) = false := by rw [beq_eq_false_iff_ne]; exact h0
    have d1 : (k == 1) = false := by rw [beq_eq_false_iff_ne]; exact h1
    have d2 : (k == 2) = false := by rw [beq_eq_false_iff_ne]; exact h2
    have d3 : (k == 3) = false := by rw [beq_eq_false_iff_ne]; exact h3
    have d4 : (k == 4) = false := by rw [beq_eq_false_iff_ne]; exact h4
    have d7 : (k == 7) = false := by rw [beq_eq_false_iff_ne]; exact h7
    clear h0 h1 h2 h3 h4 h7
    go_enter Try.func49, Try.ntmps49
    go_wp2
    go_ret2
    exact ⟨by rw [HV.out, HC.out]; rfl, HB.out⟩
  all_goals
    go_enter Try.func49, Try.ntmps49
    go_wp2
    go_ret2
    refine ⟨?_, HB.out⟩
    rw [HV.out, HC.out]
    first
      | rfl
      | (simp; done)
      | (simp; omega)
end Go.Proofs.Ytkofhilgehhopaa
