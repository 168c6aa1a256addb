/-
  The laws of chapter 17: alive, ClauseHolds, ClausePairs, ClauseResolves.
-/
import Derived.Test.YtjldiojlmbgphaaClG
import Derived.Test.YtjldiojlmbgphaaFrameB
namespace Go.Proofs.Ytjldiojlmbgphaa
open Go.ChangeShapes Go.WideShapes Go.ChangeAt Go.RowKit
set_option linter.unusedVariables false
theorem ints_new2 {w : World} {g : Nat} {a b : Int} (h : w.heap[g]? = some (.cells #[.int .i64 a, .int .i64 b] 3 (0, 0))) : Ints w (.slice (some ⟨g, 0, none⟩) 2 2) [a, b] := by
  have hB : Blk w g 3 #[.int .i64 a, .int .i64 b] := h
  refine ⟨_, 2, rfl, (fun h => by cases h), by simp, by simp [maxLen], .inr ⟨g, 0, rfl, fun j hj => ?_⟩⟩
  rw [Nat.zero_add, hB.cell]
  match j, hj with
  | 0, _ => rfl
  | 1, _ => rfl
theorem res_a : resB [1, 2] [-1, 3] 1 = true := by decide +kernel
theorem res_c : resC [1, 2] [-1, 3] 1 = [2, 3] := by decide +kernel
theorem cl_a : ClauseL [1, 2] := by decide +kernel
theorem cl_b : ClauseL [-1, 3] := by decide +kernel
theorem bad_a : badR 3 (-3) = false := by decide +kernel
theorem bad_b : badR 3 4 = true := by decide +kernel
set_option maxHeartbeats 1000000 in
set_option maxRecDepth 100000 in
theorem alive17 (w : World) : Calls Try.prog 7 #[] w fun e w' => e = .returned (.bool true) ∧ Below w.heap.size w w' := by
  go_enter Try.func7, Try.ntmps7
  go_wp2_with fail
  refine (cl_Resolve_yes (a := [1, 2]) (b := [-1, 3]) (ints_new2 (heap_new3 w _ _)) (ints_new2 (heap_new2 w _ _)) cl_a cl_b (by simp) (by simp) 1 ⟨by omega, by omega⟩ res_a).mono ?_
  rintro e w3 ⟨z, rfl, hz⟩
  rw [res_c] at hz
  have HB3 : Hid (Below w.heap.size w w3) := Lib.hid ((below_new2 w _ _).trans (hz.2.1.mono (by simp; omega)))
  have HZ := Lib.hid (OwnI.ints hz)
  clear hz
  go_wp2_with fail
  refine (r01_Same (HZ.out.below (below_new1 _ _)) (ints_new2 (heap_new1 w3 _))).mono ?_
  rintro e w4 ⟨rfl, hq⟩
  rw [sameB_self]
  have HB4 : Hid (Below w.heap.size w w4) := Lib.hid ((HB3.out.trans ((below_new1 _ _).mono HB3.out.size)).trans (hq.below.mono (by have := HB3.out.size; simp; omega)))
  clear hq
  go_wp2_with fail
  refine (cl_Right (w := w4.alloc (.cells #[.int .i64 (-3)] 3)) (b := w4.heap.size) (y := -3) ((Blk.new w4 3 _).cell 0)).mono ?_
  rintro e w5 ⟨rfl, hb5⟩
  rw [bad_a]
  have HB5 : Hid (Below w.heap.size w w5) := Lib.hid ((HB4.out.trans ((below_new1 _ _).mono HB4.out.size)).trans (hb5.mono (by have := HB4.out.size; simp; omega)))
  clear hb5
  go_wp2_with fail
  refine (cl_Right (w := w5.alloc (.cells #[.int .i64 4] 3)) (b := w5.heap.size) (y := 4) ((Blk.new w5 3 _).cell 0)).mono ?_
  rintro e w6 ⟨rfl, hb6⟩
  rw [bad_b]
  have HB6 : Hid (Below w.heap.size w w6) := Lib.hid ((HB5.out.trans ((below_new1 _ _).mono HB5.out.size)).trans (hb6.mono (by have := HB5.out.size; simp; omega)))
  clear hb6
  go_wp2_with fail
  go_ret
  exact ⟨rfl, HB6.out⟩
/-! ### plain -/
theorem fineP_yes {a b : List Int} (h : fineP a b = true) : a.length ≤ 60 ∧ b.length ≤ 60 ∧ ClauseL a ∧ ClauseL b := by
  unfold fineP clauseB at h
  simp only [Bool.and_eq_true, decide_eq_true_eq] at h
  exact ⟨h.1.1.1, h.1.1.2, h.1.2, h.2⟩
theorem holds_mem {l m : List Int} (h : ∀ a, a ∈ l → a ∈ m) (ms : List Bool) (hh : holdsB l ms = true) : holdsB m ms = true := by
  unfold holdsB at *
  rw [List.any_eq_true] at *
  obtain ⟨x, hx, hl⟩ := hh
  exact ⟨x, h x hx, hl⟩
theorem holds_norm (l : List Int) (ms : List Bool) : holdsB (normC l) ms = holdsB l ms := by
  rw [Bool.eq_iff_iff]
  exact ⟨holds_mem (fun a h => (mem_normC l a).1 h) ms, holds_mem (fun a h => (mem_normC l a).2 h) ms⟩
theorem same_norm (l : List Int) : sameS l (normC l) = true := by
  unfold sameS subB
  simp only [Bool.and_eq_true, List.all_eq_true, List.contains_eq_mem, decide_eq_true_eq]
  exact ⟨fun x hx => (mem_normC l x).2 hx, fun x hx => (mem_normC l x).1 hx⟩
theorem sub_holds {a b : List Int} (h : subB a b = true) (ms : List Bool) (hh : holdsB a ms = true) : holdsB b ms = true := by
  refine holds_mem (fun x hx => ?_) ms hh
  unfold subB at h
  simp only [List.all_eq_true, List.contains_eq_mem, decide_eq_true_eq] at h
  exact h x hx
theorem lit_neg {x : Int} (h : 1 ≤ x) (ms : List Bool) (h1 : litB x ms = true) (h2 : litB (-x) ms = true) : False := by
  have e : absI (-x) = absI x := by unfold absI; omega
  unfold litB at h1 h2
  rw [e, decide_eq_false (show ¬ (0 : Int) < -x by omega)] at h2
  rw [decide_eq_true (show (0 : Int) < x by omega)] at h1
  rw [beq_iff_eq] at h1 h2
  rw [← h1] at h2
  cases h2
theorem res_holds {a b : List Int} {x : Int} (hr : resB a b x = true) (ms : List Bool) (h1 : holdsB a ms = true) (h2 : holdsB b ms = true) : holdsB (resC a b x) ms = true := by
  unfold resC
  rw [holds_norm]
  unfold resB at hr
  rw [Bool.and_eq_true, Bool.and_eq_true, decide_eq_true_eq] at hr
  unfold holdsB at *
  rw [List.any_eq_true] at *
  obtain ⟨p, hp, hpl⟩ := h1
  obtain ⟨q, hq, hql⟩ := h2
  by_cases hpx : p = x
  · by_cases hqx : q = -x
    · rw [hpx] at hpl
      rw [hqx] at hql
      exact (lit_neg hr.1.1 ms hpl hql).elim
    · exact ⟨q, List.mem_append.2 (.inr (List.mem_filter.2 ⟨hq, by simp [hqx]⟩)), hql⟩
  · exact ⟨p, List.mem_append.2 (.inl (List.mem_filter.2 ⟨hp, by simp [hpx]⟩)), hpl⟩

/-! ### ClauseHolds -/
set_option maxRecDepth 100000 in
theorem holds_off {w : World} {u v : Value} {c : List Int} {ms : List Bool} (hc : Ints w u c) (hm : Bools w v ms) (h : (fineP c [] && decide (ms.length ≤ 200)) = false) :
    Calls Try.prog 3 #[u, v] w fun e w' => e = .returned (.bool true) ∧ Below w.heap.size w w' := by
  have F := Lib.hid (w17_fine hc (ints_nil w))
  obtain ⟨p, hp⟩ : ∃ p, p = fineP c [] := ⟨_, rfl⟩
  rw [← hp] at F h
  obtain ⟨A, cap, rfl, m1, m2, -⟩ := hm
  obtain ⟨n, hn⟩ : ∃ n, n = ms.length := ⟨_, rfl⟩
  rw [← hn] at h m1 ⊢
  have hn9 : n ≤ 9223372036854775807 := Nat.le_trans m1 m2
  clear hc hp hn m1 m2
  cases p
  · clear h
    go_enter Try.func3, Try.ntmps3
    go_wp2_with fail
    refine F.out.mono ?_
    rintro e w1 ⟨rfl, rfl⟩
    go_wp2_with ((go_at_call 7; refine (alive17 _).mono ?_; rintro e w' ⟨rfl, hb⟩))
    go_ret
    exact ⟨rfl, hb⟩
  · rw [Bool.true_and] at h
    have h' := of_decide_eq_false h
    have c1 : (200 : Int) < (n : Int) := by omega
    clear h h'
    go_enter Try.func3, Try.ntmps3
    go_wp2_with fail
    refine F.out.mono ?_
    rintro e w1 ⟨rfl, rfl⟩
    go_wp2_with ((go_at_call 7; refine (alive17 _).mono ?_; rintro e w' ⟨rfl, hb⟩))
    go_ret
    exact ⟨rfl, hb⟩
set_option maxRecDepth 100000 in
theorem holds_on {w : World} {u v : Value} {c : List Int} {ms : List Bool} (hc : Ints w u c) (hm : Bools w v ms) (hf : fineP c [] = true) (hl : ms.length ≤ 200) :
    Calls Try.prog 3 #[u, v] w fun e w' => e = .returned (.bool true) ∧ Below w.heap.size w w' := by
  obtain ⟨f1, -, f3, -⟩ := fineP_yes hf
  have F := Lib.hid (w17_fine hc (ints_nil w))
  rw [hf] at F
  have H1 := Lib.hid (cl_Holds hc f3 hm)
  have H2 : Hid (∀ W, Below w.heap.size w W → Calls Try.prog 9 #[u, v] W fun e w' => e = .returned (.bool (holdsB c ms)) ∧ W = w') := Lib.hid fun W hW => r17_Holds (hc.below hW) f3 (hm.below hW)
  obtain ⟨q, hq⟩ : ∃ q, q = holdsB c ms := ⟨_, rfl⟩
  rw [← hq] at H1 H2
  obtain ⟨A, cap, rfl, -, -, -⟩ := hm
  obtain ⟨n, hn⟩ : ∃ n, n = ms.length := ⟨_, rfl⟩
  rw [← hn] at hl H1 H2 ⊢
  have c1 : (n : Int) ≤ 200 := by omega
  clear hc hf hq hn f1 f3
  go_enter Try.func3, Try.ntmps3
  go_wp2_with fail
  refine F.out.mono ?_
  rintro e w1 ⟨rfl, rfl⟩
  go_wp2_with fail
  refine H1.out.mono ?_
  rintro e w2 ⟨rfl, hb⟩
  have HB := Lib.hid hb
  clear hb
  go_wp2_with fail
  refine (H2.out _ HB.out).mono ?_
  rintro e w3 ⟨rfl, rfl⟩
  go_wp2_with ((go_at_call 7; refine (alive17 _).mono ?_; rintro e w' ⟨rfl, hb⟩))
  go_ret
  exact ⟨rfl, HB.out.trans (hb.mono HB.out.size)⟩
theorem claw_holds {w : World} {u v : Value} {c : List Int} {ms : List Bool} (hc : Ints w u c) (hm : Bools w v ms) :
    Calls Try.prog 3 #[u, v] w fun e w' => e = .returned (.bool true) ∧ Below w.heap.size w w' := by
  cases h : (fineP c [] && decide (ms.length ≤ 200))
  · exact holds_off hc hm h
  · rw [Bool.and_eq_true] at h
    exact holds_on hc hm h.1 (of_decide_eq_true h.2)
end Go.Proofs.Ytjldiojlmbgphaa
