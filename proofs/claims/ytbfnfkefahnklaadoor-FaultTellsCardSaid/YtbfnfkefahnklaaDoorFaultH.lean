/-
  The laws of chapter 2: alive, made.
-/
import Derived.Test.YtbfnfkefahnklaaDoorFaultG
import Derived.Test.YtbfnfkefahnklaaDoorIntsB
namespace Go.Proofs.YtbfnfkefahnklaaDoor
open Go.RowKit Go.Extern.Stop Go.Stop Go.Extern
set_option linter.unusedVariables false
theorem CP.two {w w' : World} {k a b : Int} {e : Ending} (h : CP w k [a, b] e w') : ∃ x y v, e = .returned v ∧ Chain w' k [(x, a), (y, b)] v ∧ Below w.heap.size w w' := by
  obtain ⟨l, v, he, hc, hm, hb⟩ := h
  match l, hm with
  | [(x, a'), (y, b')], hm =>
    simp at hm
    obtain ⟨rfl, rfl⟩ := hm
    exact ⟨x, y, v, he, hc, hb⟩
theorem CP.one {w w' : World} {k a : Int} {e : Ending} (h : CP w k [a] e w') : ∃ x v, e = .returned v ∧ Chain w' k [(x, a)] v ∧ Below w.heap.size w w' := by
  obtain ⟨l, v, he, hc, hm, hb⟩ := h
  match l, hm with
  | [(x, a')], hm =>
    simp at hm
    obtain rfl := hm
    exact ⟨x, v, he, hc, hb⟩
set_option maxHeartbeats 1000000 in
theorem alive_true {w : World} (hL : Laid w) : Calls Tryd.prog 6 #[] w fun ev w' => ev = .returned (.bool true) ∧ Below w.heap.size w w' := by
  have HL := Lib.hid hL
  clear hL
  go_enter Tryd.func6, Tryd.ntmps6
  go_wp2_with fail
  refine (New_C 8 5 rfl w).mono ?_
  intro ev w1 h1
  obtain ⟨x1, v1, rfl, hc1, hb1⟩ := h1.one
  have H1 := Lib.hid hc1
  have B1 := Lib.hid hb1
  clear h1 hc1 hb1
  go_wp2_with fail
  refine (Wrap_C (HL.out.below B1.out) H1.out 9).mono ?_
  intro ev w2 h2
  obtain ⟨x2, y2, v2, rfl, hc2, hb2⟩ := h2.two
  have H2 := Lib.hid hc2
  have B2 := Lib.hid (B1.out.trans (hb2.mono B1.out.size))
  clear h2 hc2 hb2 H1
  have T2 : Hid (Calls Tryd.prog 8 #[v2] w2 fun ev w' => ev = .returned (.tuple #[.int .i64 8, .int .i64 5]) ∧ Below w2.heap.size w2 w') := Lib.hid (Told_C (HL.out.below B2.out) H2.out)
  go_wp2_with fail
  refine T2.out.mono ?_
  rintro ev w3 ⟨rfl, hb3⟩
  have H3 := Lib.hid (H2.out.below hb3)
  have B3 := Lib.hid (B2.out.trans (hb3.mono B2.out.size))
  clear hb3 T2 H2
  have D3 : Hid (Calls Tryd.prog 9 #[v2] w3 fun ev w' => ev = .returned (.int .i64 2) ∧ Below w3.heap.size w3 w') := Lib.hid (Depth_C (HL.out.below B3.out) H3.out (by simp))
  go_wp2_with fail
  refine D3.out.mono ?_
  rintro ev w4 ⟨rfl, hb4⟩
  have H4 := Lib.hid (H3.out.below hb4)
  have B4 := Lib.hid (B3.out.trans (hb4.mono B3.out.size))
  clear hb4 D3 H3
  have I4 : Hid (Calls Tryd.prog 10 #[v2, .int .i64 8] w4 fun ev w' => ev = .returned (.bool true) ∧ w4 = w') := Lib.hid (Is_F (o := 8) H4.out)
  have I5 : Hid (Calls Tryd.prog 10 #[v2, .int .i64 9] w4 fun ev w' => ev = .returned (.bool false) ∧ w4 = w') := Lib.hid (Is_F (o := 9) H4.out)
  go_wp2_with fail
  refine I4.out.mono ?_
  rintro ev w5 ⟨rfl, rfl⟩
  go_wp2_with fail
  refine I5.out.mono ?_
  rintro ev w5 ⟨rfl, rfl⟩
  go_wp2
  go_ret
  exact ⟨rfl, B4.out⟩
/-- An error of kind k, or none (kind 0), with these places. -/
def CK (w0 : World) (k : Int) (ats : List Int) (v : Value) (w : World) : Prop := (if k = 0 then v = .nilIface else ∃ l, Chain w k l v ∧ l.map (·.2) = ats) ∧ Below w0.heap.size w0 w
theorem CK.step {w0 w : World} {k : Int} {ats : List Int} {v : Value} (hL : Laid w0) (h : CK w0 k ats v w) (a : Int) :
    Calls Tryd.prog 11 #[v, .int .i64 a] w fun ev w' => ∃ u, ev = .returned u ∧ CK w0 k (a :: ats) u w' := by
  obtain ⟨h, hb⟩ := h
  by_cases hk : k = 0
  · rw [if_pos hk] at h
    subst h
    refine (Wrap_nil a w).mono ?_
    rintro ev w' ⟨rfl, rfl⟩
    exact ⟨_, rfl, by rw [if_pos hk], hb⟩
  · rw [if_neg hk] at h
    obtain ⟨l, hc, rfl⟩ := h
    refine (Wrap_C (hL.below hb) hc a).mono ?_
    rintro ev w' ⟨l', v', rfl, hc', hm, hb'⟩
    exact ⟨_, rfl, by rw [if_neg hk]; exact ⟨l', hc', hm⟩, hb.trans (hb'.mono hb.size)⟩
theorem CK.new (k a : Int) (w : World) : Calls Tryd.prog 13 #[.int .i64 k, .int .i64 a] w fun ev w' => ∃ u, ev = .returned u ∧ CK w k [a] u w' := by
  by_cases hk : k = 0
  · subst hk
    refine (New_0 a w).mono ?_
    rintro ev w' ⟨rfl, rfl⟩
    exact ⟨_, rfl, by rw [if_pos rfl], Below.refl _ _⟩
  · refine (New_C k a (by simpa using hk) w).mono ?_
    rintro ev w' ⟨l', v', rfl, hc', hm, hb'⟩
    exact ⟨_, rfl, by rw [if_neg hk]; exact ⟨l', hc', hm⟩, hb'⟩
theorem take_rev (l : List Int) (k : Nat) (h : k < l.length) : (l.take (k + 1)).reverse = l.getD k 0 :: (l.take k).reverse := by
  rw [List.take_succ_eq_append_getElem h, List.reverse_append]
  simp [List.getD, h]
set_option maxHeartbeats 1000000 in
theorem made_C {w : World} (hL : Laid w) (k a : Int) {v : Value} {over : List Int} (h : Ints w v over) (hs : over.length ≤ 30) :
    Calls Tryd.prog 7 #[.int .i64 k, .int .i64 a, v] w fun ev w' => ∃ u, ev = .returned u ∧ CK w k (over.reverse ++ [a]) u w' := by
  have HL := Lib.hid hL
  obtain ⟨oa, cap, rfl, -, hc1, hc2, hv⟩ := h
  have HV := Lib.hid hv
  obtain ⟨n, hn⟩ : ∃ n, n = over.length := ⟨_, rfl⟩
  rw [← hn] at hs hc1 ⊢
  have HN := Lib.hid hn
  clear hL hv hn
  go_enter Tryd.func7, Tryd.ntmps7
  go_wp2_with fail
  refine (CK.new k a w).mono ?_
  rintro ev w1 ⟨u1, rfl, h1⟩
  have H1 := Lib.hid h1
  clear h1
  go_wp2
  go_loopw [7, 8] (fun x i wr => ∃ j : Nat, j ≤ n ∧ i = .int .i64 j ∧ CK w k ((over.take j).reverse ++ [a]) x wr) (fun _ i _ => n - (intOf i).toNat)
  case atStart => exact ⟨0, Nat.zero_le _, rfl, H1.out⟩
  case round =>
    obtain ⟨j, hj, rfl, hk⟩ := hrel
    by_cases hlt : j < n
    · have hjo : j < over.length := by have := HN.out; omega
      obtain ⟨b, off, rfl, hcell⟩ := ints_cells HV.out hjo
      have hcl := hcell wr hk.2
      have HW := Lib.hid (hk.step HL.out (over.getD j 0))
      have HT := Lib.hid (take_rev over j hjo)
      generalize over.getD j 0 = x at hcl HW HT
      clear hcell hk hjo
      go_wp2_with fail
      refine HW.out.mono ?_
      rintro ev w2 ⟨u2, rfl, h2⟩
      have H2 := Lib.hid h2
      clear h2
      go_wp2
      go_roundw
      case rel => exact ⟨j + 1, by omega, by go_num, by rw [HT.out]; exact H2.out⟩
      case measure => simp [intOf]; omega
    · have hjn : j = n := by omega
      have HK := Lib.hid hk
      have HJ := Lib.hid hjn
      clear hjn hk
      go_wp2
      go_ret
      refine ⟨_, rfl, ?_⟩
      have := HK.out
      rw [HJ.out, HN.out, List.take_length] at this
      exact this
end Go.Proofs.YtbfnfkefahnklaaDoor
