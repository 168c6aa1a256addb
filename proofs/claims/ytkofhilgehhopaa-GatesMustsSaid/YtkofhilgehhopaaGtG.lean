/-
  Package gates: Some of nil gates; the law GatesNils.
-/
import Derived.Test.YtkofhilgehhopaaGtF
import Derived.Test.YtkofhilgehhopaaOwnB
import Derived.IntWalk
import Derived.Deep.CutBlock
import Derived.Deep.DeepCutAuto
namespace Go.Proofs.Ytkofhilgehhopaa
open Go Go.ChangeShapes Go.WideShapes Go.ChangeAt Go.RowKit Go.Maps
set_option linter.unusedVariables false
set_option linter.unusedSimpArgs false
attribute [local go_sem ↓] Go.wp_at_zero Go.wp_at_succ
def negW (c : List Int) : List Int := c.map fun x => wrap64 (-x)
set_option maxHeartbeats 2000000 in
theorem negated_ {w : World} {v : Value} {c : List Int} (h : Ints w v c) (hlen : c.length ≤ 1000000) :
    Calls Try.prog 46 #[v] w fun e w' => ∃ u, e = .returned u ∧ OwnI w w' u (negW c) := by
  obtain ⟨a, cap, rfl, -, hc1, hc2, hv⟩ := h
  obtain ⟨n, hn⟩ : ∃ n, n = c.length := ⟨_, rfl⟩
  rw [← hn] at hc1 hlen ⊢
  have HV := Lib.hid hv
  have HN := Lib.hid hn
  clear hv hn hc1 hc2
  go_enter Try.func46, Try.ntmps46
  go_wp2
  go_loopw [2, 7] (fun out i wr => ∃ k : Nat, k ≤ n ∧ i = .int .i64 (k : Nat) ∧ OwnI w wr out (negW (c.take k))) (fun _ i _ => n - (intOf i).toNat)
  case atStart => exact ⟨0, Nat.zero_le _, rfl, OwnI.start w⟩
  case round =>
    obtain ⟨k, hk, rfl, hO⟩ := hrel
    have HO := Lib.hid hO
    by_cases hlt : (k : Int) < (n : Int)
    · have hkn : k < c.length := by have := HN.out; omega
      obtain ⟨b, off, rfl, hcell⟩ := ints_cells HV.out hkn
      have q1 := hcell wr hO.2.1
      obtain ⟨x, hx⟩ : ∃ x, x = c.getD k 0 := ⟨_, rfl⟩
      rw [← hx] at q1
      have hs : negW (c.take (k + 1)) = negW (c.take k) ++ [wrap64 (-x)] := by
        unfold negW
        rw [List.take_succ_eq_append_getElem hkn, List.map_append, hx, List.getD_eq_getElem?_getD, List.getElem?_eq_getElem hkn]; rfl
      have HS := Lib.hid hs
      obtain ⟨out, hout⟩ : ∃ out, out = negW (c.take k) := ⟨_, rfl⟩
      rw [← hout] at HO HS
      have hol : out.length = k := by rw [hout]; unfold negW; rw [List.length_map, List.length_take]; omega
      have HOL := Lib.hid hol
      clear hO hx hs hout hol hkn hcell
      go_wp2_with (at_builtin; refine wpList_I (w := w) rfl _ _ rfl _ out rfl (some ⟨wr.heap.size, 0, none⟩) 1 1 [wrap64 (-x)] rfl rfl (by have := HOL.out; omega) (HO.out.below (below_new1 wr (.cells #[.int .i64 (wrap64 (-x))] 3))) (Src.one (heap_new1 _ _)) ?_; intro v4 w4 h4; have H4 := Lib.hid h4; clear h4)
      go_roundw
      case rel => exact ⟨k + 1, by omega, by go_num, by rw [HS.out]; exact H4.out⟩
      case measure => simp [intOf]; omega
    · have HF : Hid (negW (c.take k) = negW c) := Lib.hid (by rw [List.take_of_length_le (by have := HN.out; omega)])
      clear hO
      go_wp2
      go_ret
      exact ⟨_, rfl, by rw [← HF.out]; exact HO.out⟩
theorem Some_nil {w : World} {v : Value} {c : List Int} (h : Ints w v c) (hlen : c.length ≤ 1000000) : Calls Try.prog 18 #[.pointer none, v] w fun e w' => e = .returned (.int .i64 0) ∧ Below w.heap.size w w' := by
  have HN := Lib.hid (negated_ h hlen)
  obtain ⟨a, cap, rfl, -⟩ := h
  generalize c.length = k at *
  clear hlen
  go_enter Try.func18, Try.ntmps18
  go_wp2_with fail
  refine HN.out.mono ?_
  rintro e w1 ⟨u, rfl, hO⟩
  obtain ⟨ua, uc, rfl, -, -⟩ := hO.form
  have HB := Lib.hid hO.2.1
  clear hO
  go_wp2_with ((go_at_call 13; refine (All_nil _ _).mono ?_; rintro e w2 ⟨rfl, hb⟩))
  go_ret
  exact ⟨rfl, HB.out.trans (hb.mono HB.out.size)⟩
theorem range_of {x : Int} (h : (Lit.int .i64 x).wf = true) : -9223372036854775808 ≤ x ∧ x ≤ 9223372036854775807 := by
  have e1 : IntKind.i64.min = -9223372036854775808 := by decide
  have e2 : IntKind.i64.max = 9223372036854775807 := by decide
  simp [Lit.wf, e1, e2] at h
  omega
theorem badG1 {a : Int} (h0 : -9223372036854775808 ≤ a) (h1 : a ≤ 9223372036854775807) (h : 1 < a ∨ a < -1 ∨ a = 0) : badG 1 a = true := by
  unfold badG
  by_cases e0 : a = 0
  · simp [e0]
  by_cases em : a = -9223372036854775808
  · have : wrap64 (-a) = a := by rw [em]; unfold wrap64; omega
    simp [this]
  · have hw : wrap64 (-a) = -a := by unfold wrap64; omega
    have : 1 < max a (-a) := by omega
    rw [hw, decide_eq_true this]
    simp
theorem any_l {a : Int} (h : badG 1 a = true) : [a].any (badG 1) = true ∧ [a, 1].any (badG 1) = true ∧ [1, a].any (badG 1) = true ∧ [1, a, 1].any (badG 1) = true := by simp [h]
section
variable {fp : Nat → Prop} {B : Nat} {w : World} {g f m : Nat} {D : DataW Unit}
/-- A law's contract from a later world. -/
theorem later {F : FuncId} {args : Array Value} {P : Program} {x : Value} {W : World} (hW : Below w.heap.size w W) (h : Calls P F args W fun e w' => e = .returned x ∧ Below W.heap.size W w') : Calls P F args W fun e w' => e = .returned x ∧ Below w.heap.size w w' :=
  h.mono fun e w' ⟨h1, h2⟩ => ⟨h1, hW.trans (h2.mono hW.size)⟩
end
set_option maxHeartbeats 8000000 in
set_option maxRecDepth 100000 in
theorem claw_gnils {w : World} (a b : Int) (h0 : -9223372036854775808 ≤ a) (h1 : a ≤ 9223372036854775807) : Calls Try.prog 3 #[.int .i64 a, .int .i64 b] w fun e w' => e = .returned (.bool true) ∧ Below w.heap.size w w' := by
  have HA1 := Lib.hid (al1 w (.cells #[.int .i64 a, .int .i64 b] 3))
  have HBAD : Hid ((1 < a ∨ a < -1 ∨ a = 0) → badG 1 a = true) := Lib.hid (badG1 h0 h1)
  go_enter Try.func3, Try.ntmps3
  go_wp2_with fail
  refine (Must_nil _ _).mono ?_
  rintro e w1 ⟨rfl, hb1⟩
  have hb01 := HA1.out.trans (hb1.mono HA1.out.size)
  have HN := Lib.hid (gates_New w1)
  have HB1 := Lib.hid hb01
  clear hb1 hb01
  go_wp2_with fail
  refine HN.out.mono ?_
  rintro e w2 ⟨g, f, m, fp, rfl, hG, hb2⟩
  have HB2 := Lib.hid (HB1.out.trans (hb2.mono HB1.out.size))
  have HG := Lib.hid hG
  have hok : ClsOk 1 [[1]] := ⟨by decide, fun j hj => by
    match j, hj with
    | 0, _ => exact ⟨by decide, by kernel_rfl⟩⟩
  have HFo : Hid (∀ W, Below w2.heap.size w2 W → Calls Try.prog 8 #[.pointer (some ⟨g, 0, none⟩)] W fun e w' => ∃ f', e = .returned (.pointer (some ⟨f', 0, none⟩)) ∧ FAt W.heap.size w' f' 1 [[1]] ∧ Below w2.heap.size w2 w') := Lib.hid fun W hW =>
    (Formula_ (hG.below hW) (by decide) (by decide) hok).mono fun e w' ⟨f', q1, q2, q3⟩ => ⟨f', q1, q2, hW.trans (q3.mono hW.size)⟩
  have KB : Hid (Below w2.heap.size w2 w2) := Lib.hid (Below.refl _ _)
  -- nil gates
  have NAnd : Hid (∀ W, Below w2.heap.size w2 W → Calls Try.prog 10 #[.pointer none, .int .i64 a, .int .i64 b] W fun e w' => e = .returned (.int .i64 0) ∧ Below w2.heap.size w2 w') := Lib.hid fun W hW => later hW (And_nil _ _ _)
  have NOr : Hid (∀ W, Below w2.heap.size w2 W → Calls Try.prog 17 #[.pointer none, .int .i64 a, .int .i64 b] W fun e w' => e = .returned (.int .i64 0) ∧ Below w2.heap.size w2 w') := Lib.hid fun W hW => later hW (Or_nil _ _ _)
  have NXor : Hid (∀ W, Below w2.heap.size w2 W → Calls Try.prog 11 #[.pointer none, .int .i64 a, .int .i64 b] W fun e w' => e = .returned (.int .i64 0) ∧ Below w2.heap.size w2 w') := Lib.hid fun W hW => later hW (Xor_nil _ _ _)
  have NChoose : Hid (∀ W, Below w2.heap.size w2 W → Calls Try.prog 12 #[.pointer none, .int .i64 a, .int .i64 b, .int .i64 a] W fun e w' => e = .returned (.int .i64 0) ∧ Below w2.heap.size w2 w') := Lib.hid fun W hW => later hW (Choose_nil _ _ _ _)
  have NAll : Hid (∀ v W, Below w2.heap.size w2 W → Calls Try.prog 13 #[.pointer none, v] W fun e w' => e = .returned (.int .i64 0) ∧ Below w2.heap.size w2 w') := Lib.hid fun v W hW => later hW (All_nil _ _)
  have NSome : Hid (∀ W, Below w2.heap.size w2 W → Calls Try.prog 18 #[.pointer none, .slice (some ⟨W.heap.size, 0, none⟩) 1 1] (W.alloc (.cells #[.int .i64 b] 3)) fun e w' => e = .returned (.int .i64 0) ∧ Below w2.heap.size w2 w') := Lib.hid fun W hW => later (hW.alloc hW.size _) (Some_nil (int1 W W.heap.size rfl b) (by simp))
  have NEqual : Hid (∀ p q W, Below w2.heap.size w2 W → Calls Try.prog 14 #[.pointer none, .slice p 1 1, .slice q 1 1] W fun e w' => e = .returned (.int .i64 0) ∧ Below w2.heap.size w2 w') := Lib.hid fun p q W hW => later hW (Equal_nil _ _ _ _ _ _)
  have HAL : Hid (∀ W, Below w2.heap.size w2 W → Calls Try.prog 20 #[] W fun e w' => e = .returned (.bool true) ∧ Below w2.heap.size w2 w') := Lib.hid fun W hW => later hW (alive27 W)
  have HF : Hid (∀ W, Below w2.heap.size w2 W → Below w.heap.size w W) := Lib.hid fun W hW => HB2.out.trans (hW.mono HB2.out.size)
  clear hG hb2 hok
  go_wp2_with fail
  refine (HFo.out _ KB.out).mono ?_
  rintro e w3 ⟨f3, rfl, hF3, hb3⟩
  have KB := Lib.hid hb3
  have HV3 := Lib.hid (Vars_ hF3)
  clear hF3 hb3
  obtain ⟨q, hq⟩ : ∃ q : Bool, q = decide (1 < a ∨ a < -1 ∨ a = 0) := ⟨_, rfl⟩
  have HQ := Lib.hid hq
  clear hq
  go_upto_region 7 with ((go_at_call 9; refine (HV3.out).mono ?_; rintro e w' ⟨rfl, rfl⟩))
  go_cut [31] (fun v wx => v = .bool q ∧ wx = w3)
  case first =>
    rcases (show 1 < a ∨ (¬ 1 < a ∧ a < -1) ∨ (¬ 1 < a ∧ ¬ a < -1 ∧ a = 0) ∨ (¬ 1 < a ∧ ¬ a < -1 ∧ ¬ a = 0) by omega) with d1 | ⟨d1, d2⟩ | ⟨d1, d2, d3⟩ | ⟨d1, d2, d3⟩
    · have HE : Hid (q = true) := Lib.hid (by rw [HQ.out]; exact decide_eq_true (.inl d1))
      go_wp2_with fail
      go_meet
      exact ⟨by rw [HE.out], rfl⟩
    · have HE : Hid (q = true) := Lib.hid (by rw [HQ.out]; exact decide_eq_true (.inr (.inl d2)))
      go_wp2_with fail
      go_meet
      exact ⟨by rw [HE.out], rfl⟩
    · have HE : Hid (q = true) := Lib.hid (by rw [HQ.out]; exact decide_eq_true (.inr (.inr d3)))
      have e3 : (a == 0) = true := by rw [beq_iff_eq]; exact d3
      clear d3
      go_wp2_with fail
      go_meet
      exact ⟨by rw [HE.out], rfl⟩
    · have HE : Hid (q = false) := Lib.hid (by rw [HQ.out]; exact decide_eq_false (by omega))
      have e3 : (a == 0) = false := by rw [beq_eq_false_iff_ne]; exact d3
      clear d3
      go_wp2_with fail
      go_meet
      exact ⟨by rw [HE.out], rfl⟩
  case rest =>
    obtain ⟨rfl, hwc⟩ := hcut
    subst hwc
    go_upto_if 31 with (fail)
    go_cut [] (fun wx => Below w2.heap.size w2 wx)
    case first =>
      cases q with
      | false =>
        go_wp2_with fail
        go_meet
        exact KB.out
      | true =>
        have hbad := of_decide_eq_true HQ.out.symm
        obtain ⟨l1, l2, l3, l4⟩ := any_l (HBAD.out hbad)
        have BAnd : Hid (∀ W, Below w2.heap.size w2 W → Calls Try.prog 10 #[.pointer (some ⟨g, 0, none⟩), .int .i64 a, .int .i64 1] W fun e w' => e = .returned (.int .i64 0) ∧ Below w2.heap.size w2 w') := Lib.hid fun W hW => later hW (And_no (HG.out.below hW) _ _ l2)
        have BXor : Hid (∀ W, Below w2.heap.size w2 W → Calls Try.prog 11 #[.pointer (some ⟨g, 0, none⟩), .int .i64 1, .int .i64 a] W fun e w' => e = .returned (.int .i64 0) ∧ Below w2.heap.size w2 w') := Lib.hid fun W hW => later hW (Xor_no (HG.out.below hW) _ _ l3)
        have BChoose : Hid (∀ W, Below w2.heap.size w2 W → Calls Try.prog 12 #[.pointer (some ⟨g, 0, none⟩), .int .i64 1, .int .i64 a, .int .i64 1] W fun e w' => e = .returned (.int .i64 0) ∧ Below w2.heap.size w2 w') := Lib.hid fun W hW => later hW (Choose_no (HG.out.below hW) _ _ _ l4)
        have BAll : Hid (∀ W, Below w2.heap.size w2 W → Calls Try.prog 13 #[.pointer (some ⟨g, 0, none⟩), .slice (some ⟨W.heap.size, 0, none⟩) 2 2] (W.alloc (.cells #[.int .i64 1, .int .i64 a] 3)) fun e w' => e = .returned (.int .i64 0) ∧ Below w2.heap.size w2 w') := Lib.hid fun W hW =>
          later (hW.alloc hW.size _) (All_no (HG.out.below (hW.alloc hW.size _)) (int2 W W.heap.size rfl 1 a) l3)
        have BEqual : Hid (∀ W, Below w2.heap.size w2 W → Calls Try.prog 14 #[.pointer (some ⟨g, 0, none⟩), .slice (some ⟨W.heap.size, 0, none⟩) 1 1, .slice (some ⟨W.heap.size + 1, 0, none⟩) 1 1] ((W.alloc (.cells #[.int .i64 a] 3)).alloc (.cells #[.int .i64 1] 3)) fun e w' => e = .returned (.int .i64 0) ∧ Below w2.heap.size w2 w') := Lib.hid fun W hW => by
          have h2 := (hW.alloc hW.size (.cells #[.int .i64 a] 3)).alloc (Nat.le_trans hW.size (by simp)) (.cells #[.int .i64 1] 3)
          exact later h2 (Equal_no (l := [a]) (HG.out.below h2) ((int1 W W.heap.size rfl a).below (al1 _ _)) l1)
        clear hbad l1 l2 l3 l4 NAnd NOr NXor NChoose NAll NSome NEqual HAL
        go_wp2_with (first
          | (go_at_call 10; refine (BAnd.out _ (by first | exact KB.out | exact (KB.out.alloc KB.out.size _) | exact ((KB.out.alloc KB.out.size _).alloc (Nat.le_trans KB.out.size (by simp)) _))).mono ?_ ; rintro e wz ⟨rfl, hz⟩; have KB := Lib.hid hz; clear hz)
          | (go_at_call 11; refine (BXor.out _ (by first | exact KB.out | exact (KB.out.alloc KB.out.size _) | exact ((KB.out.alloc KB.out.size _).alloc (Nat.le_trans KB.out.size (by simp)) _))).mono ?_ ; rintro e wz ⟨rfl, hz⟩; have KB := Lib.hid hz; clear hz)
          | (go_at_call 12; refine (BChoose.out _ (by first | exact KB.out | exact (KB.out.alloc KB.out.size _) | exact ((KB.out.alloc KB.out.size _).alloc (Nat.le_trans KB.out.size (by simp)) _))).mono ?_ ; rintro e wz ⟨rfl, hz⟩; have KB := Lib.hid hz; clear hz)
          | (go_at_call 13; refine (BAll.out _ (by first | exact KB.out | exact (KB.out.alloc KB.out.size _) | exact ((KB.out.alloc KB.out.size _).alloc (Nat.le_trans KB.out.size (by simp)) _))).mono ?_ ; rintro e wz ⟨rfl, hz⟩; have KB := Lib.hid hz; clear hz)
          | (go_at_call 14; refine (BEqual.out _ (by first | exact KB.out | exact (KB.out.alloc KB.out.size _) | exact ((KB.out.alloc KB.out.size _).alloc (Nat.le_trans KB.out.size (by simp)) _))).mono ?_ ; rintro e wz ⟨rfl, hz⟩; have KB := Lib.hid hz; clear hz)
          | (go_at_call 8; refine (HFo.out _ (by first | exact KB.out | exact (KB.out.alloc KB.out.size _) | exact ((KB.out.alloc KB.out.size _).alloc (Nat.le_trans KB.out.size (by simp)) _))).mono ?_; rintro e w4 ⟨f4, rfl, hF4, hb4⟩; have KB := Lib.hid hb4; have HV4 := Lib.hid (Vars_ hF4); clear hF4 hb4)
          | (go_at_call 9; refine HV4.out.mono ?_; rintro e w' ⟨rfl, rfl⟩)
          | fail)
        go_meet
        exact KB.out
    case rest =>
      have KB := Lib.hid hcut
      clear hcut
      clear HBAD HFo HQ HN HA1 HB1
      go_wp2_with fail
      refine (True_nil _).mono ?_
      rintro e wz ⟨rfl, rfl⟩
      go_wp2_with fail
      refine (Fresh_nil _).mono ?_
      rintro e wz ⟨rfl, rfl⟩
      go_wp2_with fail
      refine (NAnd.out _ (by first | exact KB.out | exact (KB.out.alloc KB.out.size _) | exact ((KB.out.alloc KB.out.size _).alloc (Nat.le_trans KB.out.size (by simp)) _))).mono ?_
      rintro e wz ⟨rfl, hz⟩
      have KB := Lib.hid hz
      clear hz
      go_wp2_with fail
      refine (NOr.out _ (by first | exact KB.out | exact (KB.out.alloc KB.out.size _) | exact ((KB.out.alloc KB.out.size _).alloc (Nat.le_trans KB.out.size (by simp)) _))).mono ?_
      rintro e wz ⟨rfl, hz⟩
      have KB := Lib.hid hz
      clear hz
      go_wp2_with fail
      refine (NXor.out _ (by first | exact KB.out | exact (KB.out.alloc KB.out.size _) | exact ((KB.out.alloc KB.out.size _).alloc (Nat.le_trans KB.out.size (by simp)) _))).mono ?_
      rintro e wz ⟨rfl, hz⟩
      have KB := Lib.hid hz
      clear hz
      go_wp2_with fail
      refine (NChoose.out _ (by first | exact KB.out | exact (KB.out.alloc KB.out.size _) | exact ((KB.out.alloc KB.out.size _).alloc (Nat.le_trans KB.out.size (by simp)) _))).mono ?_
      rintro e wz ⟨rfl, hz⟩
      have KB := Lib.hid hz
      clear hz
      go_wp2_with fail
      refine (NAll.out _ _ (by first | exact KB.out | exact (KB.out.alloc KB.out.size _) | exact ((KB.out.alloc KB.out.size _).alloc (Nat.le_trans KB.out.size (by simp)) _))).mono ?_
      rintro e wz ⟨rfl, hz⟩
      have KB := Lib.hid hz
      clear hz
      go_wp2_with fail
      refine (NSome.out _ (by first | exact KB.out | exact (KB.out.alloc KB.out.size _) | exact ((KB.out.alloc KB.out.size _).alloc (Nat.le_trans KB.out.size (by simp)) _))).mono ?_
      rintro e wz ⟨rfl, hz⟩
      have KB := Lib.hid hz
      clear hz
      go_wp2_with fail
      refine (NEqual.out _ _ _ (by first | exact KB.out | exact (KB.out.alloc KB.out.size _) | exact ((KB.out.alloc KB.out.size _).alloc (Nat.le_trans KB.out.size (by simp)) _))).mono ?_
      rintro e wz ⟨rfl, hz⟩
      have KB := Lib.hid hz
      clear hz
      go_wp2_with fail
      refine (Formula_nil _).mono ?_
      rintro e wz ⟨rfl, rfl⟩
      go_wp2_with fail
      refine (Full_nil _).mono ?_
      rintro e wz ⟨rfl, rfl⟩
      go_wp2_with fail
      refine (Equal_len _ _ _ 1 0 1 0 (by decide) _).mono ?_
      rintro e wz ⟨rfl, rfl⟩
      go_wp2_with fail
      refine (HAL.out _ (by first | exact KB.out | exact (KB.out.alloc KB.out.size _) | exact ((KB.out.alloc KB.out.size _).alloc (Nat.le_trans KB.out.size (by simp)) _))).mono ?_
      rintro e wz ⟨rfl, hz⟩
      have KB := Lib.hid hz
      clear hz
      go_wp2_with fail
      go_ret
      exact ⟨rfl, HF.out _ KB.out⟩
end Go.Proofs.Ytkofhilgehhopaa
