/-
  The laws of chapter 17: ClauseResolves.
-/
import Derived.Test.YtjldiojlmbgphaaClI
namespace Go.Proofs.Ytjldiojlmbgphaa
open Go.ChangeShapes Go.WideShapes Go.ChangeAt Go.RowKit
set_option linter.unusedVariables false
set_option maxRecDepth 100000 in
theorem resolves_off {w : World} {u v m : Value} {a b : List Int} {ms : List Bool} (ha : Ints w u a) (hb : Ints w v b) (hm : Bools w m ms) (x : Int) (h : (okP a b x && decide (ms.length ≤ 200)) = false) :
    Calls Try.prog 5 #[u, v, .int .i64 x, m] w fun e w' => e = .returned (.bool true) ∧ Below w.heap.size w w' := by
  have F := Lib.hid (w17_fine ha hb)
  unfold okP at h
  obtain ⟨p, hp⟩ : ∃ p, p = fineP a b := ⟨_, rfl⟩
  rw [← hp] at F h
  obtain ⟨A, cap, rfl, m1, m2, -⟩ := hm
  obtain ⟨n, hn⟩ : ∃ n, n = ms.length := ⟨_, rfl⟩
  rw [← hn] at h m1 ⊢
  have hn9 : n ≤ 9223372036854775807 := Nat.le_trans m1 m2
  clear ha hb hp hn m1 m2
  cases p
  · clear h
    go_enter Try.func5, Try.ntmps5
    go_wp2_with fail
    refine F.out.mono ?_
    rintro e w1 ⟨rfl, rfl⟩
    go_wp2_with ((go_at_call 7; refine (alive17 _).mono ?_; rintro e w' ⟨rfl, hb⟩))
    go_ret
    exact ⟨rfl, hb⟩
  · rw [Bool.true_and] at h
    have h' : 1152921504606846976 < x ∨ (x ≤ 1152921504606846976 ∧ x < -1152921504606846976) ∨ (x ≤ 1152921504606846976 ∧ -1152921504606846976 ≤ x ∧ (200 : Int) < (n : Int)) := by
      simp only [Bool.and_eq_false_iff, decide_eq_false_iff_not] at h
      omega
    clear h
    rcases h' with h1 | ⟨h1, h2⟩ | ⟨h1, h2, h3⟩
    all_goals
      go_enter Try.func5, Try.ntmps5
      go_wp2_with fail
      refine F.out.mono ?_
      rintro e w1 ⟨rfl, rfl⟩
      go_wp2_with ((go_at_call 7; refine (alive17 _).mono ?_; rintro e w' ⟨rfl, hb⟩))
      go_ret
      exact ⟨rfl, hb⟩
/-- What the second half shows: whatever order and whatever subsumes. -/
structure Half (w : World) (u v m : Value) (a b : List Int) (ms : List Bool) : Prop where
  ia : Ints w u a
  ib : Ints w v b
  im : Bools w m ms
theorem Half.below {w w' : World} {u v m : Value} {a b : List Int} {ms : List Bool} (h : Half w u v m a b ms) (hb : Below w.heap.size w w') : Half w' u v m a b ms := ⟨h.ia.below hb, h.ib.below hb, h.im.below hb⟩
set_option maxHeartbeats 4000000 in
set_option maxRecDepth 100000 in
theorem resolves_on {w : World} {u v m : Value} {a b : List Int} {ms : List Bool} (ha : Ints w u a) (hb : Ints w v b) (hm : Bools w m ms) (x : Int) (hf : fineP a b = true) (hx : small x) (hl : ms.length ≤ 200) :
    Calls Try.prog 5 #[u, v, .int .i64 x, m] w fun e w' => e = .returned (.bool true) ∧ Below w.heap.size w w' := by
  obtain ⟨f1, f2, f3, f4⟩ := fineP_yes hf
  have F := Lib.hid (w17_fine ha hb)
  rw [hf] at F
  have HH : Hid (Half w u v m a b ms) := Lib.hid ⟨ha, hb, hm⟩
  have HX := Lib.hid hx
  have F1 := Lib.hid f1
  have F2 := Lib.hid f2
  have F3 := Lib.hid f3
  have F4 := Lib.hid f4
  obtain ⟨x0, x1⟩ := id hx
  obtain ⟨A, cap, rfl, -, -, -⟩ := hm
  obtain ⟨n, hn⟩ : ∃ n, n = ms.length := ⟨_, rfl⟩
  rw [← hn] at hl HH ⊢
  have c1 : (n : Int) ≤ 200 := by omega
  obtain ⟨r, hr⟩ : ∃ r, r = resB a b x := ⟨_, rfl⟩
  have HR := Lib.hid hr
  obtain ⟨pa, hpa⟩ : ∃ p, p = holdsB a ms := ⟨_, rfl⟩
  obtain ⟨pb, hpb⟩ : ∃ p, p = holdsB b ms := ⟨_, rfl⟩
  obtain ⟨ps, hps⟩ : ∃ p, p = subB a b := ⟨_, rfl⟩
  have HPA := Lib.hid hpa
  have HPB := Lib.hid hpb
  have HPS := Lib.hid hps
  have HRES : Hid (r = true → pa = true → pb = true → holdsB (resC a b x) ms = true) := Lib.hid fun h1 h2 h3 => res_holds (by rw [← hr]; exact h1) ms (by rw [← hpa]; exact h2) (by rw [← hpb]; exact h3)
  have HSUB : Hid (ps = true → pa = true → pb = true) := Lib.hid fun h1 h2 => by rw [hpb]; exact sub_holds (by rw [← hps]; exact h1) ms (by rw [← hpa]; exact h2)
  have HNA : Hid (holdsB (normC a) ms = pa) := Lib.hid (by rw [holds_norm, hpa])
  clear ha hb hf hx f1 f2 f3 f4 hr hpa hpb hps hn
  go_enter Try.func5, Try.ntmps5
  go_wp2_with fail
  refine F.out.mono ?_
  rintro e w1 ⟨rfl, rfl⟩
  go_wp2_with fail
  cases r
  · refine (cl_Resolve_no HH.out.ia HH.out.ib x HX.out HR.out.symm).mono ?_
    rintro e w1 ⟨rfl, rfl⟩
    have HW := HH
    have HBW : Hid (Below w.heap.size w w) := Lib.hid (Below.refl _ _)
    go_wp2_with fail
    cases pa
    · skip
      refine (cl_Norm HW.out.ia F3.out (by have := F1.out; omega)).mono ?_
      rintro e w5 ⟨d, rfl, hd⟩
      have HB5 := Lib.hid (HBW.out.trans (hd.2.1.mono HBW.out.size))
      have H5 := Lib.hid (HW.out.below hd.2.1)
      have HD5 := Lib.hid (OwnI.ints hd)
      clear hd
      go_wp2_with fail
      refine (cl_Holds HD5.out (clause_normC F3.out) H5.out.im).mono ?_
      rintro e w6 ⟨rfl, hb⟩
      rw [HNA.out]
      have HB6 := Lib.hid (HB5.out.trans (hb.mono HB5.out.size))
      have H6 := Lib.hid (H5.out.below hb)
      have HD6 := Lib.hid (HD5.out.below hb)
      clear hb
      go_wp2_with fail
      refine (cl_Holds H6.out.ia F3.out H6.out.im).mono ?_
      rintro e w7 ⟨rfl, hb⟩
      rw [← HPA.out]
      have HB7 := Lib.hid (HB6.out.trans (hb.mono HB6.out.size))
      have H7 := Lib.hid (H6.out.below hb)
      have HD7 := Lib.hid (HD6.out.below hb)
      clear hb
      go_wp2_with fail
      refine (cl_Same H7.out.ia HD7.out).mono ?_
      rintro e w8 ⟨rfl, rfl⟩
      rw [same_norm]
      go_wp2_with fail
      refine (cl_Subsumes H7.out.ia H7.out.ib).mono ?_
      rintro e w8 ⟨rfl, rfl⟩
      rw [← HPS.out]
      cases ps
      · go_wp2_with ((go_at_call 7; refine (alive17 _).mono ?_; rintro e w' ⟨rfl, hb⟩))
        go_ret
        exact ⟨rfl, HB7.out.trans (hb.mono HB7.out.size)⟩
      · go_wp2_with fail
        refine (cl_Holds H7.out.ia F3.out H7.out.im).mono ?_
        rintro e w9 ⟨rfl, hb⟩
        rw [← HPA.out]
        have HB9 := Lib.hid (HB7.out.trans (hb.mono HB7.out.size))
        have H9 := Lib.hid (H7.out.below hb)
        clear hb
        go_wp2_with ((go_at_call 7; refine (alive17 _).mono ?_; rintro e w' ⟨rfl, hb⟩))
        go_ret
        exact ⟨rfl, HB9.out.trans (hb.mono HB9.out.size)⟩
    · skip
      refine (cl_Norm HW.out.ia F3.out (by have := F1.out; omega)).mono ?_
      rintro e w5 ⟨d, rfl, hd⟩
      have HB5 := Lib.hid (HBW.out.trans (hd.2.1.mono HBW.out.size))
      have H5 := Lib.hid (HW.out.below hd.2.1)
      have HD5 := Lib.hid (OwnI.ints hd)
      clear hd
      go_wp2_with fail
      refine (cl_Holds HD5.out (clause_normC F3.out) H5.out.im).mono ?_
      rintro e w6 ⟨rfl, hb⟩
      rw [HNA.out]
      have HB6 := Lib.hid (HB5.out.trans (hb.mono HB5.out.size))
      have H6 := Lib.hid (H5.out.below hb)
      have HD6 := Lib.hid (HD5.out.below hb)
      clear hb
      go_wp2_with fail
      refine (cl_Holds H6.out.ia F3.out H6.out.im).mono ?_
      rintro e w7 ⟨rfl, hb⟩
      rw [← HPA.out]
      have HB7 := Lib.hid (HB6.out.trans (hb.mono HB6.out.size))
      have H7 := Lib.hid (H6.out.below hb)
      have HD7 := Lib.hid (HD6.out.below hb)
      clear hb
      go_wp2_with fail
      refine (cl_Same H7.out.ia HD7.out).mono ?_
      rintro e w8 ⟨rfl, rfl⟩
      rw [same_norm]
      go_wp2_with fail
      refine (cl_Subsumes H7.out.ia H7.out.ib).mono ?_
      rintro e w8 ⟨rfl, rfl⟩
      rw [← HPS.out]
      cases ps
      · go_wp2_with ((go_at_call 7; refine (alive17 _).mono ?_; rintro e w' ⟨rfl, hb⟩))
        go_ret
        exact ⟨rfl, HB7.out.trans (hb.mono HB7.out.size)⟩
      · go_wp2_with fail
        refine (cl_Holds H7.out.ia F3.out H7.out.im).mono ?_
        rintro e w9 ⟨rfl, hb⟩
        rw [← HPA.out]
        have HB9 := Lib.hid (HB7.out.trans (hb.mono HB7.out.size))
        have H9 := Lib.hid (H7.out.below hb)
        clear hb
        have HPB2 : Hid (holdsB b ms = true) := Lib.hid (by first | (rw [← HPB.out]; done) | (rw [← HPB.out]; exact HSUB.out (by simp) (by simp)))
        go_wp2_with fail
        refine (cl_Holds H9.out.ib F4.out H9.out.im).mono ?_
        rintro e w10 ⟨rfl, hb⟩
        rw [HPB2.out]
        have HB10 := Lib.hid (HB9.out.trans (hb.mono HB9.out.size))
        clear hb
        go_wp2_with ((go_at_call 7; refine (alive17 _).mono ?_; rintro e w' ⟨rfl, hb⟩))
        go_ret
        exact ⟨rfl, HB10.out.trans (hb.mono HB10.out.size)⟩
  · refine (cl_Resolve_yes HH.out.ia HH.out.ib F3.out F4.out (by have := F1.out; omega) (by have := F2.out; omega) x HX.out HR.out.symm).mono ?_
    rintro e w1 ⟨z, rfl, hz⟩
    have HB1 := Lib.hid hz.2.1
    have H1 := Lib.hid (HH.out.below hz.2.1)
    have HZ1 := Lib.hid (OwnI.ints hz)
    have HCZ : Hid (ClauseL (resC a b x)) := Lib.hid (clause_normC (clause_app (clause_without F3.out x) (clause_without F4.out (-x))))
    clear hz
    go_wp2_with fail
    refine (cl_Holds H1.out.ia F3.out H1.out.im).mono ?_
    rintro e w2 ⟨rfl, hb⟩
    rw [← HPA.out]
    have HB2 := Lib.hid (HB1.out.trans (hb.mono HB1.out.size))
    have H2 := Lib.hid (H1.out.below hb)
    have HZ2 := Lib.hid (HZ1.out.below hb)
    clear hb
    cases pa
    · have HW := H2
      have HBW := HB2
      go_wp2_with fail
      refine (cl_Norm HW.out.ia F3.out (by have := F1.out; omega)).mono ?_
      rintro e w5 ⟨d, rfl, hd⟩
      have HB5 := Lib.hid (HBW.out.trans (hd.2.1.mono HBW.out.size))
      have H5 := Lib.hid (HW.out.below hd.2.1)
      have HD5 := Lib.hid (OwnI.ints hd)
      clear hd
      go_wp2_with fail
      refine (cl_Holds HD5.out (clause_normC F3.out) H5.out.im).mono ?_
      rintro e w6 ⟨rfl, hb⟩
      rw [HNA.out]
      have HB6 := Lib.hid (HB5.out.trans (hb.mono HB5.out.size))
      have H6 := Lib.hid (H5.out.below hb)
      have HD6 := Lib.hid (HD5.out.below hb)
      clear hb
      go_wp2_with fail
      refine (cl_Holds H6.out.ia F3.out H6.out.im).mono ?_
      rintro e w7 ⟨rfl, hb⟩
      rw [← HPA.out]
      have HB7 := Lib.hid (HB6.out.trans (hb.mono HB6.out.size))
      have H7 := Lib.hid (H6.out.below hb)
      have HD7 := Lib.hid (HD6.out.below hb)
      clear hb
      go_wp2_with fail
      refine (cl_Same H7.out.ia HD7.out).mono ?_
      rintro e w8 ⟨rfl, rfl⟩
      rw [same_norm]
      go_wp2_with fail
      refine (cl_Subsumes H7.out.ia H7.out.ib).mono ?_
      rintro e w8 ⟨rfl, rfl⟩
      rw [← HPS.out]
      cases ps
      · go_wp2_with ((go_at_call 7; refine (alive17 _).mono ?_; rintro e w' ⟨rfl, hb⟩))
        go_ret
        exact ⟨rfl, HB7.out.trans (hb.mono HB7.out.size)⟩
      · go_wp2_with fail
        refine (cl_Holds H7.out.ia F3.out H7.out.im).mono ?_
        rintro e w9 ⟨rfl, hb⟩
        rw [← HPA.out]
        have HB9 := Lib.hid (HB7.out.trans (hb.mono HB7.out.size))
        have H9 := Lib.hid (H7.out.below hb)
        clear hb
        go_wp2_with ((go_at_call 7; refine (alive17 _).mono ?_; rintro e w' ⟨rfl, hb⟩))
        go_ret
        exact ⟨rfl, HB9.out.trans (hb.mono HB9.out.size)⟩
    · go_wp2_with fail
      refine (cl_Holds H2.out.ib F4.out H2.out.im).mono ?_
      rintro e w3 ⟨rfl, hb⟩
      rw [← HPB.out]
      have HB3 := Lib.hid (HB2.out.trans (hb.mono HB2.out.size))
      have H3 := Lib.hid (H2.out.below hb)
      have HZ3 := Lib.hid (HZ2.out.below hb)
      clear hb
      cases pb
      · have HW := H3
        have HBW := HB3
        go_wp2_with fail
        refine (cl_Norm HW.out.ia F3.out (by have := F1.out; omega)).mono ?_
        rintro e w5 ⟨d, rfl, hd⟩
        have HB5 := Lib.hid (HBW.out.trans (hd.2.1.mono HBW.out.size))
        have H5 := Lib.hid (HW.out.below hd.2.1)
        have HD5 := Lib.hid (OwnI.ints hd)
        clear hd
        go_wp2_with fail
        refine (cl_Holds HD5.out (clause_normC F3.out) H5.out.im).mono ?_
        rintro e w6 ⟨rfl, hb⟩
        rw [HNA.out]
        have HB6 := Lib.hid (HB5.out.trans (hb.mono HB5.out.size))
        have H6 := Lib.hid (H5.out.below hb)
        have HD6 := Lib.hid (HD5.out.below hb)
        clear hb
        go_wp2_with fail
        refine (cl_Holds H6.out.ia F3.out H6.out.im).mono ?_
        rintro e w7 ⟨rfl, hb⟩
        rw [← HPA.out]
        have HB7 := Lib.hid (HB6.out.trans (hb.mono HB6.out.size))
        have H7 := Lib.hid (H6.out.below hb)
        have HD7 := Lib.hid (HD6.out.below hb)
        clear hb
        go_wp2_with fail
        refine (cl_Same H7.out.ia HD7.out).mono ?_
        rintro e w8 ⟨rfl, rfl⟩
        rw [same_norm]
        go_wp2_with fail
        refine (cl_Subsumes H7.out.ia H7.out.ib).mono ?_
        rintro e w8 ⟨rfl, rfl⟩
        rw [← HPS.out]
        cases ps
        · go_wp2_with ((go_at_call 7; refine (alive17 _).mono ?_; rintro e w' ⟨rfl, hb⟩))
          go_ret
          exact ⟨rfl, HB7.out.trans (hb.mono HB7.out.size)⟩
        · go_wp2_with fail
          refine (cl_Holds H7.out.ia F3.out H7.out.im).mono ?_
          rintro e w9 ⟨rfl, hb⟩
          rw [← HPA.out]
          have HB9 := Lib.hid (HB7.out.trans (hb.mono HB7.out.size))
          have H9 := Lib.hid (H7.out.below hb)
          clear hb
          have HPB2 : Hid (holdsB b ms = true) := Lib.hid (by first | (rw [← HPB.out]; done) | (rw [← HPB.out]; exact HSUB.out (by simp) (by simp)))
          go_wp2_with fail
          refine (cl_Holds H9.out.ib F4.out H9.out.im).mono ?_
          rintro e w10 ⟨rfl, hb⟩
          rw [HPB2.out]
          have HB10 := Lib.hid (HB9.out.trans (hb.mono HB9.out.size))
          clear hb
          go_wp2_with ((go_at_call 7; refine (alive17 _).mono ?_; rintro e w' ⟨rfl, hb⟩))
          go_ret
          exact ⟨rfl, HB10.out.trans (hb.mono HB10.out.size)⟩
      · go_wp2_with fail
        refine (cl_Holds HZ3.out HCZ.out H3.out.im).mono ?_
        rintro e w4 ⟨rfl, hb⟩
        rw [HRES.out (by simp) (by simp) (by simp)]
        have HW := Lib.hid (H3.out.below hb)
        have HBW := Lib.hid (HB3.out.trans (hb.mono HB3.out.size))
        clear hb
        go_wp2_with fail
        refine (cl_Norm HW.out.ia F3.out (by have := F1.out; omega)).mono ?_
        rintro e w5 ⟨d, rfl, hd⟩
        have HB5 := Lib.hid (HBW.out.trans (hd.2.1.mono HBW.out.size))
        have H5 := Lib.hid (HW.out.below hd.2.1)
        have HD5 := Lib.hid (OwnI.ints hd)
        clear hd
        go_wp2_with fail
        refine (cl_Holds HD5.out (clause_normC F3.out) H5.out.im).mono ?_
        rintro e w6 ⟨rfl, hb⟩
        rw [HNA.out]
        have HB6 := Lib.hid (HB5.out.trans (hb.mono HB5.out.size))
        have H6 := Lib.hid (H5.out.below hb)
        have HD6 := Lib.hid (HD5.out.below hb)
        clear hb
        go_wp2_with fail
        refine (cl_Holds H6.out.ia F3.out H6.out.im).mono ?_
        rintro e w7 ⟨rfl, hb⟩
        rw [← HPA.out]
        have HB7 := Lib.hid (HB6.out.trans (hb.mono HB6.out.size))
        have H7 := Lib.hid (H6.out.below hb)
        have HD7 := Lib.hid (HD6.out.below hb)
        clear hb
        go_wp2_with fail
        refine (cl_Same H7.out.ia HD7.out).mono ?_
        rintro e w8 ⟨rfl, rfl⟩
        rw [same_norm]
        go_wp2_with fail
        refine (cl_Subsumes H7.out.ia H7.out.ib).mono ?_
        rintro e w8 ⟨rfl, rfl⟩
        rw [← HPS.out]
        cases ps
        · go_wp2_with ((go_at_call 7; refine (alive17 _).mono ?_; rintro e w' ⟨rfl, hb⟩))
          go_ret
          exact ⟨rfl, HB7.out.trans (hb.mono HB7.out.size)⟩
        · go_wp2_with fail
          refine (cl_Holds H7.out.ia F3.out H7.out.im).mono ?_
          rintro e w9 ⟨rfl, hb⟩
          rw [← HPA.out]
          have HB9 := Lib.hid (HB7.out.trans (hb.mono HB7.out.size))
          have H9 := Lib.hid (H7.out.below hb)
          clear hb
          have HPB2 : Hid (holdsB b ms = true) := Lib.hid (by first | (rw [← HPB.out]; done) | (rw [← HPB.out]; exact HSUB.out (by simp) (by simp)))
          go_wp2_with fail
          refine (cl_Holds H9.out.ib F4.out H9.out.im).mono ?_
          rintro e w10 ⟨rfl, hb⟩
          rw [HPB2.out]
          have HB10 := Lib.hid (HB9.out.trans (hb.mono HB9.out.size))
          clear hb
          go_wp2_with ((go_at_call 7; refine (alive17 _).mono ?_; rintro e w' ⟨rfl, hb⟩))
          go_ret
          exact ⟨rfl, HB10.out.trans (hb.mono HB10.out.size)⟩
theorem claw_resolves {w : World} {u v m : Value} {a b : List Int} {ms : List Bool} (ha : Ints w u a) (hb : Ints w v b) (hm : Bools w m ms) (x : Int) :
    Calls Try.prog 5 #[u, v, .int .i64 x, m] w fun e w' => e = .returned (.bool true) ∧ Below w.heap.size w w' := by
  cases h : (okP a b x && decide (ms.length ≤ 200))
  · exact resolves_off ha hb hm x h
  · rw [Bool.and_eq_true] at h
    obtain ⟨h1, h2⟩ := okP_yes h.1
    exact resolves_on ha hb hm x h1 h2 (of_decide_eq_true h.2)
end Go.Proofs.Ytjldiojlmbgphaa
