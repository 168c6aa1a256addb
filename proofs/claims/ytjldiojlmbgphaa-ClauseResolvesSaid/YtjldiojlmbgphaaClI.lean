/-
  The laws of chapter 17: ClausePairs.
-/
import Derived.Test.YtjldiojlmbgphaaClH
import Derived.Test.YtjldiojlmbgphaaFrameB
namespace Go.Proofs.Ytjldiojlmbgphaa
open Go.ChangeShapes Go.WideShapes Go.ChangeAt Go.RowKit
set_option linter.unusedVariables false
def okP (a b : List Int) (x : Int) : Bool := fineP a b && (decide (x ≤ 1152921504606846976) && decide (-1152921504606846976 ≤ x))
theorem okP_yes {a b : List Int} {x : Int} (h : okP a b x = true) : fineP a b = true ∧ small x := by
  unfold okP at h
  simp only [Bool.and_eq_true, decide_eq_true_eq] at h
  exact ⟨h.1, h.2.2, h.2.1⟩
set_option maxRecDepth 100000 in
theorem pairs_off {w : World} {u v : Value} {a b : List Int} (ha : Ints w u a) (hb : Ints w v b) (x : Int) (h : okP a b x = false) :
    Calls Try.prog 4 #[u, v, .int .i64 x] w fun e w' => e = .returned (.bool true) ∧ Below w.heap.size w w' := by
  have F := Lib.hid (w17_fine ha hb)
  unfold okP at h
  obtain ⟨p, hp⟩ : ∃ p, p = fineP a b := ⟨_, rfl⟩
  rw [← hp] at F h
  clear ha hb hp
  cases p
  · clear h
    go_enter Try.func4, Try.ntmps4
    go_wp2_with fail
    refine F.out.mono ?_
    rintro e w1 ⟨rfl, rfl⟩
    go_wp2_with ((go_at_call 7; refine (alive17 _).mono ?_; rintro e w' ⟨rfl, hb⟩))
    go_ret
    exact ⟨rfl, hb⟩
  · rw [Bool.true_and] at h
    have h' : 1152921504606846976 < x ∨ x < -1152921504606846976 := by
      simp only [Bool.and_eq_false_iff, decide_eq_false_iff_not] at h
      omega
    clear h
    rcases h' with h' | h'
    all_goals
      go_enter Try.func4, Try.ntmps4
      go_wp2_with fail
      refine F.out.mono ?_
      rintro e w1 ⟨rfl, rfl⟩
      go_wp2_with ((go_at_call 7; refine (alive17 _).mono ?_; rintro e w' ⟨rfl, hb⟩))
      go_ret
      exact ⟨rfl, hb⟩
set_option maxHeartbeats 1000000 in
set_option maxRecDepth 100000 in
theorem pairs_on {w : World} {u v : Value} {a b : List Int} (ha : Ints w u a) (hb : Ints w v b) (x : Int) (hf : fineP a b = true) (hx : small x) :
    Calls Try.prog 4 #[u, v, .int .i64 x] w fun e w' => e = .returned (.bool true) ∧ Below w.heap.size w w' := by
  obtain ⟨f1, f2, f3, f4⟩ := fineP_yes hf
  have F := Lib.hid (w17_fine ha hb)
  rw [hf] at F
  have HA := Lib.hid ha
  have HB := Lib.hid hb
  have HX := Lib.hid hx
  have F1 := Lib.hid f1
  have F2 := Lib.hid f2
  have F3 := Lib.hid f3
  have F4 := Lib.hid f4
  obtain ⟨x0, x1⟩ := id hx
  obtain ⟨r, hr⟩ : ∃ r, r = resB a b x := ⟨_, rfl⟩
  have HR := Lib.hid hr
  clear ha hb hf hx f1 f2 f3 f4 hr
  cases r
  · go_enter Try.func4, Try.ntmps4
    go_wp2_with fail
    refine F.out.mono ?_
    rintro e w1 ⟨rfl, rfl⟩
    go_wp2_with fail
    refine (cl_Resolve_no HA.out HB.out x HX.out HR.out.symm).mono ?_
    rintro e w1 ⟨rfl, rfl⟩
    go_wp2_with fail
    refine (r17_Resolve_no HA.out HB.out x HX.out HR.out.symm).mono ?_
    rintro e w1 ⟨rfl, rfl⟩
    go_wp2_with fail
    refine (cl_Same HA.out HB.out).mono ?_
    rintro e w1 ⟨rfl, rfl⟩
    go_wp2_with fail
    refine (r17_Same HA.out HB.out).mono ?_
    rintro e w1 ⟨rfl, rfl⟩
    go_wp2_with fail
    refine (cl_Subsumes HA.out HB.out).mono ?_
    rintro e w1 ⟨rfl, rfl⟩
    go_wp2_with fail
    refine (r17_Subsumes HA.out HB.out).mono ?_
    rintro e w1 ⟨rfl, rfl⟩
    go_wp2_with fail
    refine (r01_Same (ints_nil _) (ints_nil _)).mono ?_
    rintro e w2 ⟨rfl, hq⟩
    rw [sameB_self]
    have HQ := Lib.hid hq.below
    clear hq
    go_wp2_with ((go_at_call 7; refine (alive17 _).mono ?_; rintro e w' ⟨rfl, hb⟩))
    go_ret
    exact ⟨rfl, HQ.out.trans (hb.mono HQ.out.size)⟩
  · go_enter Try.func4, Try.ntmps4
    go_wp2_with fail
    refine F.out.mono ?_
    rintro e w1 ⟨rfl, rfl⟩
    go_wp2_with fail
    refine (cl_Resolve_yes HA.out HB.out F3.out F4.out (by have := F1.out; omega) (by have := F2.out; omega) x HX.out HR.out.symm).mono ?_
    rintro e w1 ⟨z1, rfl, hz1⟩
    have HB1 := Lib.hid hz1.2.1
    have HA1 := Lib.hid (HA.out.below hz1.2.1)
    have HBB1 := Lib.hid (HB.out.below hz1.2.1)
    have HZ1 := Lib.hid (OwnI.ints hz1)
    clear hz1
    go_wp2_with fail
    refine (r17_Resolve_yes HA1.out HBB1.out F3.out F4.out (by have := F1.out; omega) (by have := F2.out; omega) x HX.out HR.out.symm).mono ?_
    rintro e w2 ⟨z2, rfl, hz2⟩
    have HB2 := Lib.hid (HB1.out.trans (hz2.2.1.mono HB1.out.size))
    have HA2 := Lib.hid (HA1.out.below hz2.2.1)
    have HBB2 := Lib.hid (HBB1.out.below hz2.2.1)
    have HZ12 := Lib.hid (HZ1.out.below hz2.2.1)
    have HZ2 := Lib.hid (OwnI.ints hz2)
    clear hz2
    go_wp2_with fail
    refine (cl_Same HA2.out HBB2.out).mono ?_
    rintro e w3 ⟨rfl, rfl⟩
    go_wp2_with fail
    refine (r17_Same HA2.out HBB2.out).mono ?_
    rintro e w3 ⟨rfl, rfl⟩
    go_wp2_with fail
    refine (cl_Subsumes HA2.out HBB2.out).mono ?_
    rintro e w3 ⟨rfl, rfl⟩
    go_wp2_with fail
    refine (r17_Subsumes HA2.out HBB2.out).mono ?_
    rintro e w3 ⟨rfl, rfl⟩
    go_wp2_with fail
    refine (r01_Same HZ12.out HZ2.out).mono ?_
    rintro e w3 ⟨rfl, hq⟩
    rw [sameB_self]
    have HB3 := Lib.hid (HB2.out.trans (hq.below.mono HB2.out.size))
    clear hq
    go_wp2_with ((go_at_call 7; refine (alive17 _).mono ?_; rintro e w' ⟨rfl, hb⟩))
    go_ret
    exact ⟨rfl, HB3.out.trans (hb.mono HB3.out.size)⟩
theorem claw_pairs {w : World} {u v : Value} {a b : List Int} (ha : Ints w u a) (hb : Ints w v b) (x : Int) :
    Calls Try.prog 4 #[u, v, .int .i64 x] w fun e w' => e = .returned (.bool true) ∧ Below w.heap.size w w' := by
  cases h : okP a b x
  · exact pairs_off ha hb x h
  · obtain ⟨h1, h2⟩ := okP_yes h
    exact pairs_on ha hb x h1 h2
end Go.Proofs.Ytjldiojlmbgphaa
