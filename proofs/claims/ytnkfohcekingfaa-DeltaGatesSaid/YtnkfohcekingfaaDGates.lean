/-
  DeltaGates for every input.
-/
import Derived.Test.YtnkfohcekingfaaDelta4
namespace Go.Proofs.Ytnkfohcekingfaa
open Go.ChangeShapes Go.WideShapes Go.ChangeAt Go.RowKit

theorem gates_out (a : Option Addr) (len cap : Nat) (pos lhs x y : Int) (w : World) (h : 200 < len ∨ lhs < 2 ∨ 1152921504606846976 < lhs) :
    Calls Try.prog 4 #[.slice a len cap, .int .i64 pos, .int .i64 lhs, .int .i64 x, .int .i64 y] w fun e w' => e = .returned (.bool true) ∧ Below w.heap.size w w' := by
  rcases (show 200 < (len : Int) ∨ ((len : Int) ≤ 200 ∧ lhs < 2) ∨ ((len : Int) ≤ 200 ∧ 2 ≤ lhs ∧ 1152921504606846976 < lhs) by omega) with h | ⟨h, h2⟩ | ⟨h, h2, h3⟩
  all_goals
    go_enter Try.func4, Try.ntmps4
    go_wp2_with ((go_at_call 8; refine (alive _).mono ?_; rintro e w1 ⟨rfl, hb⟩))
    go_ret
    exact ⟨rfl, hb⟩

set_option maxHeartbeats 1000000 in
set_option maxRecDepth 100000 in
theorem gates_in (v : Value) (a : Option Addr) (cap : Nat) (bs : List Nat) (pos lhs x y : Int) (w : World) (hv : v = .slice a bs.length cap) (hb : BytesAt w v bs) (h1 : bs.length ≤ 200) (h2 : 2 ≤ lhs) (h3 : lhs ≤ 1152921504606846976) :
    Calls Try.prog 4 #[v, .int .i64 pos, .int .i64 lhs, .int .i64 x, .int .i64 y] w fun e w' => e = .returned (.bool true) ∧ Below w.heap.size w w' := by
  by_cases hp : y < 0 ∨ x < y ∨ lhs ≤ x
  · have hc := fun w => conv_nil w
    subst hv
    go_enter Try.func4, Try.ntmps4
    go_wp2_with fail
    refine (delta_Pair_no lhs x y _ hp).mono ?_
    rintro e w1 ⟨rfl, rfl⟩
    go_wp2_with fail
    refine (r04_Pair_no lhs x y _ hp).mono ?_
    rintro e w1 ⟨rfl, rfl⟩
    go_wp2_with fail
    refine (delta_Gate _ bs pos lhs _ hb h2 h3).mono ?_
    rintro e w1 ⟨rfl, hb1⟩
    obtain ⟨g1, g2, g3, g4, hg⟩ : ∃ g1 g2 g3 g4, gateL bs pos lhs = (g1, g2, g3, g4) := ⟨_, _, _, _, rfl⟩
    rw [hg]
    have HG := Lib.hid hg
    clear hg
    simp only [quad]
    go_wp2_with fail
    refine (r04_Gate _ bs pos lhs _ (hb.below hb1) h2 h3).mono ?_
    rintro e w2 ⟨rfl, rfl⟩
    rw [HG.out]
    simp only [quad]
    go_wp2_with ((go_at_call 8; refine (alive _).mono ?_; rintro e w2 ⟨rfl, hb2⟩))
    go_ret
    exact ⟨rfl, hb1.trans (hb2.mono hb1.size)⟩
  · have q1 : 0 ≤ y := by omega
    have q2 : y ≤ x := by omega
    have q3 : x < lhs := by omega
    clear hp
    subst hv
    go_enter Try.func4, Try.ntmps4
    go_wp2_with fail
    refine (delta_Pair lhs x y _ q1 q2 q3 (by omega)).mono ?_
    rintro e w1 ⟨v1, rfl, ho1, hb1⟩
    go_wp2_with fail
    refine (r04_Pair lhs x y _ q1 q2 q3 (by omega)).mono ?_
    rintro e w2 ⟨v2, rfl, ho2, hb2⟩
    have hb12 := hb1.trans (hb2.mono hb1.size)
    go_wp2_with fail
    refine (delta_Gate _ bs pos lhs _ (hb.below hb12) h2 h3).mono ?_
    rintro e w3 ⟨rfl, hb3⟩
    obtain ⟨g1, g2, g3, g4, hg⟩ : ∃ g1 g2 g3 g4, gateL bs pos lhs = (g1, g2, g3, g4) := ⟨_, _, _, _, rfl⟩
    rw [hg]
    have HG := Lib.hid hg
    clear hg
    have hb13 := hb12.trans (hb3.mono hb12.size)
    simp only [quad]
    go_wp2_with fail
    refine (r04_Gate _ bs pos lhs _ (hb.below hb13) h2 h3).mono ?_
    rintro e w4 ⟨rfl, rfl⟩
    rw [HG.out]
    simp only [quad]
    have c1 := conv_own (own_below ho1 (hb2.trans (hb3.mono hb2.size)))
    have c2 := conv_own (own_below ho2 hb3)
    go_wp2_with ((go_at_call 8; refine (alive _).mono ?_; rintro e w5 ⟨rfl, hb5⟩))
    go_ret
    exact ⟨rfl, hb13.trans (hb5.mono hb13.size)⟩
end Go.Proofs.Ytnkfohcekingfaa
