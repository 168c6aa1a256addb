/-
  The law of nils, walked.
-/
import Derived.Test.YtnpmaphedcfnnaaDoorCnfO
import Derived.Test.YtnpmaphedcfnnaaDoorFrameB
namespace Go.Proofs.YtnpmaphedcfnnaaDoor
open Go.ChangeShapes Go.WideShapes Go.ChangeAt Go.RowKit
set_option linter.unusedVariables false
theorem alive_all {w wr : World} (ht : Tab w) : ∀ wx, Below w.heap.size w wx → Calls Tryd.prog 10 #[] wx fun e w' => e = .returned (.bool true) ∧ Below w.heap.size w w' :=
  fun wx hb => (alive_ (ht.below hb)).mono fun e w' ⟨h1, h2⟩ => ⟨h1, hb.trans (h2.mono hb.size)⟩
set_option maxHeartbeats 2000000 in
set_option maxRecDepth 100000 in
theorem claw_nils {w : World} {u v : Value} {l : List Int} {ms : List Bool} (ht : Tab w) (hi : Ints w u l) (hb : Bools w v ms) : Calls Tryd.prog 5 #[u, v] w fun e w' => e = .returned (.bool true) ∧ Below w.heap.size w w' := by
  have HA := Lib.hid (alive_all (wr := w) ht)
  have HH := Lib.hid (Holds_nil hb)
  obtain ⟨a, cap, rfl, -, k1, k2, -⟩ := hi
  obtain ⟨b, cap2, rfl, q1, q2, -⟩ := hb
  generalize l.length = n at *
  generalize ms.length = m at *
  have hn : n ≤ 9223372036854775807 := Nat.le_trans k1 k2
  have hm : m ≤ 9223372036854775807 := Nat.le_trans q1 q2
  clear k1 k2 q1 q2 ht
  have hp : ∀ w, Calls Tryd.prog 23 #[.pointer none] w fun e w' => e = .returned (.string ⟨#[]⟩) ∧ w = w' := Print_nil
  have HP := Lib.hid hp
  clear hp
  by_cases h1 : 60 < n
  · go_enter Tryd.func5, Tryd.ntmps5
    go_wp2_with fail
    refine (HA.out _ (Below.refl _ _)).mono ?_
    rintro e w1 ⟨rfl, hb1⟩
    have HB := Lib.hid hb1
    clear hb1
    go_wp2
    go_ret
    exact ⟨rfl, HB.out⟩
  · by_cases h2 : 60 < m
    · go_enter Tryd.func5, Tryd.ntmps5
      go_wp2_with fail
      refine (HA.out _ (Below.refl _ _)).mono ?_
      rintro e w1 ⟨rfl, hb1⟩
      have HB := Lib.hid hb1
      clear hb1
      go_wp2
      go_ret
      exact ⟨rfl, HB.out⟩
    · go_enter Tryd.func5, Tryd.ntmps5
      go_wp2_with (first
        | (go_at_call 12; refine (Count_nil _ _).mono ?_; rintro e w' ⟨rfl, rfl⟩)
        | (go_at_call 25; refine (Grow_nil _ _).mono ?_; rintro e w' ⟨rfl, rfl⟩)
        | (go_at_call 26; refine (Add_nil _ _).mono ?_; rintro e w' ⟨rfl, rfl⟩)
        | (go_at_call 17; refine (Vars_nil _).mono ?_; rintro e w' ⟨rfl, rfl⟩)
        | (go_at_call 18; refine (Len_nil _).mono ?_; rintro e w' ⟨rfl, rfl⟩)
        | (go_at_call 20; refine (Clauses_nil _).mono ?_; rintro e w' ⟨rfl, rfl⟩)
        | (go_at_call 21; refine (Size_nil _).mono ?_; rintro e w' ⟨rfl, rfl⟩)
        | (go_at_call 15; refine HH.out.mono ?_; rintro e w1 ⟨rfl, hb1⟩; have HB1 := Lib.hid hb1; clear hb1)
        | (go_at_call 23; refine (HP.out _).mono ?_; rintro e w' ⟨rfl, rfl⟩)
        | (go_at_call 10; refine (HA.out _ HB1.out).mono ?_; rintro e w2 ⟨rfl, hb2⟩; have HB2 := Lib.hid hb2; clear hb2))
      go_ret
      exact ⟨rfl, HB2.out⟩
end Go.Proofs.YtnpmaphedcfnnaaDoor
