/-
  FaultBare and FaultParts, walked.
-/
import Derived.Test.YtbfnfkefahnklaaDoorFaultI
namespace Go.Proofs.YtbfnfkefahnklaaDoor
open Go.RowKit Go.Extern.Stop Go.Stop Go.Extern
set_option linter.unusedVariables false
set_option maxHeartbeats 1000000 in
theorem bares {w : World} (hL : Laid w) (kind other : Int) : Calls Tryd.prog 4 #[.int .i64 kind, .int .i64 other] w (LawPost w) := by
  have HL := Lib.hid hL
  have hc : Chain w kind [] (.iface 27 (.int .i64 kind)) := rfl
  have T0 : Hid (Calls Tryd.prog 8 #[.iface 27 (.int .i64 kind)] w fun ev w' => ev = .returned (.tuple #[.int .i64 kind, .int .i64 (-1)]) ∧ Below w.heap.size w w') := Lib.hid (Told_C hL hc)
  have C0 := Lib.hid hc
  clear hc hL
  go_enter Tryd.func4, Tryd.ntmps4
  go_wp2_with fail
  refine T0.out.mono ?_
  rintro ev w1 ⟨rfl, hb1⟩
  have B1 := Lib.hid hb1
  clear hb1
  go_wp2_with fail
  refine (Told_nil w1).mono ?_
  rintro ev w2 ⟨rfl, hb2⟩
  have B2 := Lib.hid (B1.out.trans (hb2.mono B1.out.size))
  have C2 := Lib.hid (C0.out.below B2.out)
  clear hb2
  have D2 : Hid (Calls Tryd.prog 9 #[.iface 27 (.int .i64 kind)] w2 fun ev w' => ev = .returned (.int .i64 0) ∧ Below w2.heap.size w2 w') := Lib.hid (Depth_C (HL.out.below B2.out) C2.out (by simp))
  go_wp2_with fail
  refine D2.out.mono ?_
  rintro ev w3 ⟨rfl, hb3⟩
  have B3 := Lib.hid (B2.out.trans (hb3.mono B2.out.size))
  have C3 := Lib.hid (C2.out.below hb3)
  clear hb3
  by_cases ho : other = kind
  · have HI := Lib.hid (Is_yes C3.out ho)
    have ho2 : (kind == other) = true := by simpa using ho.symm
    clear ho
    go_wp2_with fail
    refine HI.out.mono ?_
    rintro ev w4 ⟨rfl, rfl⟩
    go_wp2_with fail
    refine (Wrap_nil other w3).mono ?_
    rintro ev w4 ⟨rfl, rfl⟩
    go_wp2_with fail
    refine (alive_true (HL.out.below B3.out)).mono ?_
    rintro ev w4 ⟨rfl, hb4⟩
    have B4 := Lib.hid (B3.out.trans (hb4.mono B3.out.size))
    clear hb4
    go_wp2
    go_ret
    exact ⟨rfl, B4.out⟩
  · have ho2 : (kind == other) = false := by simpa using fun e => ho e.symm
    have HI := Lib.hid (Is_no C3.out ho)
    clear ho
    go_wp2_with fail
    refine HI.out.mono ?_
    rintro ev w4 ⟨rfl, rfl⟩
    go_wp2_with fail
    refine (Wrap_nil other w3).mono ?_
    rintro ev w4 ⟨rfl, rfl⟩
    go_wp2_with fail
    refine (alive_true (HL.out.below B3.out)).mono ?_
    rintro ev w4 ⟨rfl, hb4⟩
    have B4 := Lib.hid (B3.out.trans (hb4.mono B3.out.size))
    clear hb4
    go_wp2
    go_ret
    exact ⟨rfl, B4.out⟩
set_option maxHeartbeats 1000000 in
theorem parts_0 {w : World} (hL : Laid w) (at_ over : Int) : Calls Tryd.prog 5 #[.int .i64 0, .int .i64 at_, .int .i64 over] w (LawPost w) := by
  have HA := Lib.hid (alive_true hL)
  clear hL
  go_enter Tryd.func5, Tryd.ntmps5
  go_wp2_with fail
  refine HA.out.mono ?_
  rintro ev w1 ⟨rfl, hb⟩
  have HB := Lib.hid hb
  clear hb
  go_wp2
  go_ret
  exact ⟨rfl, HB.out⟩
set_option maxHeartbeats 1000000 in
theorem parts_k {w : World} (hL : Laid w) (kind at_ over : Int) (hk : kind ≠ 0) : Calls Tryd.prog 5 #[.int .i64 kind, .int .i64 at_, .int .i64 over] w (LawPost w) := by
  have hk2 : (kind == 0) = false := by simpa using hk
  have B1 : Hid (Below w.heap.size w (w.alloc (.cells #[.int .i64 kind, .int .i64 at_, .iface 27 (.int .i64 kind)] 37))) := Lib.hid ((Below.refl _ _).alloc (Nat.le_refl _) _)
  have hc : Chain (w.alloc (.cells #[.int .i64 kind, .int .i64 at_, .iface 27 (.int .i64 kind)] 37)) kind [(w.heap.size, at_)] (.iface 35 (.pointer (some ⟨w.heap.size, 0, none⟩))) := ⟨rfl, _, Blk.new w 37 _, rfl⟩
  have T1 : Hid (Calls Tryd.prog 8 #[.iface 35 (.pointer (some ⟨w.heap.size, 0, none⟩))] (w.alloc (.cells #[.int .i64 kind, .int .i64 at_, .iface 27 (.int .i64 kind)] 37)) fun ev w' => ev = .returned (.tuple #[.int .i64 kind, .int .i64 at_]) ∧ Below (w.alloc (.cells #[.int .i64 kind, .int .i64 at_, .iface 27 (.int .i64 kind)] 37)).heap.size (w.alloc (.cells #[.int .i64 kind, .int .i64 at_, .iface 27 (.int .i64 kind)] 37)) w') :=
    Lib.hid (Told_C (hL.alloc _) hc)
  have C1 := Lib.hid hc
  have HL := Lib.hid hL
  have HB := Lib.hid (Blk.new w 37 #[.int .i64 kind, .int .i64 at_, .iface 27 (.int .i64 kind)])
  clear hc hk hL
  go_enter Tryd.func5, Tryd.ntmps5
  go_wp2_with fail
  refine T1.out.mono ?_
  rintro ev w2 ⟨rfl, hb2⟩
  have C2 := Lib.hid (C1.out.below hb2)
  have B2 := Lib.hid (B1.out.trans (hb2.mono B1.out.size))
  have E2 := Lib.hid (HB.out.below hb2 HB.out.lt)
  clear hb2
  go_wp2_with fail
  refine (Wrap_C (HL.out.below B2.out) C2.out over).mono ?_
  intro ev w3 h3
  obtain ⟨x, y, v3, rfl, hc3, hb3⟩ := h3.two
  have B3 := Lib.hid (B2.out.trans (hb3.mono B2.out.size))
  have C3 := Lib.hid hc3
  have E3 := Lib.hid (E2.out.below hb3 E2.out.lt)
  have T3 : Hid (Calls Tryd.prog 8 #[v3] w3 fun ev w' => ev = .returned (.tuple #[.int .i64 kind, .int .i64 at_]) ∧ Below w3.heap.size w3 w') := Lib.hid (Told_C (HL.out.below B3.out) hc3)
  clear h3 hc3 hb3
  go_wp2_with fail
  refine T3.out.mono ?_
  rintro ev w4 ⟨rfl, hb4⟩
  have C4 := Lib.hid (C3.out.below hb4)
  have B4 := Lib.hid (B3.out.trans (hb4.mono B3.out.size))
  have E4 := Lib.hid (E3.out.below hb4 E3.out.lt)
  have D4 : Hid (Calls Tryd.prog 9 #[v3] w4 fun ev w' => ev = .returned (.int .i64 2) ∧ Below w4.heap.size w4 w') := Lib.hid (Depth_C (HL.out.below B4.out) C4.out (by simp))
  clear hb4
  go_wp2_with fail
  refine D4.out.mono ?_
  rintro ev w5 ⟨rfl, hb5⟩
  have B5 := Lib.hid (B4.out.trans (hb5.mono B4.out.size))
  have E5 := Lib.hid (E4.out.below hb5 E4.out.lt)
  clear hb5
  go_wp2_with fail
  refine (unwrap_ E5.out).mono ?_
  rintro ev w6 ⟨rfl, rfl⟩
  go_wp2_with fail
  refine (Is_yes (k := kind) (l := []) rfl rfl).mono ?_
  rintro ev w6 ⟨rfl, rfl⟩
  go_wp2_with fail
  refine (alive_true (HL.out.below B5.out)).mono ?_
  rintro ev w6 ⟨rfl, hb6⟩
  have B6 := Lib.hid (B5.out.trans (hb6.mono B5.out.size))
  clear hb6
  go_wp2
  go_ret
  exact ⟨rfl, B6.out⟩
theorem parts {w : World} (hL : Laid w) (kind at_ over : Int) : Calls Tryd.prog 5 #[.int .i64 kind, .int .i64 at_, .int .i64 over] w (LawPost w) := by
  by_cases hk : kind = 0
  · subst hk; exact parts_0 hL at_ over
  · exact parts_k hL kind at_ over hk
end Go.Proofs.YtbfnfkefahnklaaDoor
