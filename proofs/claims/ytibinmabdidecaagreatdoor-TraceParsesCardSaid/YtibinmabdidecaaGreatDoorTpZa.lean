/-
  The law TraceParses, walked.
-/
import Derived.Test.YtibinmabdidecaaGreatDoorTpX
import Derived.Test.YtibinmabdidecaaGreatDoorTpZ
namespace Go.Proofs.YtibinmabdidecaaGreatDoor
open Go.ChangeShapes Go.WideShapes Go.ChangeAt Go.RowKit
set_option linter.unusedVariables false
set_option linter.unusedSimpArgs false
set_option maxHeartbeats 4000000 in
set_option maxRecDepth 100000 in
theorem claw_tparses {w : World} (ht : Tab w) (hL : Laid w) (hm : MaxL w) (s : ByteArray) (hs : s.size ≤ 9223372036854775807) : Calls Tryz.prog 3 #[.string s] w fun e w' => e = .returned (.bool true) ∧ Below w.heap.size w w' := by
  by_cases hl : (2000 : Int) < (s.size : Int)
  · have HA := Lib.hid (alive_ ht)
    clear ht hL hm
    go_enter Tryz.func3, Tryz.ntmps3
    go_wp2_with fail
    refine HA.out.mono ?_
    rintro e w1 ⟨rfl, hb⟩
    go_wp2
    go_ret
    exact ⟨rfl, hb⟩
  · obtain ⟨l, hll⟩ : ∃ l, l = s.data.toList := ⟨_, rfl⟩
    have hlen : l.length ≤ 50000 := by rw [hll, Array.length_toList]; have : s.data.size = s.size := rfl; omega
    have hsb : bs l = s := by rw [hll]; exact bs_data s
    have HP1 := Lib.hid (trace_Parse hm hL hlen)
    have HP2 := Lib.hid (fun W => r15_Parse (w := W) hlen)
    rw [hsb] at HP1 HP2
    obtain ⟨P, hP⟩ : ∃ P, P = parseT l := ⟨_, rfl⟩
    rw [← hP] at HP1 HP2
    have HT := Lib.hid ht
    clear ht hL hm hsb hll hlen hP
    go_enter Tryz.func3, Tryz.ntmps3
    go_wp2_with fail
    refine HP1.out.mono ?_
    rintro e w1 ⟨hb1, vl, vm, vi, rfl, hT1⟩
    have hS := Lib.hid (sameT_self (resD P))
    obtain ⟨d, hd⟩ : ∃ d, d = resD P := ⟨_, rfl⟩
    obtain ⟨n, hn⟩ : ∃ n : Int, n = (resN P : Nat) := ⟨_, rfl⟩
    obtain ⟨f, hf⟩ : ∃ f, f = resF P := ⟨_, rfl⟩
    unfold ParseQ at HP2
    rw [← hd] at hT1 hS HP2 ⊢
    rw [← hn, ← hf]
    rw [← hn, ← hf] at HP2
    clear hd hn hf
    obtain ⟨a1, c1, rfl⟩ := hT1.lat.len
    obtain ⟨a2, c2, rfl, -, -⟩ := hT1.mems.form
    obtain ⟨a3, c3, rfl, -, -⟩ := hT1.ins.form
    obtain ⟨w2, hw2⟩ : ∃ w2, w2 = w1.alloc (.cells #[.slice a1 d.lat.length c1, .slice a2 d.mems.length c2, .slice a3 d.ins.length c3, .int .i64 d.bad] 29) := ⟨_, rfl⟩
    have hB2 : Below w1.heap.size w1 w2 := by rw [hw2]; exact (Below.refl _ w1).alloc (Nat.le_refl _) _
    have hk2 : Blk w2 w1.heap.size 29 #[.slice a1 d.lat.length c1, .slice a2 d.mems.length c2, .slice a3 d.ins.length c3, .int .i64 d.bad] := by rw [hw2]; exact Blk.new w1 _ _
    have HK2 := Lib.hid hk2
    have HW2 := Lib.hid hw2
    have HT2 := Lib.hid (hT1.below hB2)
    have HB2 := Lib.hid (hb1.trans (hB2.mono hb1.size))
    clear hT1 hB2 hk2 hw2 hb1
    unfold trV
    generalize hn1 : d.lat.length = n1 at *
    generalize hn2 : d.mems.length = n2 at *
    generalize hn3 : d.ins.length = n3 at *
    generalize hbd : d.bad = bd at *
    have HN := Lib.hid (show _ ∧ _ ∧ _ ∧ _ from ⟨hn1, hn2, hn3, hbd⟩)
    clear hn1 hn2 hn3 hbd
    go_wp2_with fail
    rw [← HW2.out]
    refine (HP2.out _).mono ?_
    rintro e w3 ⟨hb3, ul, um, ui, rfl, hT3⟩
    obtain ⟨b1, e1, rfl⟩ := hT3.lat.len
    obtain ⟨b2, e2, rfl, -, -⟩ := hT3.mems.form
    obtain ⟨b3, e3, rfl, -, -⟩ := hT3.ins.form
    obtain ⟨w4, hw4⟩ : ∃ w4, w4 = w3.alloc (.cells #[.slice b1 d.lat.length e1, .slice b2 d.mems.length e2, .slice b3 d.ins.length e3, .int .i64 d.bad] 29) := ⟨_, rfl⟩
    have hB4 : Below w3.heap.size w3 w4 := by rw [hw4]; exact (Below.refl _ w3).alloc (Nat.le_refl _) _
    have hk4 : Blk w4 w3.heap.size 29 #[.slice b1 d.lat.length e1, .slice b2 d.mems.length e2, .slice b3 d.ins.length e3, .int .i64 d.bad] := by rw [hw4]; exact Blk.new w3 _ _
    have hB24 := hb3.trans (hB4.mono hb3.size)
    have hS5 := r15_Same (HT2.out.below hB24) (hT3.below hB4)
    unfold trV at hS5
    rw [hS.out] at hS5
    obtain ⟨z1, z2, z3, z4⟩ := HN.out
    rw [z1, z2, z3, z4] at hw4 hk4 hS5
    have HS5 := Lib.hid hS5
    have HW4 := Lib.hid hw4
    obtain ⟨⟨k0, k1, k2, k3⟩, -, -⟩ := (HK2.out.below hB24 HK2.out.lt).all4
    obtain ⟨⟨m0, m1, m2, m3⟩, -, -⟩ := hk4.all4
    have HB4 := Lib.hid (HB2.out.trans (hB24.mono HB2.out.size))
    clear hT3 hb3 hB4 hk4 hB24 hw4 hS5
    unfold trV
    rw [z1, z2, z3, z4]
    clear z1 z2 z3 z4
    rw [HW4.out] at k0 k1 k2 k3 m0 m1 m2 m3
    go_wp2_with fail
    rw [← HW4.out]
    refine HS5.out.mono ?_
    rintro e w5 ⟨rfl, hb5⟩
    have HB5 := Lib.hid (HB4.out.trans (hb5.mono HB4.out.size))
    have HAL := Lib.hid (alive_ (HT.out.below HB5.out))
    clear hb5 k0 k1 k2 k3 m0 m1 m2 m3
    go_wp2_with fail
    refine HAL.out.mono ?_
    rintro e w6 ⟨rfl, hb6⟩
    have HB6 := Lib.hid (HB5.out.trans (hb6.mono HB5.out.size))
    clear hb6
    go_wp2
    go_ret
    exact ⟨rfl, HB6.out⟩
end Go.Proofs.YtibinmabdidecaaGreatDoor
