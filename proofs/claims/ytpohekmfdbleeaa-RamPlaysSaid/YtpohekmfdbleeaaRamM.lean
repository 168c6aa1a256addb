/-
  The laws of chapter 11: RamLoads.
-/
import Derived.Test.YtpohekmfdbleeaaRamQ
import Derived.Test.YtpohekmfdbleeaaRamL
import Derived.Test.YtpohekmfdbleeaaStructs2
namespace Go.Proofs.Ytpohekmfdbleeaa
open Go.ChangeShapes Go.WideShapes Go.ChangeAt Go.RowKit Go.Maps
set_option linter.unusedVariables false
theorem right_facts {aw ww : Int} {cs : CS} (h : rightB aw ww cs = true) : cs.length ≤ 4096 ∧ rising cs := by
  refine ⟨?_, ?_⟩
  · unfold rightB at h
    simp only [Bool.and_eq_true, decide_eq_true_eq] at h
    exact h.1.2
  · unfold rising
    rw [List.pairwise_iff_getElem]
    intro i j hi hj hij
    have := right_rise h j hj i hij
    simpa [List.getD, hi, hj] using this
theorem loads_long {w : World} {v : Value} {cs : CS} (h : Pairs w v cs) (hl : 4200 < cs.length) (aw ww x : Int) :
    Calls Try.prog 3 #[.int .i64 aw, .int .i64 ww, v, .int .u64 x] w fun e w' => e = .returned (.bool true) ∧ Below w.heap.size w w' := by
  obtain ⟨a, cap, rfl, -, -, -, -⟩ := h
  have hl' : (4200 : Int) < (cs.length : Int) := by omega
  go_enter Try.func3, Try.ntmps3
  go_wp2_with ((go_at_call 7; refine (alive _).mono ?_; rintro e w' ⟨rfl, hb⟩))
  go_ret
  exact ⟨rfl, hb⟩
set_option maxHeartbeats 1000000 in
set_option maxRecDepth 100000 in
theorem loads_no {w : World} {v : Value} {cs : CS} (h : Pairs w v cs) (hl : cs.length ≤ 4200) (aw ww x : Int) (hr : rightB aw ww cs = false) :
    Calls Try.prog 3 #[.int .i64 aw, .int .i64 ww, v, .int .u64 x] w fun e w' => e = .returned (.bool true) ∧ Below w.heap.size w w' := by
  have HP := Lib.hid h
  obtain ⟨a, cap, rfl, -, -, -, -⟩ := h
  have hl' : (cs.length : Int) ≤ 4200 := by omega
  have HR := Lib.hid hr
  clear hr hl
  go_enter Try.func3, Try.ntmps3
  go_wp2_with fail
  refine (ram_Load_no HP.out HR.out).mono ?_
  rintro e w1 ⟨rfl, hb1⟩
  have HP1 := Lib.hid (HP.out.below hb1)
  go_wp2_with fail
  refine (r11_Right HP1.out).mono ?_
  rintro e w2 ⟨rfl, hb2⟩
  rw [HR.out]
  have HP2 := Lib.hid (HP1.out.below hb2)
  go_wp2_with fail
  refine (ram_Right HP2.out).mono ?_
  rintro e w3 ⟨rfl, hb3⟩
  rw [HR.out]
  go_wp2_with ((go_at_call 7; refine (alive _).mono ?_; rintro e w' ⟨rfl, hb4⟩))
  go_ret
  exact ⟨rfl, hb1.trans ((hb2.trans ((hb3.trans (hb4.mono hb3.size)).mono hb2.size)).mono hb1.size)⟩
set_option maxHeartbeats 1000000 in
set_option maxRecDepth 100000 in
theorem loads_yes {w : World} {v : Value} {cs : CS} (h : Pairs w v cs) (aw ww x : Int) (hx : wf x) (hr : rightB aw ww cs = true) :
    Calls Try.prog 3 #[.int .i64 aw, .int .i64 ww, v, .int .u64 x] w fun e w' => e = .returned (.bool true) ∧ Below w.heap.size w w' := by
  have HP := Lib.hid h
  obtain ⟨a, cap, rfl, -, -, hwf, -⟩ := h
  obtain ⟨f1, f2⟩ := right_facts hr
  have hl' : (cs.length : Int) ≤ 4200 := by omega
  have HR := Lib.hid hr
  have HW := Lib.hid hwf
  have HF1 := Lib.hid f1
  have HF2 := Lib.hid f2
  have HX := Lib.hid hx
  clear hr hwf f1 f2 hx
  go_enter Try.func3, Try.ntmps3
  go_wp2_with fail
  refine (ram_Load_yes HP.out HR.out).mono ?_
  rintro e w1 ⟨r, bm, rfl, hL⟩
  have hM := hL.mem
  have hb1 := hM.2.2.2.1
  have HP1 := Lib.hid (HP.out.below hb1)
  have HM1 := Lib.hid hM
  clear hL hM hb1
  go_wp2_with fail
  refine (r11_Right HP1.out).mono ?_
  rintro e w2 ⟨rfl, hb2⟩
  rw [HR.out]
  have HP2 := Lib.hid (HP1.out.below hb2)
  have HM2 := Lib.hid (HM1.out.below hb2)
  clear hb2
  go_wp2_with fail
  refine (ram_Right HP2.out).mono ?_
  rintro e w3 ⟨rfl, hb3⟩
  rw [HR.out]
  have HP3 := Lib.hid (HP2.out.below hb3)
  have HM3 := Lib.hid (HM2.out.below hb3)
  clear hb3
  go_wp2_with fail
  refine (ram_Cells HM3.out.1 HF2.out HW.out (by have := HF1.out; omega)).mono ?_
  rintro e w4 ⟨u, rfl, hC⟩
  have HP4 := Lib.hid (HP3.out.below hC.2.2)
  have HM4 := Lib.hid (HM3.out.below hC.2.2)
  have HC4 := Lib.hid hC.1
  clear hC
  go_wp2_with fail
  refine (r11_Same HC4.out HP4.out).mono ?_
  rintro e w5 ⟨rfl, hq⟩
  rw [sameC_self]
  have HP5 := Lib.hid (HP4.out.below hq.below)
  have HM5 := Lib.hid (HM4.out.below hq.below)
  clear hq
  go_wp2_with fail
  refine (ram_Len HM5.out.1).mono ?_
  rintro e w6 ⟨rfl, rfl⟩
  go_wp2_with fail
  refine (ram_Read HM5.out.1 x HX.out).mono ?_
  rintro e w7 ⟨rfl, rfl⟩
  go_wp2_with fail
  refine (r11_Read HP5.out x).mono ?_
  rintro e w8 ⟨rfl, rfl⟩
  go_wp2_with ((go_at_call 7; refine (alive _).mono ?_; rintro e w' ⟨rfl, hb⟩))
  go_ret
  exact ⟨rfl, (HM5.out.below hb).2.2.2.1⟩
theorem loads {w : World} {v : Value} {cs : CS} (h : Pairs w v cs) (aw ww x : Int) (hx : wf x) :
    Calls Try.prog 3 #[.int .i64 aw, .int .i64 ww, v, .int .u64 x] w fun e w' => e = .returned (.bool true) ∧ Below w.heap.size w w' := by
  by_cases hl : 4200 < cs.length
  · exact loads_long h hl aw ww x
  · cases hr : rightB aw ww cs
    · exact loads_no h (by omega) aw ww x hr
    · exact loads_yes h aw ww x hx hr
end Go.Proofs.Ytpohekmfdbleeaa
