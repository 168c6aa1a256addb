/-
  The laws of chapter 11: alive, RamNils.
-/
import Derived.Test.YtpohekmfdbleeaaRam5
import Derived.Test.YtpohekmfdbleeaaFrame
namespace Go.Proofs.Ytpohekmfdbleeaa
open Go.ChangeShapes Go.WideShapes Go.ChangeAt Go.RowKit Go.Maps
set_option linter.unusedVariables false
/-- A memory that lies above block B; below it nothing has turned since w0. -/
def Mem (B : Nat) (w0 w : World) (r bm : Nat) (aw ww : Int) (cs : CS) : Prop := RamAt w r bm aw ww cs ∧ B ≤ r ∧ B ≤ bm ∧ Below B w0 w ∧ B ≤ w.heap.size
theorem Mem.below {B : Nat} {w0 w w' : World} {r bm : Nat} {aw ww : Int} {cs : CS} (h : Mem B w0 w r bm aw ww cs) (hb : Below w.heap.size w w') : Mem B w0 w' r bm aw ww cs :=
  ⟨h.1.below hb, h.2.1, h.2.2.1, h.2.2.2.1.trans (hb.mono h.2.2.2.2), Nat.le_trans h.2.2.2.2 hb.size⟩
theorem Mem.write {B : Nat} {w0 w w' : World} {r bm : Nat} {aw ww : Int} {cs cs' : CS} (h : Mem B w0 w r bm aw ww cs) (hp : WrPost w r bm aw ww cs' w') : Mem B w0 w' r bm aw ww cs' :=
  ⟨hp.1, h.2.1, h.2.2.1, h.2.2.2.1.trans (hp.2.below h.2.2.2.2 (fun i hi => by have := h.2.2.1; omega)), Nat.le_trans h.2.2.2.2 hp.2.size⟩
theorem LoadRel.mem {r bm : Nat} {aw ww : Int} {cs : CS} {w w' : World} (h : LoadRel r bm aw ww cs cs.length w w') : Mem w.heap.size w w' r bm aw ww cs := by
  have := h.1
  rw [List.take_length] at this
  exact ⟨this, h.2.1, h.2.2.1, h.2.2.2, h.2.2.2.size⟩

theorem right_21 : rightB 2 1 [] = true := by decide +kernel
theorem fit_a : (fitsB 3 2 && fitsB 1 1) = true := by decide +kernel
theorem fit_b : (fitsB 4 2 && fitsB 1 1) = false := by decide +kernel
set_option maxHeartbeats 1000000 in
set_option maxRecDepth 100000 in
theorem alive (w : World) : Calls Try.prog 7 #[] w fun e w' => e = .returned (.bool true) ∧ Below w.heap.size w w' := by
  go_enter Try.func7, Try.ntmps7
  go_wp2_with fail
  refine (ram_Load_yes (pairs_nil w) right_21).mono ?_
  rintro e w1 ⟨r, bm, rfl, hL⟩
  have H1 := Lib.hid hL.mem
  clear hL
  go_wp2_with fail
  refine (ram_Write H1.out.1 3 1 ⟨by omega, by omega⟩ ⟨by omega, by omega⟩ (by simp [maxLen])).mono ?_
  rintro e w2 ⟨rfl, hp⟩
  rw [if_pos fit_a] at hp
  rw [fit_a]
  have H2 := Lib.hid (H1.out.write hp)
  clear hp H1
  rw [show wrC [] 3 1 = [(3, 1)] by decide +kernel] at H2
  go_wp2_with fail
  refine (ram_Read H2.out.1 3 ⟨by omega, by omega⟩).mono ?_
  rintro e w3 ⟨rfl, rfl⟩
  rw [show getC [(3, 1)] 3 = 1 by decide +kernel]
  go_wp2_with fail
  refine (ram_Write H2.out.1 4 1 ⟨by omega, by omega⟩ ⟨by omega, by omega⟩ (by simp [maxLen])).mono ?_
  rintro e w4 ⟨rfl, hp⟩
  rw [if_neg (by rw [fit_b]; simp)] at hp
  rw [fit_b]
  have H4 := Lib.hid (H2.out.write hp)
  clear hp H2
  go_wp2_with fail
  refine (ram_Len H4.out.1).mono ?_
  rintro e w5 ⟨rfl, rfl⟩
  go_wp2_with fail
  go_ret
  exact ⟨rfl, H4.out.2.2.2.1⟩

set_option maxRecDepth 100000 in
theorem nils (x v : Int) (w : World) : Calls Try.prog 6 #[.int .u64 x, .int .u64 v] w fun e w' => e = .returned (.bool true) ∧ Below w.heap.size w w' := by
  go_enter Try.func6, Try.ntmps6
  go_wp2_with (first | (go_at_call 14; refine (ram_Read_nil _ _).mono ?_; rintro e w' ⟨rfl, rfl⟩) | (go_at_call 16; refine (ram_Write_nil _ _ _).mono ?_; rintro e w' ⟨rfl, rfl⟩) | (go_at_call 12; refine (ram_Cells_nil _).mono ?_; rintro e w' ⟨rfl, rfl⟩) | (go_at_call 18; refine (ram_Copy_nil _).mono ?_; rintro e w' ⟨rfl, rfl⟩) | (go_at_call 13; refine (ram_Len_nil _).mono ?_; rintro e w' ⟨rfl, rfl⟩) | (go_at_call 7; refine (alive _).mono ?_; rintro e w' ⟨rfl, hb⟩))
  go_ret
  exact ⟨rfl, hb⟩
end Go.Proofs.Ytpohekmfdbleeaa
