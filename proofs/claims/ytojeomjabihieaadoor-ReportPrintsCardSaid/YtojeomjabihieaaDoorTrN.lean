/-
  What chapters that print witnesses share: Light; both Prints in one form.
-/
import Derived.Test.YtojeomjabihieaaDoorTrG
import Derived.Test.YtojeomjabihieaaDoorTrK
namespace Go.Proofs.YtojeomjabihieaaDoor
open Go.ChangeShapes Go.WideShapes Go.ChangeAt Go.RowKit
set_option linter.unusedVariables false
def LightPost (w : World) (e : Ending) (w' : World) : Prop := (∃ b : Bool, e = .returned (.bool b)) ∧ Below w.heap.size w w'
set_option maxHeartbeats 2000000 in
theorem light_ {w : World} {d : TrD} {vl vm vi : Value} (h : TrP w d vl vm vi) : Calls Tryd.prog 21 #[trV d vl vm vi] w (LightPost w) := by
  have H := Lib.hid h
  obtain ⟨a1, c1, rfl⟩ := h.lat.len
  obtain ⟨a2, c2, rfl, hm1, hm2⟩ := h.mems.form
  obtain ⟨a3, c3, rfl, hi1, hi2⟩ := h.ins.form
  clear h
  unfold trV
  obtain ⟨lat, mems, ins, bad⟩ := d
  simp only at *
  obtain ⟨n1, hn1⟩ : ∃ n, n = lat.length := ⟨_, rfl⟩
  obtain ⟨n2, hn2⟩ : ∃ n, n = mems.length := ⟨_, rfl⟩
  obtain ⟨n3, hn3⟩ : ∃ n, n = ins.length := ⟨_, rfl⟩
  rw [← hn1, ← hn2, ← hn3]
  have N2 := Lib.hid hn2
  have N3 := Lib.hid hn3
  have g2 : n2 ≤ 9223372036854775807 := by rw [hn2]; exact Nat.le_trans hm1 hm2
  have g3 : n3 ≤ 9223372036854775807 := by rw [hn3]; exact Nat.le_trans hi1 hi2
  have q := Blk.new w 33 #[.slice a1 n1 c1, .slice a2 n2 c2, .slice a3 n3 c3, .int .i64 bad]
  have hb0 : Below w.heap.size w (w.alloc (.cells #[.slice a1 n1 c1, .slice a2 n2 c2, .slice a3 n3 c3, .int .i64 bad] 33)) := (Below.refl _ _).alloc (Nat.le_refl _) _
  have Q := Lib.hid q
  have HB0 := Lib.hid hb0
  clear hn1 hn2 hn3 q hb0 hm1 hm2 hi1 hi2
  go_enter Tryd.func21, Tryd.ntmps21
  go_wp2
  all_goals first
    | (go_ret; exact ⟨⟨_, rfl⟩, HB0.out⟩)
    | skip
  go_loopw [3] (fun i wr => ∃ k : Nat, k ≤ n2 ∧ i = .int .i64 k ∧ wr = w.alloc (.cells #[.slice a1 n1 c1, .slice a2 n2 c2, .slice a3 n3 c3, .int .i64 bad] 33)) (fun i _ => n2 - (intOf i).toNat)
  case atStart => exact ⟨0, Nat.zero_le _, rfl, rfl⟩
  case round =>
    obtain ⟨k, hk, rfl, rfl⟩ := hrel
    have k1 := Q.out.cell 1
    have k2 := Q.out.cell 2
    by_cases hlt : (k : Int) < (n2 : Int)
    · have hkn : k < mems.length := by have := N2.out; omega
      obtain ⟨b, off, cap2, he, u, hcell, hp⟩ := H.out.mems.at_ hkn
      injection he with e1 e2 e3
      subst e1
      obtain ⟨pa, pc, rfl, -, -⟩ := pairs_lens hp
      have hc1 := cell_below hcell HB0.out
      rw [Nat.mul_one] at hc1
      generalize (mems.getD k []).length = m at *
      clear hcell hp e2 e3
      by_cases hm : (100 : Int) < (m : Int)
      · go_wp2
        go_ret
        exact ⟨⟨_, rfl⟩, HB0.out⟩
      · go_wp2
        go_roundw
        case rel => exact ⟨k + 1, by omega, by go_num, trivial⟩
        case measure => simp [intOf]; omega
    · clear hk
      go_wp2
      go_loopw [4] (fun i wr => ∃ k : Nat, k ≤ n3 ∧ i = .int .i64 k ∧ wr = w.alloc (.cells #[.slice a1 n1 c1, .slice a2 n2 c2, .slice a3 n3 c3, .int .i64 bad] 33)) (fun i _ => n3 - (intOf i).toNat)
      case atStart => exact ⟨0, Nat.zero_le _, rfl, rfl⟩
      case round =>
        obtain ⟨j, hj, rfl, rfl⟩ := hrel
        by_cases hlj : (j : Int) < (n3 : Int)
        · have hkn : j < ins.length := by have := N3.out; omega
          obtain ⟨b, off, cap2, he, u, hcell, hp⟩ := H.out.ins.at_ hkn
          injection he with e1 e2 e3
          subst e1
          obtain ⟨pa, pc, rfl⟩ := hp.len
          have hc1 := cell_below hcell HB0.out
          rw [Nat.mul_one] at hc1
          generalize (ins.getD j []).length = m at *
          clear hcell hp e2 e3
          by_cases hm : (200 : Int) < (m : Int)
          · go_wp2
            go_ret
            exact ⟨⟨_, rfl⟩, HB0.out⟩
          · go_wp2
            go_roundw
            case rel => exact ⟨j + 1, by omega, by go_num, trivial⟩
            case measure => simp [intOf]; omega
        · go_wp2
          go_ret
          exact ⟨⟨_, rfl⟩, HB0.out⟩
def prT (d : TrD) : List UInt8 := if rightT d then printT d else []
def prF (d : TrD) : Int := if rightT d then 0 else 14
theorem trace_Print {w : World} {d : TrD} {vl vm vi : Value} (h : TrP w d vl vm vi) (ht : Tab w) : Calls Tryd.prog 24 #[trV d vl vm vi] w fun e w' => e = .returned (.tuple #[.string (bs (prT d)), .int .i64 (prF d)]) ∧ Below w.heap.size w w' := by
  unfold prT prF
  cases hd : rightT d
  · exact trace_Print_no h hd
  · exact trace_Print_yes h hd ht
theorem r15_Print {w : World} {d : TrD} {vl vm vi : Value} (h : TrP w d vl vm vi) : Calls Tryd.prog 28 #[trV d vl vm vi] w fun e w' => e = .returned (.tuple #[.string (bs (prT d)), .int .i64 (prF d)]) ∧ Below w.heap.size w w' := by
  unfold prT prF
  cases hd : rightT d
  · exact r15_Print_no h hd
  · exact r15_Print_yes h hd
theorem after {W0 W w' : World} (h : Below W0.heap.size W0 W) (g : Below W.heap.size W w') : Below W0.heap.size W0 w' := h.trans (g.mono h.size)
end Go.Proofs.YtojeomjabihieaaDoor
