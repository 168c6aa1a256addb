/-
  The document's nodes: level, walked.
-/
import Derived.Test.YtgnimegdgphlmaaTopX
namespace Go.Proofs.Ytgnimegdgphlmaa
open Go.ChangeShapes Go.WideShapes Go.ChangeAt Go.RowKit
set_option linter.unusedVariables false
set_option linter.unusedSimpArgs false
attribute [local go_sem ↓] Go.wp_at_zero Go.wp_at_succ
theorem told1_no {frm : List Int} {o : Int → Int} {j : Nat} (hj : j < frm.length) (h : o (frm.getD j 0 / 2) < 0) : told1 frm o = -1 := by
  unfold told1
  rw [if_pos]
  exact List.any_eq_true.2 ⟨_, mem_getD 0 hj, decide_eq_true h⟩
theorem told1_yes {frm : List Int} {o : Int → Int} (h : ∀ y ∈ frm, 0 ≤ o (y / 2)) : told1 frm o = (mx frm (fun y => (o (y / 2)).toNat) : Int) + 1 := by
  unfold told1
  rw [if_neg]
  intro h0
  obtain ⟨y, hy, hyo⟩ := List.any_eq_true.1 h0
  have := of_decide_eq_true hyo
  have := h y hy
  omega
set_option maxHeartbeats 2000000 in
theorem r06_level {w : World} {x : NodeD} {u3 u4 : Value} (h3 : Ints w u3 x.frm) (h4 : Ints w u4 x.vars) {bl V : Nat} {o : Int → Int} (hl : VBlk w bl 3 (V + 1) (fun i => .int .i64 (o i))) (hf : ∀ y ∈ x.frm, 0 ≤ y ∧ y ≤ 2 * (V : Int) + 1) (hV : V ≤ 2000) (hb : ∀ v : Int, 0 ≤ v → v ≤ V → o v ≤ 5000) :
    Calls Try.prog 27 #[.agg #[.bool x.read, .int .i64 x.mem, .int .i64 x.pos, u3, u4], .slice (some ⟨bl, 0, none⟩) (V + 1) (V + 1)] w fun e w' => e = .returned (.int .i64 (told1 x.frm o)) ∧ Below w.heap.size w w' := by
  obtain ⟨ans, hans⟩ : ∃ a, a = told1 x.frm o := ⟨_, rfl⟩
  rw [← hans]
  obtain ⟨A3, c3, rfl, -, z1, z2, -⟩ := id h3
  obtain ⟨A4, c4, rfl, -, z3, z4, -⟩ := id h4
  obtain ⟨fs, hfs⟩ : ∃ fs, fs = x.frm := ⟨_, rfl⟩
  rw [← hfs] at h3 z1 hf hans ⊢
  obtain ⟨nf, hnf⟩ : ∃ n, n = fs.length := ⟨_, rfl⟩
  obtain ⟨nv, hnv⟩ : ∃ n, n = x.vars.length := ⟨_, rfl⟩
  rw [← hnf] at h3 z1 ⊢
  rw [← hnv]
  obtain ⟨xr, hxr⟩ : ∃ n, n = x.read := ⟨_, rfl⟩
  obtain ⟨xm, hxm⟩ : ∃ n, n = x.mem := ⟨_, rfl⟩
  obtain ⟨xp, hxp⟩ : ∃ n, n = x.pos := ⟨_, rfl⟩
  rw [← hxr, ← hxm, ← hxp]
  unfold maxLen at z2
  obtain ⟨wb, hwb⟩ : ∃ wb, wb = w.alloc (.cells #[.bool xr, .int .i64 xm, .int .i64 xp, .slice A3 nf c3, .slice A4 nv c4] 46) := ⟨_, rfl⟩
  obtain ⟨bx, hbx⟩ : ∃ bx, bx = w.heap.size := ⟨_, rfl⟩
  have HB1 : Hid (Below w.heap.size w wb) := Lib.hid (by rw [hwb]; exact below_new1 w _)
  have HB : Hid (Blk wb bx 46 #[.bool xr, .int .i64 xm, .int .i64 xp, .slice A3 nf c3, .slice A4 nv c4]) := Lib.hid (by rw [hwb, hbx]; exact Blk.new w _ _)
  have HI := Lib.hid (h3.below HB1.out)
  have HLV := Lib.hid (hl.later HB1.out)
  have HA := Lib.hid hans
  have HF := Lib.hid hf
  have HN := Lib.hid hnf
  have HBO := Lib.hid hb
  have HW1 := Lib.hid hwb
  have HBE := Lib.hid hbx
  clear h3 h4 hl hans hf hnf hnv hxr hxm hxp hb hfs hwb hbx z3 z4
  go_enter Try.func27, Try.ntmps27
  go_wp2
  rw [← HW1.out, ← HBE.out]
  go_loopw [5, 6, 7] (fun s i _ wr => ∃ j : Nat, j ≤ nf ∧ i = .int .i64 j ∧ s = .int .i64 (mx (fs.take j) (fun y => (o (y / 2)).toNat) : Nat) ∧ (∀ y ∈ fs.take j, 0 ≤ o (y / 2)) ∧ wr = wb) (fun _ i _ _ => nf - (intOf i).toNat)
  case atStart => exact ⟨0, Nat.zero_le _, rfl, rfl, (fun y hy => by simp at hy), rfl⟩
  case round =>
    obtain ⟨j, hj, rfl, rfl, hall, rfl⟩ := hrel
    have k3 : wr.cell? ⟨bx, 3, none⟩ = some (.slice A3 nf c3) := HB.out.cell 3
    have HALL := Lib.hid hall
    obtain ⟨mm, hmm⟩ : ∃ q, q = mx (fs.take j) (fun y => (o (y / 2)).toNat) := ⟨_, rfl⟩
    rw [← hmm]
    have hmm9 : mm ≤ 5000 := by
      rw [hmm]
      rcases mx_hit (fs.take j) (fun y => (o (y / 2)).toNat) with h | ⟨y, hy, he⟩
      · omega
      · have h1 := HF.out y (List.mem_of_mem_take hy)
        have := HBO.out (y / 2) (by omega) (by omega)
        have he' : (o (y / 2)).toNat = mx (fs.take j) (fun y => (o (y / 2)).toNat) := he
        omega
    have HMX := Lib.hid hmm
    clear hall hmm
    by_cases hlt : (j : Int) < (nf : Int)
    · have hjn : j < fs.length := by have := HN.out; omega
      obtain ⟨-, hii⟩ := ints_hii HI.out
      obtain ⟨b, off, rfl, hcs⟩ := hii.resolve_left (fun e => by rw [e] at hjn; simp at hjn)
      have q := hcs j hjn
      have hyr := HF.out (fs.getD j 0) (mem_getD 0 hjn)
      have hts := take_snocI hjn
      have hno := Lib.hid (fun h => told1_no (o := o) hjn h)
      obtain ⟨y, hy⟩ : ∃ y, y = fs.getD j 0 := ⟨_, rfl⟩
      rw [← hy] at q hyr hts hno
      obtain ⟨kn, hkn⟩ : ∃ kn : Nat, y / 2 = (kn : Int) := ⟨(y / 2).toNat, by omega⟩
      have hknV : kn < V + 1 := by omega
      have hvar := r01Var y wr (by omega) (by omega)
      rw [hkn] at hvar hno
      have clv := HLV.out.cell hknV
      have hob := HBO.out (kn : Int) (by omega) (by omega)
      obtain ⟨ov, hov⟩ : ∃ ov, ov = o (kn : Int) := ⟨_, rfl⟩
      rw [← hov] at clv hob hno
      have HVAR := Lib.hid hvar
      have HTS := Lib.hid hts
      have HKN := Lib.hid hkn
      have HOV := Lib.hid hov
      have hk1 : (kn : Int) < (V : Int) + 1 := by omega
      clear hcs hii hts hy hjn hyr hvar hkn hov
      by_cases hneg : ov < 0
      · have HFF : Hid (ans = -1) := Lib.hid (by rw [HA.out]; exact hno.out hneg)
        go_wp2_with (go_at_call 20; refine HVAR.out.mono ?_; rintro e w' ⟨rfl, rfl⟩)
        repeat rw [Exit.noGoto_ret]
        go_ret
        exact ⟨by rw [HFF.out]; rfl, HB1.out⟩
      · have hneg' : 0 ≤ ov := by omega
        clear hneg
        go_wp2_with (go_at_call 20; refine HVAR.out.mono ?_; rintro e w' ⟨rfl, rfl⟩)
        go_roundw
        case rel =>
          have e : mx (fs.take (j + 1)) (fun y => (o (y / 2)).toNat) = max mm ov.toNat := by
            rw [HTS.out, mx_snoc, ← HMX.out]
            show max mm ((o (y / 2)).toNat) = _
            rw [HKN.out, HOV.out]
          refine ⟨j + 1, by omega, by go_num, by rw [e]; congr 1; omega, fun z hz => ?_, trivial⟩
          rw [HTS.out] at hz
          rcases List.mem_append.1 hz with hz | hz
          · exact HALL.out z hz
          · simp at hz
            subst hz
            rw [HKN.out, ← HOV.out]; exact hneg'
        case measure => simp [intOf]; omega
    · obtain rfl : j = nf := by omega
      have hfull : fs.take j = fs := List.take_of_length_le (by have := HN.out; omega)
      have HFF : Hid (ans = (mm : Int) + 1) := Lib.hid (by
        have h1 := HALL.out
        have h2 := HMX.out
        rw [hfull] at h1 h2
        rw [HA.out, told1_yes h1, h2])
      clear hfull
      go_wp2
      go_ret
      exact ⟨by rw [HFF.out]; rfl, HB1.out⟩
end Go.Proofs.Ytgnimegdgphlmaa
