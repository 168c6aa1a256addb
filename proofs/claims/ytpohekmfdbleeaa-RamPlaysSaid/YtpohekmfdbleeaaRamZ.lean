/-
  The laws of chapter 11: RamLast.
-/
import Derived.Test.YtpohekmfdbleeaaRamX
import Derived.Deep.DeepCutAuto
namespace Go.Proofs.Ytpohekmfdbleeaa
open Go.ChangeShapes Go.WideShapes Go.ChangeAt Go.RowKit Go.Maps
set_option linter.unusedVariables false
theorem Good.wf {aw ww : Int} {cs : CS} (h : Good aw ww cs) : ∀ p ∈ cs, wf p.1 ∧ wf p.2 := fun p hp => ⟨(h.2 p hp).1, (h.2 p hp).2.1⟩
/-- What a Write, fitting or not, leaves of the cells. -/
def wrI (aw ww : Int) (cs : CS) (x v : Int) : CS := if (fitsB x aw && fitsB v ww) = true then wrC cs x v else cs
theorem ram_Write_I {w : World} {r bm : Nat} {aw ww : Int} {cs : CS} (h : RamAt w r bm aw ww cs) (x v : Int) (hx : wf x) (hv : wf v) (hs : cs.length < maxLen) :
    Calls Try.prog 16 #[.pointer (some ⟨r, 0, none⟩), .int .u64 x, .int .u64 v] w fun e w' => e = .returned (.bool (fitsB x aw && fitsB v ww)) ∧ WrPost w r bm aw ww (wrI aw ww cs x v) w' :=
  (ram_Write h x v hx hv hs)
theorem Good.wrI {aw ww : Int} {cs : CS} (h : Good aw ww cs) {x v : Int} (hx : Go.Proofs.Ytpohekmfdbleeaa.wf x) (hv : Go.Proofs.Ytpohekmfdbleeaa.wf v) : Good aw ww (wrI aw ww cs x v) := by
  unfold Go.Proofs.Ytpohekmfdbleeaa.wrI
  split
  · rename_i h'
    obtain ⟨h1, h2⟩ := Bool.and_eq_true_iff.1 h'
    exact h.wr hx hv h1 h2
  · exact h
theorem len_wrI (aw ww : Int) (cs : CS) (x v : Int) : (wrI aw ww cs x v).length ≤ cs.length + 1 := by
  unfold wrI
  have := len_wr cs x v
  split <;> omega
theorem get_wrI_same {aw ww : Int} {cs : CS} (h : rising cs) (x v : Int) (hf : (fitsB x aw && fitsB v ww) = true) : getC (wrI aw ww cs x v) x = v := by
  unfold wrI
  rw [if_pos hf]
  exact get_wr_same h x v
theorem get_wrI_other (aw ww : Int) {cs : CS} (h : rising cs) (x v y : Int) (hy : y ≠ x) : getC (wrI aw ww cs x v) y = getC cs y := by
  unfold wrI
  split
  · exact get_wr_other h x v y hy
  · rfl
theorem right_of_good {aw ww : Int} {cs : CS} (hd : dimB aw ww = true) (h : Good aw ww cs) (hl : cs.length ≤ 4096) : rightB aw ww cs = true := by
  unfold rightB
  rw [hd, decide_eq_true hl, Bool.true_and, Bool.true_and, List.all_eq_true]
  intro j hj
  have hj' : j < cs.length := by simpa using hj
  have e : cs.getD j (0, 0) = cs[j] := by simp [List.getD, hj']
  obtain ⟨-, -, h3, h4, h5⟩ := h.2 _ (List.getElem_mem hj')
  unfold okAt
  rw [e, h4, h5]
  have h6 : (cs[j].2 == 0) = false := by rw [beq_eq_false_iff_ne]; exact h3
  rw [h6]
  simp only [Bool.not_false, Bool.and_true, Bool.true_and, Bool.or_eq_true, decide_eq_true_eq]
  rcases Nat.eq_zero_or_pos j with h0 | h0
  · exact .inl h0
  · right
    have e' : cs.getD (j - 1) (0, 0) = cs[j - 1] := by simp [List.getD, show j - 1 < cs.length by omega]
    rw [e']
    have := List.pairwise_iff_getElem.1 h.1 (j - 1) j (by omega) hj' (by omega)
    exact this
theorem right_nil (aw ww : Int) : rightB aw ww [] = dimB aw ww := by unfold rightB; simp
set_option maxRecDepth 100000 in
theorem last_off {w : World} {v : Value} (aw ww x y z : Int) (hd : dimB aw ww = false) :
    Calls Try.prog 4 #[.int .i64 aw, .int .i64 ww, v, .int .u64 x, .int .u64 y, .int .u64 z] w fun e w' => e = .returned (.bool true) ∧ Below w.heap.size w w' := by
  have HR : Hid (rightB aw ww [] = false) := Lib.hid (by rw [right_nil]; exact hd)
  clear hd
  go_enter Try.func4, Try.ntmps4
  go_wp2_with fail
  refine (ram_Load_no (pairs_nil w) HR.out).mono ?_
  rintro e w1 ⟨rfl, hb1⟩
  have HB := Lib.hid hb1
  clear hb1
  go_wp2_with ((go_at_call 7; refine (alive _).mono ?_; rintro e w' ⟨rfl, hb⟩))
  go_ret
  exact ⟨rfl, HB.out.trans (hb.mono HB.out.size)⟩
set_option maxRecDepth 100000 in
theorem last_long {w : World} {v : Value} {l : AS} (h : Acts w v l) (aw ww x y z : Int) (hd : dimB aw ww = true) (hl : 60 < l.length) :
    Calls Try.prog 4 #[.int .i64 aw, .int .i64 ww, v, .int .u64 x, .int .u64 y, .int .u64 z] w fun e w' => e = .returned (.bool true) ∧ Below w.heap.size w w' := by
  have HR : Hid (rightB aw ww [] = true) := Lib.hid (by rw [right_nil]; exact hd)
  obtain ⟨a, cap, rfl, -, -, -, -⟩ := h
  have hl' : (60 : Int) < (l.length : Int) := by omega
  clear hd hl
  go_enter Try.func4, Try.ntmps4
  go_wp2_with fail
  refine (ram_Load_yes (pairs_nil w) HR.out).mono ?_
  rintro e w1 ⟨r, bm, rfl, hL⟩
  have HB := Lib.hid hL.mem.2.2.2.1
  clear hL
  go_wp2_with ((go_at_call 7; refine (alive _).mono ?_; rintro e w' ⟨rfl, hb⟩))
  go_ret
  exact ⟨rfl, HB.out.trans (hb.mono HB.out.size)⟩
structure LastRel (w wr : World) (r bm : Nat) (aw ww : Int) (cs : CS) (k : Nat) : Prop where
  mem : Mem w.heap.size w wr r bm aw ww cs
  good : Good aw ww cs
  len : cs.length ≤ k
theorem LastRel.below {w wr wx : World} {r bm : Nat} {aw ww : Int} {cs : CS} {k : Nat} (h : LastRel w wr r bm aw ww cs k) (hb : Below wr.heap.size wr wx) : LastRel w wx r bm aw ww cs k := ⟨h.mem.below hb, h.good, h.len⟩
theorem LastRel.drew {w wr : World} {r bm : Nat} {aw ww : Int} {cs : CS} {k : Nat} (h : LastRel w wr r bm aw ww cs k) : LastRel w wr.drew r bm aw ww cs k := h.below (Below.refl _ _).drew
theorem LastRel.wrote {w wr wx : World} {r bm : Nat} {aw ww : Int} {cs : CS} {k : Nat} {x v : Int} (h : LastRel w wr r bm aw ww cs k) (hp : WrPost wr r bm aw ww (wrI aw ww cs x v) wx) (hx : wf x) (hv : wf v) : LastRel w wx r bm aw ww (wrI aw ww cs x v) (k + 1) :=
  ⟨h.mem.write hp, h.good.wrI hx hv, by have := len_wrI aw ww cs x v; have := h.len; omega⟩
set_option maxHeartbeats 4000000 in
set_option maxRecDepth 100000 in
theorem last_on {w : World} {v : Value} {l : AS} (h : Acts w v l) (aw ww x y z : Int) (hx : wf x) (hy : wf y) (hz : wf z) (hd : dimB aw ww = true) (hl : l.length ≤ 60) :
    Calls Try.prog 4 #[.int .i64 aw, .int .i64 ww, v, .int .u64 x, .int .u64 y, .int .u64 z] w fun e w' => e = .returned (.bool true) ∧ Below w.heap.size w w' := by
  have HR : Hid (rightB aw ww [] = true) := Lib.hid (by rw [right_nil]; exact hd)
  have HD := Lib.hid hd
  have HX := Lib.hid hx
  have HY := Lib.hid hy
  have HZ := Lib.hid hz
  obtain ⟨a, cap, rfl, hc1, hc2, hwf, hcell⟩ := h
  obtain ⟨n, hn⟩ : ∃ n, n = l.length := ⟨_, rfl⟩
  rw [← hn] at hc1 hl ⊢
  have HN := Lib.hid hn
  have HV := Lib.hid hcell
  have HW := Lib.hid hwf
  clear hcell hn hc1 hc2 hwf hd hx hy hz
  go_enter Try.func4, Try.ntmps4
  go_wp2_with fail
  refine (ram_Load_yes (pairs_nil w) HR.out).mono ?_
  rintro e w1 ⟨r, bm, rfl, hL⟩
  have H0 : Hid (LastRel w w1 r bm aw ww [] 0) := Lib.hid ⟨hL.mem, Good.nil _ _, by simp⟩
  clear hL
  go_wp2_with fail
  go_loopw [15] (fun i wr => ∃ k : Nat, k ≤ n ∧ i = .int .i64 k ∧ ∃ cs, LastRel w wr r bm aw ww cs k) (fun i _ => n - (intOf i).toNat)
  case atStart => exact ⟨0, Nat.zero_le _, rfl, [], H0.out⟩
  case round =>
    obtain ⟨k, hk, rfl, cs, hrel⟩ := hrel
    have HA := Lib.hid hrel
    clear hrel
    have HT : Hid (cs.length < maxLen ∧ cs.length ≤ 4000) := Lib.hid ⟨by have := HA.out.len; unfold maxLen; omega, by have := HA.out.len; omega⟩
    by_cases hlt : (k : Int) < (n : Int)
    · have hkn : k < l.length := by have := HN.out; omega
      obtain ⟨b, off, rfl, hbl, hcell⟩ := acts_cells HV.out hkn
      have HC := Lib.hid hcell
      obtain ⟨-, q1, q2⟩ := hcell wr HA.out.mem.2.2.2.1
      obtain ⟨hp, hq⟩ := wf_acts HW.out k
      obtain ⟨p, hpe⟩ : ∃ y, y = (l.getD k (0, 0, 0)).2.1 := ⟨_, rfl⟩
      obtain ⟨q, hqe⟩ : ∃ y, y = (l.getD k (0, 0, 0)).2.2 := ⟨_, rfl⟩
      rw [← hpe] at q1 HC hp
      rw [← hqe] at q2 HC hq
      have HP := Lib.hid hp
      have HQ := Lib.hid hq
      clear hcell hkn hpe hqe hp hq
      go_wp2_with fail
      go_region_held3 (fun w' => w'.cell? ⟨b, off + k * 3 + 1, none⟩ = some (.int .u64 p) ∧ w'.cell? ⟨b, off + k * 3 + 2, none⟩ = some (.int .u64 q)) (go_keep)
        ((go_at_call 16; refine (ram_Write_I (w := wr.drew) HA.out.drew.mem.1 p q HP.out HQ.out HT.out.1).mono ?_; rintro e w2 ⟨rfl, hw⟩; obtain ⟨-, e1, e2⟩ := HC.out w2 (HA.out.drew.mem.write hw).2.2.2.1; have H2 := Lib.hid (HA.out.drew.wrote hw HP.out HQ.out); clear hw))
      all_goals
        go_wp2_with fail
        go_roundw
        case rel => exact ⟨k + 1, by omega, by go_num, _, H2.out⟩
        case measure => simp [intOf]; omega
    · go_wp2_with fail
      refine (ram_Read HA.out.mem.1 z HZ.out).mono ?_
      rintro e w2 ⟨rfl, rfl⟩
      go_wp2_with fail
      refine (ram_Write_I HA.out.mem.1 x y HX.out HY.out HT.out.1).mono ?_
      rintro e w2 ⟨rfl, hw⟩
      have H2 := Lib.hid (HA.out.wrote hw HX.out HY.out)
      have HS := Lib.hid (get_wrI_same (aw := aw) (ww := ww) HA.out.good.1 x y)
      have HO := Lib.hid (get_wrI_other aw ww HA.out.good.1 x y z)
      obtain ⟨ds, hds⟩ : ∃ ds, ds = wrI aw ww cs x y := ⟨_, rfl⟩
      rw [← hds] at H2 HS HO
      clear hw hds
      obtain ⟨b, hb⟩ : ∃ b, b = (fitsB x aw && fitsB y ww) := ⟨_, rfl⟩
      rw [← hb] at HS ⊢
      clear hb
      have HL : Hid (ds.length ≤ 4000) := Lib.hid (by have := H2.out.len; omega)
      by_cases hzx : z = x
      · subst hzx
        clear HO
        cases b
        · go_wp2_with fail
          refine (ram_Cells H2.out.mem.1 H2.out.good.1 H2.out.good.wf (by have := HL.out; omega)).mono ?_
          rintro e w3 ⟨uc, rfl, hC⟩
          have HC3 := Lib.hid hC.1
          have H3 := Lib.hid (H2.out.below hC.2.2)
          clear hC
          go_wp2_with fail
          refine (ram_Load_yes HC3.out (right_of_good HD.out H3.out.good (by have := HL.out; omega))).mono ?_
          rintro e w4 ⟨r2, bm2, rfl, hL⟩
          have H4 := Lib.hid (H3.out.below hL.mem.2.2.2.1)
          have G4 := Lib.hid hL.mem
          clear hL
          go_wp2_with fail
          refine (ram_Cells G4.out.1 H4.out.good.1 H4.out.good.wf (by have := HL.out; omega)).mono ?_
          rintro e w5 ⟨u5, rfl, hC⟩
          have HC5 := Lib.hid hC.1
          have H5 := Lib.hid (H4.out.below hC.2.2)
          have G5 := Lib.hid (G4.out.below hC.2.2)
          clear hC
          go_wp2_with fail
          refine (ram_Cells H5.out.mem.1 H5.out.good.1 H5.out.good.wf (by have := HL.out; omega)).mono ?_
          rintro e w6 ⟨u6, rfl, hC⟩
          have HC6 := Lib.hid hC.1
          have HC56 := Lib.hid (HC5.out.below hC.2.2)
          have H6 := Lib.hid (H5.out.below hC.2.2)
          have G6 := Lib.hid (G5.out.below hC.2.2)
          clear hC
          go_wp2_with fail
          refine (r11_Same HC56.out HC6.out).mono ?_
          rintro e w7 ⟨rfl, hq⟩
          rw [sameC_self]
          have H7 := Lib.hid (H6.out.below hq.below)
          have G7 := Lib.hid (G6.out.below hq.below)
          clear hq
          go_wp2_with fail
          refine (ram_Read G7.out.1 z HZ.out).mono ?_
          rintro e w8 ⟨rfl, rfl⟩
          go_wp2_with fail
          refine (ram_Read H7.out.mem.1 z HZ.out).mono ?_
          rintro e w8 ⟨rfl, rfl⟩
          go_wp2_with ((go_at_call 7; refine (alive _).mono ?_; rintro e w' ⟨rfl, hb⟩))
          go_ret
          exact ⟨rfl, (H7.out.below hb).mem.2.2.2.1⟩
        · go_wp2_with fail
          refine (ram_Read H2.out.mem.1 z HZ.out).mono ?_
          rintro e w3 ⟨rfl, rfl⟩
          rw [HS.out (by simp)]
          go_wp2_with fail
          refine (ram_Cells H2.out.mem.1 H2.out.good.1 H2.out.good.wf (by have := HL.out; omega)).mono ?_
          rintro e w3 ⟨uc, rfl, hC⟩
          have HC3 := Lib.hid hC.1
          have H3 := Lib.hid (H2.out.below hC.2.2)
          clear hC
          go_wp2_with fail
          refine (ram_Load_yes HC3.out (right_of_good HD.out H3.out.good (by have := HL.out; omega))).mono ?_
          rintro e w4 ⟨r2, bm2, rfl, hL⟩
          have H4 := Lib.hid (H3.out.below hL.mem.2.2.2.1)
          have G4 := Lib.hid hL.mem
          clear hL
          go_wp2_with fail
          refine (ram_Cells G4.out.1 H4.out.good.1 H4.out.good.wf (by have := HL.out; omega)).mono ?_
          rintro e w5 ⟨u5, rfl, hC⟩
          have HC5 := Lib.hid hC.1
          have H5 := Lib.hid (H4.out.below hC.2.2)
          have G5 := Lib.hid (G4.out.below hC.2.2)
          clear hC
          go_wp2_with fail
          refine (ram_Cells H5.out.mem.1 H5.out.good.1 H5.out.good.wf (by have := HL.out; omega)).mono ?_
          rintro e w6 ⟨u6, rfl, hC⟩
          have HC6 := Lib.hid hC.1
          have HC56 := Lib.hid (HC5.out.below hC.2.2)
          have H6 := Lib.hid (H5.out.below hC.2.2)
          have G6 := Lib.hid (G5.out.below hC.2.2)
          clear hC
          go_wp2_with fail
          refine (r11_Same HC56.out HC6.out).mono ?_
          rintro e w7 ⟨rfl, hq⟩
          rw [sameC_self]
          have H7 := Lib.hid (H6.out.below hq.below)
          have G7 := Lib.hid (G6.out.below hq.below)
          clear hq
          go_wp2_with fail
          refine (ram_Read G7.out.1 z HZ.out).mono ?_
          rintro e w8 ⟨rfl, rfl⟩
          go_wp2_with fail
          refine (ram_Read H7.out.mem.1 z HZ.out).mono ?_
          rintro e w8 ⟨rfl, rfl⟩
          go_wp2_with ((go_at_call 7; refine (alive _).mono ?_; rintro e w' ⟨rfl, hb⟩))
          go_ret
          exact ⟨rfl, (H7.out.below hb).mem.2.2.2.1⟩
      · have hb : (z != x) = true := by rw [bne_iff_ne]; exact hzx
        have HO2 := Lib.hid (HO.out hzx)
        clear hzx HO
        cases b
        · go_wp2_with fail
          refine (ram_Read H2.out.mem.1 z HZ.out).mono ?_
          rintro e w3 ⟨rfl, rfl⟩
          rw [HO2.out]
          go_wp2_with fail
          refine (ram_Cells H2.out.mem.1 H2.out.good.1 H2.out.good.wf (by have := HL.out; omega)).mono ?_
          rintro e w3 ⟨uc, rfl, hC⟩
          have HC3 := Lib.hid hC.1
          have H3 := Lib.hid (H2.out.below hC.2.2)
          clear hC
          go_wp2_with fail
          refine (ram_Load_yes HC3.out (right_of_good HD.out H3.out.good (by have := HL.out; omega))).mono ?_
          rintro e w4 ⟨r2, bm2, rfl, hL⟩
          have H4 := Lib.hid (H3.out.below hL.mem.2.2.2.1)
          have G4 := Lib.hid hL.mem
          clear hL
          go_wp2_with fail
          refine (ram_Cells G4.out.1 H4.out.good.1 H4.out.good.wf (by have := HL.out; omega)).mono ?_
          rintro e w5 ⟨u5, rfl, hC⟩
          have HC5 := Lib.hid hC.1
          have H5 := Lib.hid (H4.out.below hC.2.2)
          have G5 := Lib.hid (G4.out.below hC.2.2)
          clear hC
          go_wp2_with fail
          refine (ram_Cells H5.out.mem.1 H5.out.good.1 H5.out.good.wf (by have := HL.out; omega)).mono ?_
          rintro e w6 ⟨u6, rfl, hC⟩
          have HC6 := Lib.hid hC.1
          have HC56 := Lib.hid (HC5.out.below hC.2.2)
          have H6 := Lib.hid (H5.out.below hC.2.2)
          have G6 := Lib.hid (G5.out.below hC.2.2)
          clear hC
          go_wp2_with fail
          refine (r11_Same HC56.out HC6.out).mono ?_
          rintro e w7 ⟨rfl, hq⟩
          rw [sameC_self]
          have H7 := Lib.hid (H6.out.below hq.below)
          have G7 := Lib.hid (G6.out.below hq.below)
          clear hq
          go_wp2_with fail
          refine (ram_Read G7.out.1 z HZ.out).mono ?_
          rintro e w8 ⟨rfl, rfl⟩
          go_wp2_with fail
          refine (ram_Read H7.out.mem.1 z HZ.out).mono ?_
          rintro e w8 ⟨rfl, rfl⟩
          go_wp2_with ((go_at_call 7; refine (alive _).mono ?_; rintro e w' ⟨rfl, hb⟩))
          go_ret
          exact ⟨rfl, (H7.out.below hb).mem.2.2.2.1⟩
        · go_wp2_with fail
          refine (ram_Read H2.out.mem.1 x HX.out).mono ?_
          rintro e w3 ⟨rfl, rfl⟩
          rw [HS.out (by simp)]
          go_wp2_with fail
          refine (ram_Read H2.out.mem.1 z HZ.out).mono ?_
          rintro e w3 ⟨rfl, rfl⟩
          rw [HO2.out]
          go_wp2_with fail
          refine (ram_Cells H2.out.mem.1 H2.out.good.1 H2.out.good.wf (by have := HL.out; omega)).mono ?_
          rintro e w3 ⟨uc, rfl, hC⟩
          have HC3 := Lib.hid hC.1
          have H3 := Lib.hid (H2.out.below hC.2.2)
          clear hC
          go_wp2_with fail
          refine (ram_Load_yes HC3.out (right_of_good HD.out H3.out.good (by have := HL.out; omega))).mono ?_
          rintro e w4 ⟨r2, bm2, rfl, hL⟩
          have H4 := Lib.hid (H3.out.below hL.mem.2.2.2.1)
          have G4 := Lib.hid hL.mem
          clear hL
          go_wp2_with fail
          refine (ram_Cells G4.out.1 H4.out.good.1 H4.out.good.wf (by have := HL.out; omega)).mono ?_
          rintro e w5 ⟨u5, rfl, hC⟩
          have HC5 := Lib.hid hC.1
          have H5 := Lib.hid (H4.out.below hC.2.2)
          have G5 := Lib.hid (G4.out.below hC.2.2)
          clear hC
          go_wp2_with fail
          refine (ram_Cells H5.out.mem.1 H5.out.good.1 H5.out.good.wf (by have := HL.out; omega)).mono ?_
          rintro e w6 ⟨u6, rfl, hC⟩
          have HC6 := Lib.hid hC.1
          have HC56 := Lib.hid (HC5.out.below hC.2.2)
          have H6 := Lib.hid (H5.out.below hC.2.2)
          have G6 := Lib.hid (G5.out.below hC.2.2)
          clear hC
          go_wp2_with fail
          refine (r11_Same HC56.out HC6.out).mono ?_
          rintro e w7 ⟨rfl, hq⟩
          rw [sameC_self]
          have H7 := Lib.hid (H6.out.below hq.below)
          have G7 := Lib.hid (G6.out.below hq.below)
          clear hq
          go_wp2_with fail
          refine (ram_Read G7.out.1 z HZ.out).mono ?_
          rintro e w8 ⟨rfl, rfl⟩
          go_wp2_with fail
          refine (ram_Read H7.out.mem.1 z HZ.out).mono ?_
          rintro e w8 ⟨rfl, rfl⟩
          go_wp2_with ((go_at_call 7; refine (alive _).mono ?_; rintro e w' ⟨rfl, hb⟩))
          go_ret
          exact ⟨rfl, (H7.out.below hb).mem.2.2.2.1⟩
end Go.Proofs.Ytpohekmfdbleeaa
