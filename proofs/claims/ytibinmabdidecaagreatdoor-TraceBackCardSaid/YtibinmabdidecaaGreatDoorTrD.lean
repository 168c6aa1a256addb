/-
  Witnesses (api.Trace) as plain data; which are right: both ways.
-/
import Derived.Test.YtibinmabdidecaaGreatDoorTrC
namespace Go.Proofs.YtibinmabdidecaaGreatDoor
open Go.ChangeShapes Go.WideShapes Go.ChangeAt Go.RowKit
set_option linter.unusedVariables false
structure TrD where
  lat : List Bool
  mems : List CS
  ins : List (List Bool)
  bad : Int
def trV (d : TrD) (vl vm vi : Value) : Value := .agg #[vl, vm, vi, .int .i64 d.bad]
structure TrP (w : World) (d : TrD) (vl vm vi : Value) : Prop where
  lat : Bo w vl d.lat
  mems : Ces w vm d.mems
  ins : Bos w vi d.ins
theorem TrP.below {w w' : World} {d : TrD} {vl vm vi : Value} (h : TrP w d vl vm vi) (hb : Below w.heap.size w w') : TrP w' d vl vm vi := ⟨h.lat.below stays_bo hb, h.mems.below stays_ces hb, h.ins.below stays_bos hb⟩
def dimT (d : TrD) : Bool := decide (d.lat.length ≤ 4096 ∧ d.mems.length ≤ 4 ∧ d.ins.length ≤ 4096 ∧ 0 ≤ d.bad ∧ d.bad ≤ 1000)
def rightT (d : TrD) : Bool := dimT d && (!(d.ins.any longB) && !(d.mems.any wrongB))
set_option maxHeartbeats 1000000 in
theorem trace_Right_dim {w : World} {d : TrD} {vl vm vi : Value} (h : TrP w d vl vm vi) (hd : dimT d = false) : Calls Tryz.prog 15 #[trV d vl vm vi] w fun e w' => e = .returned (.bool false) ∧ Below w.heap.size w w' := by
  obtain ⟨a1, c1, rfl⟩ := h.lat.len
  obtain ⟨a2, c2, rfl, -, -⟩ := h.mems.form
  obtain ⟨a3, c3, rfl, -, -⟩ := h.ins.form
  clear h
  unfold dimT at hd
  unfold trV
  obtain ⟨lat, mems, ins, bad⟩ := d
  simp only [decide_eq_false_iff_not] at hd ⊢
  have hd' : (4096 : Int) < (lat.length : Int) ∨ (4 : Int) < (mems.length : Int) ∨ (4096 : Int) < (ins.length : Int) ∨ bad < 0 ∨ 1000 < bad := by omega
  have HD := Lib.hid hd'
  clear hd hd'
  generalize lat.length = n1 at *
  generalize mems.length = n2 at *
  generalize ins.length = n3 at *
  go_enter Tryz.func15, Tryz.ntmps15
  go_wp2
  all_goals first
    | (exfalso; have := HD.out; omega)
    | (go_ret; exact ⟨rfl, ((Below.refl _ _).alloc (Nat.le_refl _) _).alloc (by simp) _⟩)
theorem dimT_parts {d : TrD} (h : dimT d = true) : d.lat.length ≤ 4096 ∧ d.mems.length ≤ 4 ∧ d.ins.length ≤ 4096 ∧ 0 ≤ d.bad ∧ d.bad ≤ 1000 := of_decide_eq_true h
set_option maxHeartbeats 1000000 in
theorem trace_Right_fine {w : World} {d : TrD} {vl vm vi : Value} (h : TrP w d vl vm vi) (hd : dimT d = true) : Calls Tryz.prog 15 #[trV d vl vm vi] w fun e w' => e = .returned (.bool (!(d.ins.any longB) && !(d.mems.any wrongB))) ∧ Below w.heap.size w w' := by
  obtain ⟨h1, h2, h3, h4, h5⟩ := dimT_parts hd
  obtain ⟨a1, c1, rfl⟩ := h.lat.len
  obtain ⟨a2, c2, rfl, -, -⟩ := h.mems.form
  obtain ⟨a3, c3, rfl, -, -⟩ := h.ins.form
  have HB0 : Hid (∀ x y, Below w.heap.size w ((w.alloc x).alloc y)) := Lib.hid fun x y => ((Below.refl _ _).alloc (Nat.le_refl _) _).alloc (by simp) _
  have HBB := Lib.hid (fun w' (hb : Below w.heap.size w w') => hasBB (h.ins.below stays_bos hb))
  have HCC := Lib.hid (fun w' (hb : Below w.heap.size w w') => hasCC (h.mems.below stays_ces hb))
  clear h hd
  unfold trV
  obtain ⟨lat, mems, ins, bad⟩ := d
  simp only at *
  have b1 : decide ((4096 : Int) < (lat.length : Int)) = false := decide_eq_false (by omega)
  have b2 : decide ((4 : Int) < (mems.length : Int)) = false := decide_eq_false (by omega)
  have b3 : decide ((4096 : Int) < (ins.length : Int)) = false := decide_eq_false (by omega)
  have b4 : decide (bad < 0) = false := decide_eq_false (by omega)
  have b5 : decide (1000 < bad) = false := decide_eq_false (by omega)
  generalize lat.length = n1 at *
  generalize mems.length = n2 at *
  generalize ins.length = n3 at *
  generalize ins.any longB = r1 at *
  generalize mems.any wrongB = r2 at *
  clear h1 h2 h3 h4 h5
  go_enter Tryz.func15, Tryz.ntmps15
  go_wp2_with fail
  refine (HBB.out _ (HB0.out _ _)).mono ?_
  rintro e w1 ⟨rfl, hb1⟩
  have HB1 := Lib.hid ((HB0.out _ _).trans (hb1.mono (HB0.out _ _).size))
  have q := ((Blk.new (w.alloc _) 26 #[.slice a1 n1 c1, .slice a2 n2 c2]).below hb1 (by simp)).cell 1
  simp only [World.size_alloc] at q
  clear hb1
  cases r1
  · go_wp2_with fail
    refine (HCC.out _ HB1.out).mono ?_
    rintro e w2 ⟨rfl, hb2⟩
    have HB2 := Lib.hid (HB1.out.trans (hb2.mono HB1.out.size))
    clear hb2
    go_wp2
    go_ret
    exact ⟨rfl, HB2.out⟩
  · go_wp2
    go_ret
    exact ⟨rfl, HB1.out⟩
theorem trace_Right {w : World} {d : TrD} {vl vm vi : Value} (h : TrP w d vl vm vi) : Calls Tryz.prog 15 #[trV d vl vm vi] w fun e w' => e = .returned (.bool (rightT d)) ∧ Below w.heap.size w w' := by
  unfold rightT
  cases hd : dimT d
  · exact trace_Right_dim h hd
  · rw [Bool.true_and]
    exact trace_Right_fine h hd
set_option maxHeartbeats 1000000 in
theorem r15_Right_dim {w : World} {d : TrD} {vl vm vi : Value} (h : TrP w d vl vm vi) (hd : dimT d = false) : Calls Tryz.prog 22 #[trV d vl vm vi] w fun e w' => e = .returned (.bool false) ∧ Below w.heap.size w w' := by
  obtain ⟨a1, c1, rfl⟩ := h.lat.len
  obtain ⟨a2, c2, rfl, -, -⟩ := h.mems.form
  obtain ⟨a3, c3, rfl, -, -⟩ := h.ins.form
  clear h
  unfold dimT at hd
  unfold trV
  obtain ⟨lat, mems, ins, bad⟩ := d
  simp only [decide_eq_false_iff_not] at hd ⊢
  have hd' : (4096 : Int) < (lat.length : Int) ∨ (4 : Int) < (mems.length : Int) ∨ (4096 : Int) < (ins.length : Int) ∨ bad < 0 ∨ 1000 < bad := by omega
  have HD := Lib.hid hd'
  clear hd hd'
  generalize lat.length = n1 at *
  generalize mems.length = n2 at *
  generalize ins.length = n3 at *
  go_enter Tryz.func22, Tryz.ntmps22
  go_wp2
  all_goals first
    | (exfalso; have := HD.out; omega)
    | (go_ret; exact ⟨rfl, (Below.refl _ _).alloc (Nat.le_refl _) _⟩)
/-- What stands before the second loop's round. -/
def R15Rel (w : World) (cs : Array Value) (mems : List CS) (k : Nat) (wr : World) : Prop := (mems.take k).any wrongB = false ∧ Blk wr w.heap.size 29 cs ∧ Below w.heap.size w wr
set_option maxHeartbeats 4000000 in
theorem r15_Right_fine {w : World} {d : TrD} {vl vm vi : Value} (h : TrP w d vl vm vi) (hd : dimT d = true) : Calls Tryz.prog 22 #[trV d vl vm vi] w fun e w' => e = .returned (.bool (!(d.ins.any longB) && !(d.mems.any wrongB))) ∧ Below w.heap.size w w' := by
  obtain ⟨h1, h2, h3, h4, h5⟩ := dimT_parts hd
  obtain ⟨a1, c1, rfl⟩ := h.lat.len
  obtain ⟨a2, c2, rfl, -, -⟩ := h.mems.form
  obtain ⟨a3, c3, rfl, -, -⟩ := h.ins.form
  have H := Lib.hid h
  clear h hd
  unfold trV
  obtain ⟨lat, mems, ins, bad⟩ := d
  simp only at *
  obtain ⟨n1, hn1⟩ : ∃ n, n = lat.length := ⟨_, rfl⟩
  obtain ⟨n2, hn2⟩ : ∃ n, n = mems.length := ⟨_, rfl⟩
  obtain ⟨n3, hn3⟩ : ∃ n, n = ins.length := ⟨_, rfl⟩
  rw [← hn1, ← hn2, ← hn3]
  rw [← hn1] at h1
  rw [← hn2] at h2
  rw [← hn3] at h3
  have b1 : decide ((4096 : Int) < (n1 : Int)) = false := decide_eq_false (by omega)
  have b2 : decide ((4 : Int) < (n2 : Int)) = false := decide_eq_false (by omega)
  have b3 : decide ((4096 : Int) < (n3 : Int)) = false := decide_eq_false (by omega)
  have b4 : decide (bad < 0) = false := decide_eq_false (by omega)
  have b5 : decide (1000 < bad) = false := decide_eq_false (by omega)
  clear h1 h4 h5
  have HN2 := Lib.hid hn2
  have HN3 := Lib.hid hn3
  obtain ⟨cs, hcs⟩ : ∃ cs : Array Value, cs = #[.slice a1 n1 c1, .slice a2 n2 c2, .slice a3 n3 c3, .int .i64 bad] := ⟨_, rfl⟩
  have HBK : Hid (Blk (w.alloc (.cells #[.slice a1 n1 c1, .slice a2 n2 c2, .slice a3 n3 c3, .int .i64 bad] 29)) w.heap.size 29 cs) := Lib.hid (by rw [hcs]; exact Blk.new w 29 _)
  have HB0 : Hid (∀ x, Below w.heap.size w (w.alloc x)) := Lib.hid fun x => (Below.refl _ _).alloc (Nat.le_refl _) _
  have K1 : Hid (∀ wr, Blk wr w.heap.size 29 cs → wr.cell? ⟨w.heap.size, 1, none⟩ = some (.slice a2 n2 c2) ∧ wr.cell? ⟨w.heap.size, 2, none⟩ = some (.slice a3 n3 c3)) := Lib.hid fun wr hb => by
    rw [hcs] at hb
    exact ⟨hb.cell 1, hb.cell 2⟩
  clear hn1 hn2 hn3 hcs
  go_enter Tryz.func22, Tryz.ntmps22
  go_wp2
  clear b1 b2 b3 b4 b5
  go_loopw [3] (fun i wr => ∃ k : Nat, k ≤ n3 ∧ i = .int .i64 k ∧ (ins.take k).any longB = false ∧ Blk wr w.heap.size 29 cs ∧ Below w.heap.size w wr) (fun i _ => n3 - (intOf i).toNat)
  case atStart => exact ⟨0, Nat.zero_le _, rfl, rfl, HBK.out, HB0.out _⟩
  case round =>
    obtain ⟨k, hk, rfl, hany, hblk, hb⟩ := hrel
    obtain ⟨q1, q2⟩ := K1.out _ hblk
    have HB := Lib.hid hb
    have HBL := Lib.hid hblk
    by_cases hlt : (k : Int) < (n3 : Int)
    · have hkn : k < ins.length := by have := HN3.out; omega
      obtain ⟨b, off, cap2, he, u, hcell, hp⟩ := H.out.ins.at_ hkn
      injection he with e1 e2 e3
      subst e1
      have hc1 := cell_below hcell hb
      rw [Nat.mul_one] at hc1
      obtain ⟨au, cu, rfl⟩ := hp.len
      have hst : (ins.take (k + 1)).any longB = longB (ins.getD k []) := by
        rw [List.take_succ_eq_append_getElem hkn, List.any_append, hany]
        simp [List.getD, hkn]
      have HS := Lib.hid hst
      have HA : Hid (longB (ins.getD k []) = true → ins.any longB = true) := Lib.hid fun h => List.any_eq_true.2 ⟨_, List.getElem_mem hkn, by simpa [List.getD, hkn] using h⟩
      have hl : longB (ins.getD k []) = decide ((4096 : Int) < ((ins.getD k []).length : Int)) := by unfold longB; rw [decide_eq_decide]; omega
      rw [hl] at HA HS
      generalize (ins.getD k []).length = m at *
      clear hcell hp e2 e3 hany hst hb hblk hl
      by_cases hm : (4096 : Int) < (m : Int)
      · have HAA := Lib.hid (HA.out (decide_eq_true hm))
        clear HA HS
        go_wp2
        go_ret
        exact ⟨by rw [HAA.out]; rfl, HB.out⟩
      · have HS := Lib.hid (HS.out.trans (decide_eq_false hm))
        clear HA
        go_wp2
        go_roundw
        case rel => exact ⟨k + 1, by omega, by go_num, HS.out, HBL.out, HB.out⟩
        case measure => simp [intOf]; omega
    · have hkn : k = ins.length := by have := HN3.out; omega
      rw [hkn, List.take_length] at hany
      have HA := Lib.hid hany
      clear hany hkn hb hblk
      obtain ⟨wo, rfl⟩ : ∃ wo : World, wo = wr := ⟨_, rfl⟩
      go_wp2
      go_loopw [4] (fun i wr => ∃ k : Nat, k ≤ n2 ∧ i = .int .i64 k ∧ R15Rel w cs mems k wr) (fun i _ => n2 - (intOf i).toNat)
      case atStart => exact ⟨0, Nat.zero_le _, rfl, rfl, HBL.out, HB.out⟩
      case round =>
        obtain ⟨j, hj, rfl, hany, hblk, hb⟩ := hrel
        clear q1 q2
        obtain ⟨q1, q2⟩ := K1.out _ hblk
        have HB := Lib.hid hb
        have HBL := Lib.hid hblk
        by_cases hlj : (j : Int) < (n2 : Int)
        · have hkn : j < mems.length := by have := HN2.out; omega
          obtain ⟨b, off, cap2, he, u, hcell, hp⟩ := H.out.mems.at_ hkn
          injection he with e1 e2 e3
          subst e1
          have hc1 := cell_below hcell hb
          rw [Nat.mul_one] at hc1
          have hst : (mems.take (j + 1)).any wrongB = wrongB (mems.getD j []) := by
            rw [List.take_succ_eq_append_getElem hkn, List.any_append, hany]
            simp [List.getD, hkn]
          have HS := Lib.hid hst
          have HAA : Hid (wrongB (mems.getD j []) = true → mems.any wrongB = true) := Lib.hid fun h => List.any_eq_true.2 ⟨_, List.getElem_mem hkn, by simpa [List.getD, hkn] using h⟩
          have HR := Lib.hid (r11_Right (aw := 62) (ww := 64) (hp.below hb))
          unfold wrongB at HS HAA
          generalize rightB 62 64 (mems.getD j []) = r at *
          clear hcell hp e2 e3 hany hst hb hblk
          go_wp2_with fail
          refine HR.out.mono ?_
          rintro e w1 ⟨rfl, hb1⟩
          have HB1 := Lib.hid (HB.out.trans (hb1.mono HB.out.size))
          have HBL1 := Lib.hid (HBL.out.below hb1 HBL.out.lt)
          clear hb1
          cases r with
          | false =>
            have HX := Lib.hid (HAA.out rfl)
            clear HAA HS
            go_wp2
            go_ret
            exact ⟨by rw [show mems.any wrongB = true from HX.out]; simp, HB1.out⟩
          | true =>
            clear HAA
            go_wp2
            go_roundw
            case rel => exact ⟨j + 1, by omega, by go_num, HS.out, HBL1.out, HB1.out⟩
            case measure => simp [intOf]; omega
        · have hkn : j = mems.length := by have := HN2.out; omega
          rw [hkn, List.take_length] at hany
          have HX := Lib.hid hany
          clear hany hkn hb hblk
          go_wp2
          go_ret
          exact ⟨by rw [HX.out, HA.out]; rfl, HB.out⟩
theorem r15_Right {w : World} {d : TrD} {vl vm vi : Value} (h : TrP w d vl vm vi) : Calls Tryz.prog 22 #[trV d vl vm vi] w fun e w' => e = .returned (.bool (rightT d)) ∧ Below w.heap.size w w' := by
  unfold rightT
  cases hd : dimT d
  · exact r15_Right_dim h hd
  · rw [Bool.true_and]
    exact r15_Right_fine h hd
end Go.Proofs.YtibinmabdidecaaGreatDoor
