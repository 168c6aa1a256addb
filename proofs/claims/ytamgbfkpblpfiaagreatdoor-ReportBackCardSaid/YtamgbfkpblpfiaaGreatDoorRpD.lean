/-
  The document's Right of reports.
-/
import Derived.Test.YtamgbfkpblpfiaaGreatDoorRpC
namespace Go.Proofs.YtamgbfkpblpfiaaGreatDoor
open Go.ChangeShapes Go.WideShapes Go.ChangeAt Go.RowKit
set_option linter.unusedVariables false
theorem r37_within (n : Int) (w : World) : Calls Tryz.prog 65 #[.int .i64 n] w fun e w' => e = .returned (.bool (within n)) ∧ w = w' := by
  by_cases h0 : 0 ≤ n
  · have d1 : decide (0 ≤ n) = true := decide_eq_true h0
    have e : within n = decide (n ≤ 1099511627776) := by unfold within; rw [decide_eq_decide]; omega
    rw [e]
    clear e h0
    go_enter Tryz.func65, Tryz.ntmps65
    go_wp2
    go_ret
    exact ⟨rfl, rfl⟩
  · have d1 : decide (0 ≤ n) = false := decide_eq_false h0
    have e : within n = false := decide_eq_false fun h => h0 h.1
    rw [e]
    clear e h0
    go_enter Tryz.func65, Tryz.ntmps65
    go_wp2
    go_ret
    exact ⟨rfl, rfl⟩
theorem rR_with {d : RpD} (h : (within d.depth && within d.place && within d.calls && within d.conf) = false) : rightR d = false := withR_no h
theorem rR_all {d : RpD} (h1 : wordV d.verdict ≠ []) (h2 : nameV d.fault ≠ []) (h3 : d.ports.length ≤ 64) (h4 : withR d = true) (h5 : portsB d.ports = true) : rightR d = (lastR d && rightT d.tr) := by
  unfold rightR oneR
  rw [decide_eq_true h1, decide_eq_true h2, decide_eq_true h3, h4, h5]
  cases rightT d.tr <;> cases lastR d <;> rfl
set_option maxHeartbeats 8000000 in
set_option maxRecDepth 100000 in
theorem r37_Right {w : World} {d : RpD} {vl vm vi vp : Value} (h : RpP w d vl vm vi vp) : Calls Tryz.prog 26 #[rpV d vl vm vi vp] w (RightPost w (rightR d)) := by
  obtain ⟨a1, c1, hv1⟩ := h.tr.lat.len
  obtain ⟨a2, c2, hv2, -, -⟩ := h.tr.mems.form
  obtain ⟨a3, c3, hv3, -, -⟩ := h.tr.ins.form
  have hints := h.ports
  obtain ⟨a4, c4, hv4, -, hp1, hp2, hcells⟩ := h.ports
  have H := Lib.hid h
  have HCE := Lib.hid hcells
  obtain ⟨ans, hans⟩ : ∃ ans, ans = rightR d := ⟨_, rfl⟩
  rw [← hans]
  have hBx := RBx.new w (rpA d vl vm vi vp)
  have K : Hid (∀ W, RBx w (rpA d vl vm vi vp) W → W.cell? ⟨w.heap.size, 0, none⟩ = some (.int .i64 d.verdict) ∧ W.cell? ⟨w.heap.size, 1, none⟩ = some (.int .i64 d.depth) ∧ W.cell? ⟨w.heap.size, 2, none⟩ = some (.int .i64 d.fault) ∧ W.cell? ⟨w.heap.size, 3, none⟩ = some (.int .i64 d.place) ∧ W.cell? ⟨w.heap.size, 4, none⟩ = some vl ∧ W.cell? ⟨w.heap.size, 5, none⟩ = some vm ∧ W.cell? ⟨w.heap.size, 6, none⟩ = some vi ∧ W.cell? ⟨w.heap.size, 7, none⟩ = some (.int .i64 d.tr.bad) ∧ W.cell? ⟨w.heap.size, 8, none⟩ = some (.int .i64 d.calls) ∧ W.cell? ⟨w.heap.size, 9, none⟩ = some (.int .i64 d.conf) ∧ W.cell? ⟨w.heap.size, 10, none⟩ = some (.bool d.spent) ∧ W.cell? ⟨w.heap.size, 11, none⟩ = some vp) := Lib.hid fun W hW => load_agg12 hW.1
  have W1 := Lib.hid (fun W => r37_Word d.verdict W)
  have N1 := Lib.hid (fun W => r02_Name d.fault W)
  have T1 := Lib.hid (fun W (hW : Below w.heap.size w W) => r15_Right (h.tr.below hW))
  have S1 := Lib.hid (fun W (hW : Below w.heap.size w W) => r15_Same (h.tr.below hW) (tr0_at W))
  have I1 := Lib.hid (r37_within d.depth)
  have I2 := Lib.hid (r37_within d.place)
  have I3 := Lib.hid (r37_within d.calls)
  have I4 := Lib.hid (r37_within d.conf)
  unfold trV at T1 S1
  have B0 := Lib.hid hBx
  unfold rpV
  subst hv1 hv2 hv3 hv4
  obtain ⟨np, hnp⟩ : ∃ np, np = d.ports.length := ⟨_, rfl⟩
  rw [← hnp] at hp1 ⊢
  have hbig : np ≤ 9223372036854775807 := Nat.le_trans hp1 hp2
  have NP := Lib.hid hnp
  have HA := Lib.hid hans
  clear h hints hcells hnp hans hBx hp1 hp2
  rw [← NP.out] at K B0
  have e0 : bs [] = ⟨#[]⟩ := rfl
  have E0 := Lib.hid e0
  clear e0
  by_cases hw : wordV d.verdict = []
  · have HX := Lib.hid (HA.out.trans (oneR_word hw))
    rw [hw, E0.out] at W1
    obtain ⟨k0, k1, k2, k3, k4, k5, k6, k7, k8, k9, k10, k11⟩ := K.out _ B0.out
    clear hw HA
    go_enter Tryz.func26, Tryz.ntmps26
    go_wp2_with fail
    refine (W1.out _).mono ?_
    rintro e w1 ⟨rfl, hb⟩
    have B1 := Lib.hid (B0.out.below hb)
    clear hb
    go_wp2
    go_ret
    exact ⟨by rw [HX.out]; rfl, B1.out.2⟩
  obtain ⟨n1, n2⟩ := bs_str hw
  by_cases hf : nameV d.fault = []
  · have HX := Lib.hid (HA.out.trans (oneR_name hf))
    rw [hf, E0.out] at N1
    generalize bs (wordV d.verdict) = s1 at *
    clear hw hf HA
    go_enter Tryz.func26, Tryz.ntmps26
    go_wp2_with fail
    refine (W1.out _).mono ?_
    rintro e w1 ⟨rfl, hb⟩
    have B1 := Lib.hid (B0.out.below hb)
    obtain ⟨k0, k1, k2, k3, k4, k5, k6, k7, k8, k9, k10, k11⟩ := K.out _ B1.out
    clear hb
    go_wp2_with fail
    refine (N1.out _).mono ?_
    rintro e w2 ⟨rfl, hb⟩
    have B2 := Lib.hid (B1.out.below hb)
    clear hb
    go_wp2
    go_ret
    exact ⟨by rw [HX.out]; rfl, B2.out.2⟩
  obtain ⟨n3, n4⟩ := bs_str hf
  have HFIN : Hid (d.ports.length ≤ 64 → withR d = true → portsB d.ports = true → ans = (lastR d && rightT d.tr)) := Lib.hid fun h1 h2 h3 => HA.out.trans (rR_all hw hf h1 h2 h3)
  have HWN : Hid ((within d.depth && within d.place && within d.calls && within d.conf) = false → ans = false) := Lib.hid fun h => HA.out.trans (rR_with h)
  have HWY : Hid ((within d.depth && within d.place && within d.calls && within d.conf) = true → withR d = true) := Lib.hid fun h => h
  have HPL : Hid (¬ np ≤ 64 → ans = false) := Lib.hid fun h => HA.out.trans (oneR_ports (by rw [← NP.out]; exact h))
  have HPN : Hid (portsB d.ports = false → ans = false) := Lib.hid fun h => HA.out.trans (portsR_no h)
  generalize bs (wordV d.verdict) = s1 at *
  generalize bs (nameV d.fault) = s2 at *
  generalize within d.depth = i1 at *
  generalize within d.place = i2 at *
  generalize within d.calls = i3 at *
  generalize within d.conf = i4 at *
  clear hw hf E0 HA
  go_enter Tryz.func26, Tryz.ntmps26
  go_wp2_with fail
  refine (W1.out _).mono ?_
  rintro e w1 ⟨rfl, hb⟩
  have B1 := Lib.hid (B0.out.below hb)
  obtain ⟨k0, k1, k2, k3, k4, k5, k6, k7, k8, k9, k10, k11⟩ := K.out _ B1.out
  clear hb
  go_wp2_with fail
  refine (N1.out _).mono ?_
  rintro e w2 ⟨rfl, hb⟩
  have B2 := Lib.hid (B1.out.below hb)
  clear hb k0 k1 k2 k3 k4 k5 k6 k7 k8 k9 k10 k11
  obtain ⟨k0, k1, k2, k3, k4, k5, k6, k7, k8, k9, k10, k11⟩ := K.out _ B2.out
  go_wp2_with fail
  refine (I1.out _).mono ?_
  rintro e wz0 ⟨rfl, rfl⟩
  cases i1 with
  | false =>
    have HX := Lib.hid (HWN.out (by simp))
    go_wp2
    go_ret
    exact ⟨by rw [HX.out]; rfl, B2.out.2⟩
  | true =>
    go_wp2_with fail
    refine (I2.out _).mono ?_
    rintro e wz1 ⟨rfl, rfl⟩
    cases i2 with
    | false =>
      have HX := Lib.hid (HWN.out (by simp))
      go_wp2
      go_ret
      exact ⟨by rw [HX.out]; rfl, B2.out.2⟩
    | true =>
      go_wp2_with fail
      refine (I3.out _).mono ?_
      rintro e wz2 ⟨rfl, rfl⟩
      cases i3 with
      | false =>
        have HX := Lib.hid (HWN.out (by simp))
        go_wp2
        go_ret
        exact ⟨by rw [HX.out]; rfl, B2.out.2⟩
      | true =>
        go_wp2_with fail
        refine (I4.out _).mono ?_
        rintro e wz3 ⟨rfl, rfl⟩
        cases i4 with
        | false =>
          have HX := Lib.hid (HWN.out (by simp))
          go_wp2
          go_ret
          exact ⟨by rw [HX.out]; rfl, B2.out.2⟩
        | true =>
          have HWT := Lib.hid (HWY.out rfl)
          clear HWN HWY n1 n2 n3 n4
          by_cases hp : ¬ np ≤ 64
          · have HX := Lib.hid (HPL.out hp)
            have c1 : decide ((64 : Int) < (np : Int)) = true := decide_eq_true (by omega)
            clear hp
            go_wp2
            go_ret
            exact ⟨by rw [HX.out]; rfl, B2.out.2⟩
          have c1 : decide ((64 : Int) < (np : Int)) = false := decide_eq_false (by omega)
          have HF2 : Hid (portsB d.ports = true → ans = (lastR d && rightT d.tr)) := Lib.hid (HFIN.out (by rw [← NP.out]; omega) HWT.out)
          clear HPL HFIN hp
          go_wp2
          clear c1
          go_loopw [3] (fun i wi => ∃ k : Nat, k ≤ np ∧ i = .int .i64 k ∧ (∀ j, j < k → okP d.ports j = true) ∧ RBx w (rpA d (.slice a1 d.tr.lat.length c1) (.slice a2 d.tr.mems.length c2) (.slice a3 d.tr.ins.length c3) (.slice a4 np c4)) wi) (fun i _ => np - (intOf i).toNat)
          case atStart => exact ⟨0, Nat.zero_le _, rfl, fun _ h => absurd h (by omega), B2.out⟩
          case round =>
            obtain ⟨k, hk, rfl, hok, hrb⟩ := hrel
            clear k0 k1 k2 k3 k4 k5 k6 k7 k8 k9 k10 k11
            obtain ⟨k0, k1, k2, k3, k4, k5, k6, k7, k8, k9, k10, k11⟩ := K.out _ hrb
            have HOK := Lib.hid hok
            have B3 := Lib.hid hrb
            clear hok hrb
            by_cases hlt : (k : Int) < (np : Int)
            · have hkn : k < d.ports.length := by have := NP.out; omega
              obtain ⟨b, off, rfl, hcell⟩ := ints_cells HCE.out hkn
              have q := hcell _ B3.out.2
              obtain ⟨x, hx⟩ : ∃ x, x = d.ports.getD k 0 := ⟨_, rfl⟩
              rw [← hx] at q
              have HX := Lib.hid hx
              have HNO : Hid (okP d.ports k = false → ans = false) := Lib.hid fun h => HPN.out (portsB_no hkn h)
              clear hcell hx
              have hk0' : (0 : Int) ≤ (k : Int) := by omega
              by_cases hk0 : k = 0
              · have HE : Hid (okP d.ports k = decide (0 ≤ x ∧ x < 64)) := Lib.hid (by rw [okP_at HX.out (y := 0) (fun h => absurd h (by omega)), decide_eq_true hk0]; simp)
                have HK0 := Lib.hid hk0
                have d4 : decide ((0 : Int) < (k : Int)) = false := decide_eq_false (by omega)
                have d5 : decide (0 < k) = false := decide_eq_false (by omega)
                clear hk0
                by_cases hx0 : x < 0
                · have HZ : Hid (ans = false) := Lib.hid (HNO.out (by rw [HE.out]; exact decide_eq_false (fun h => by omega)))
                  have d1 : decide (x < 0) = true := decide_eq_true hx0
                  clear hx0
                  go_wp2
                  go_quiet (fail)
                  go_wp2
                  go_ret
                  exact ⟨by rw [HZ.out]; rfl, below_drewN B3.out.2 _⟩
                have d1 : decide (x < 0) = false := decide_eq_false hx0
                by_cases hx1 : 63 < x
                · have HZ : Hid (ans = false) := Lib.hid (HNO.out (by rw [HE.out]; exact decide_eq_false (fun h => by omega)))
                  have d2 : decide (63 < x) = true := decide_eq_true hx1
                  clear hx0 hx1
                  go_wp2
                  go_quiet (fail)
                  go_wp2
                  go_ret
                  exact ⟨by rw [HZ.out]; rfl, below_drewN B3.out.2 _⟩
                have d2 : decide (63 < x) = false := decide_eq_false hx1
                have HY : Hid (okP d.ports k = true) := Lib.hid (by rw [HE.out]; exact decide_eq_true ⟨by omega, by omega⟩)
                clear hx0 hx1
                go_wp2
                go_quiet (fail)
                go_wp2
                go_roundw
                case rel =>
                  refine ⟨k + 1, by omega, by go_num, fun j hj => ?_, B3.out.1, below_drewN B3.out.2 _⟩
                  rw [show j = k by have := HK0.out; omega]
                  exact HY.out
                case measure => simp [intOf]; omega
              · obtain ⟨m, hm⟩ : ∃ m, m + 1 = k := ⟨k - 1, by omega⟩
                obtain ⟨b', off', he, hcell⟩ := ints_cells HCE.out (show m < d.ports.length by omega)
                injection he with he
                injection he with e1 e2 _
                subst e1 e2
                have q3 := hcell _ B3.out.2
                obtain ⟨y, hy⟩ : ∃ y, y = d.ports.getD m 0 := ⟨_, rfl⟩
                rw [← hy] at q3
                have HE : Hid (okP d.ports k = (decide (0 ≤ x ∧ x < 64) && decide (y < x))) := Lib.hid (by rw [okP_at HX.out (y := y) (fun _ => by rw [hy, ← hm]; rfl), decide_eq_false hk0]; simp)
                have d4 : decide ((0 : Int) < (k : Int)) = true := decide_eq_true (by omega)
                have d5 : decide (0 < k) = true := decide_eq_true (by omega)
                have hml : (m : Int) < (np : Int) := by omega
                have hwr : IntKind.i64.wrap ((k : Int) - 1) = (m : Int) := by rw [IntWalk.i64_in _ (by omega)]; omega
                have HM := Lib.hid hm
                clear hcell hy hk0 hm
                by_cases hx0 : x < 0
                · have HZ : Hid (ans = false) := Lib.hid (HNO.out (by rw [HE.out, decide_eq_false (fun h => by omega : ¬ (0 ≤ x ∧ x < 64))]; rfl))
                  have d1 : decide (x < 0) = true := decide_eq_true hx0
                  clear hx0
                  go_wp2
                  go_quiet (fail)
                  go_wp2
                  go_ret
                  exact ⟨by rw [HZ.out]; rfl, below_drewN B3.out.2 _⟩
                have d1 : decide (x < 0) = false := decide_eq_false hx0
                by_cases hx1 : 63 < x
                · have HZ : Hid (ans = false) := Lib.hid (HNO.out (by rw [HE.out, decide_eq_false (fun h => by omega : ¬ (0 ≤ x ∧ x < 64))]; rfl))
                  have d2 : decide (63 < x) = true := decide_eq_true hx1
                  clear hx0 hx1
                  go_wp2
                  go_quiet (fail)
                  go_wp2
                  go_ret
                  exact ⟨by rw [HZ.out]; rfl, below_drewN B3.out.2 _⟩
                have d2 : decide (63 < x) = false := decide_eq_false hx1
                by_cases hxy : x ≤ y
                · have HZ : Hid (ans = false) := Lib.hid (HNO.out (by rw [HE.out, decide_eq_false (by omega : ¬ y < x)]; simp))
                  have d3 : decide (x ≤ y) = true := decide_eq_true hxy
                  clear hx0 hx1 hxy
                  go_wp2
                  go_quiet (fail)
                  go_wp2
                  go_ret
                  exact ⟨by rw [HZ.out]; rfl, below_drewN B3.out.2 _⟩
                have d3 : decide (x ≤ y) = false := decide_eq_false hxy
                have HY : Hid (okP d.ports k = true) := Lib.hid (by rw [HE.out, decide_eq_true (⟨by omega, by omega⟩ : 0 ≤ x ∧ x < 64), decide_eq_true (by omega : y < x)]; rfl)
                clear hx0 hx1 hxy
                go_wp2
                go_quiet (fail)
                go_wp2
                go_roundw
                case rel =>
                  refine ⟨k + 1, by omega, by go_num, fun j hj => ?_, B3.out.1, below_drewN B3.out.2 _⟩
                  rcases Nat.lt_or_ge j k with h1 | h1
                  · exact HOK.out j h1
                  · rw [show j = k by omega]; exact HY.out
                case measure => simp [intOf]; omega
            · have hkn : k = d.ports.length := by have := NP.out; omega
              have HL : Hid (ans = (lastR d && rightT d.tr)) := Lib.hid (HF2.out (portsB_yes (fun j hj => HOK.out j (by omega))))
              clear hkn
              by_cases hv : d.verdict = 2
              · have HT : Hid (ans = rightT d.tr) := Lib.hid (by rw [HL.out]; unfold lastR; rw [hv]; rfl)
                have hvb : (d.verdict != 2) = false := by rw [hv]; rfl
                have TT := Lib.hid (T1.out _ B3.out.2)
                generalize rightT d.tr = rt at *
                clear hv HL T1 HF2
                go_wp2_with fail
                refine TT.out.mono ?_
                rintro e w4 ⟨rfl, hb⟩
                have B4 := Lib.hid (B3.out.below hb)
                clear hb
                go_wp2
                go_ret
                exact ⟨by rw [HT.out]; rfl, B4.out.2⟩
              · have hvb : (d.verdict != 2) = true := by rw [bne_iff_ne]; exact hv
                have HT : Hid (ans = (sameT d.tr tr0 && rightT d.tr)) := Lib.hid (by
                  rw [HL.out]; unfold lastR
                  have : (d.verdict == 2) = false := by rw [beq_eq_false_iff_ne]; exact hv
                  rw [this, Bool.false_or])
                have SS := Lib.hid (S1.out _ B3.out.2)
                unfold tr0 at SS HT
                generalize sameT d.tr ⟨[], [], [], 0⟩ = sm at *
                clear hv HL HF2
                go_wp2_with fail
                refine SS.out.mono ?_
                rintro e w4 ⟨rfl, hb⟩
                have B4 := Lib.hid (B3.out.below hb)
                clear hb k0 k1 k2 k3 k4 k5 k6 k7 k8 k9 k10 k11
                obtain ⟨k0, k1, k2, k3, k4, k5, k6, k7, k8, k9, k10, k11⟩ := K.out _ B4.out
                cases sm with
                | false =>
                  go_wp2
                  go_ret
                  exact ⟨by rw [HT.out]; rfl, B4.out.2⟩
                | true =>
                  have TT := Lib.hid (T1.out _ B4.out.2)
                  generalize rightT d.tr = rt at *
                  clear T1
                  go_wp2_with fail
                  refine TT.out.mono ?_
                  rintro e w5 ⟨rfl, hb⟩
                  have B5 := Lib.hid (B4.out.below hb)
                  clear hb
                  go_wp2
                  go_ret
                  exact ⟨by rw [HT.out]; rfl, B5.out.2⟩
end Go.Proofs.YtamgbfkpblpfiaaGreatDoor
