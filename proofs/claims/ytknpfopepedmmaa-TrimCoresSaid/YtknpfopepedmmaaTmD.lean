/-
  Package trim: what is needed, walked.
-/
import Derived.Test.YtknpfopepedmmaaTmC
namespace Go.Proofs.Ytknpfopepedmmaa
open Go Go.ChangeShapes Go.WideShapes Go.ChangeAt Go.RowKit Go.Maps
set_option linter.unusedVariables false
set_option linter.unusedSimpArgs false
/-- Which are needed, in memory of the call's own. -/
structure OutB (w wr : World) (g n : Nat) (M : List Bool) : Prop where
  r : Row wr 4 1 (.slice (some ⟨g, 0, none⟩) n n) n (M.map Value.bool)
  b : Below w.heap.size w wr
  l : M.length = n
theorem OutB.set {w wr : World} {g n : Nat} {M : List Bool} (h : OutB w wr g n M) (hg : w.heap.size ≤ g) (k : Nat) : OutB w (wr.setCell ⟨g, k, none⟩ (.bool true)) g n (M.set k true) := by
  have hc : Chg (fun i => i = g) wr (wr.setCell ⟨g, k, none⟩ (.bool true)) := (Chg.refl (fun i => i = g) wr).setCell (p := ⟨g, k, none⟩) (.inl rfl) _
  refine ⟨?_, h.b.trans (hc.below h.b.size (fun i hi => by rw [hi]; exact hg)), by rw [List.length_set]; exact h.l⟩
  rw [List.map_set]
  exact h.r.set1 k (.bool true)
theorem OutB.cell {w wr : World} {g n : Nat} {M : List Bool} (h : OutB w wr g n M) {k : Nat} (hk : k < n) : wr.cell? ⟨g, k, none⟩ = some (.bool (M.getD k false)) ∧ wr.frozen? ⟨g, k, none⟩ = false := by
  obtain ⟨h1, h2⟩ := h.r.at1 k hk
  refine ⟨?_, h2⟩
  rw [h1, List.getD_eq_getElem?_getD, List.getElem?_map, List.getElem?_eq_getElem (by rw [h.l]; exact hk), List.getD_eq_getElem?_getD, List.getElem?_eq_getElem (by rw [h.l]; exact hk)]
  rfl
theorem natI_get {R : List Nat} {k : Nat} (hk : k < R.length) : (natI R).getD k 0 = ((R.getD k 0 : Nat) : Int) := by
  unfold natI
  rw [List.getD_eq_getElem?_getD, List.getElem?_map, List.getElem?_eq_getElem hk, List.getD_eq_getElem?_getD, List.getElem?_eq_getElem hk]
  rfl
theorem markL_take {o : List Bool} {R : List Nat} {k : Nat} (hk : k < R.length) : markL o (R.take (k + 1)) = (markL o (R.take k)).set (R.getD k 0) true := by
  rw [List.take_succ_eq_append_getElem hk, markL_snoc, List.getD_eq_getElem?_getD, List.getElem?_eq_getElem hk]; rfl
theorem nat_in {R : List Nat} {k : Nat} (hk : k < R.length) : R.getD k 0 ∈ R := by rw [List.getD_eq_getElem?_getD, List.getElem?_eq_getElem hk]; exact List.getElem_mem hk
/-- A slice of places, read from any later world. -/
theorem nat_cells {w : World} {u : Value} {R : List Nat} (h : Ints w u (natI R)) : ∃ a c, u = .slice a R.length c ∧ R.length ≤ 9223372036854775807 ∧ ∀ k, k < R.length → ∃ b off, a = some ⟨b, off, none⟩ ∧ ∀ W, Below w.heap.size w W → W.cell? ⟨b, off + k, none⟩ = some (.int .i64 ((R.getD k 0 : Nat) : Int)) := by
  obtain ⟨a, c, e, -, h1, h2, h3⟩ := h
  rw [natI_len] at e h1
  refine ⟨a, c, e, Nat.le_trans h1 h2, fun k hk => ?_⟩
  obtain ⟨b, off, h4, h5⟩ := h3.resolve_left (fun e => by rw [← natI_len, e] at hk; simp at hk)
  refine ⟨b, off, h4, fun W hW => ?_⟩
  have h6 := h5 k (by rw [natI_len]; exact hk)
  rw [natI_get hk] at h6
  exact (hW.cell (p := ⟨b, off + k, none⟩) (World.block_lt_of_cell? w _ h6)).trans h6
section
variable {w wr : World} {rb r : Nat} {S : RS} {hv tv : Value} {us : List Value} {ws : List (List Nat)} {ts : List Nat} {E : Nat → Prop}
theorem RecX.whyAt (h : RecX w wr rb r S hv tv us ws ts E) {j : Nat} (hj : j < ws.length) : ∃ g cap ua uc, hv = .slice (some ⟨g, 0, none⟩) ws.length cap ∧ wr.cell? ⟨g, j, none⟩ = some (.slice ua (ws.getD j []).length uc) ∧ Ints wr (.slice ua (ws.getD j []).length uc) (natI (ws.getD j [])) := by
  have hlu : us.length = ws.length := by rw [h.c.1, List.length_map]
  rcases h.h.form with ⟨-, h0, -⟩ | ⟨g, cap, e, -, -, -, hc⟩
  · omega
  · have h1 := (h.c.2 j (by rw [List.length_map]; exact hj)).1
    have e2 : (ws.map natI).getD j [] = natI (ws.getD j []) := by
      rw [List.getD_eq_getElem?_getD, List.getElem?_map, List.getElem?_eq_getElem hj, List.getD_eq_getElem?_getD, List.getElem?_eq_getElem hj]; rfl
    rw [e2] at h1
    obtain ⟨ua, uc, e3, -⟩ := id h1
    rw [natI_len] at e3
    have hc := (hc j (by rw [hlu]; exact hj)).1
    rw [e3] at hc h1
    exact ⟨g, cap, ua, uc, e, hc, h1⟩
set_option maxHeartbeats 4000000 in
set_option maxRecDepth 100000 in
theorem trim_needed {z : World} (h : RecX w z rb r S hv tv us ws ts E) (hwl : ws.length ≤ 9999) (hw : ∀ j, j < ws.length → ∀ i ∈ ws.getD j [], i < j) {u : Value} {R : List Nat} (hu : Ints z u (natI R)) (hR : ∀ i ∈ R, i < ws.length) :
    Calls Try.prog 61 #[rp rb, u] z fun e w' => e = .returned (.slice (some ⟨z.heap.size, 0, none⟩) ws.length ws.length) ∧ OutB z w' z.heap.size ws.length (need ws R) := by
  have c1 : z.cell? ⟨rb, 1, none⟩ = some hv := h.b.cell 1
  obtain ⟨hn, hc, hve⟩ := h.formH
  subst hve
  obtain ⟨n, hnn⟩ : ∃ n, n = ws.length := ⟨_, rfl⟩
  obtain ⟨ua, uc, rfl, hrm, hcell⟩ := nat_cells hu
  obtain ⟨rn, hrn⟩ : ∃ rn, rn = R.length := ⟨_, rfl⟩
  have hmk := fun W => run_makeN (P := Try.prog) 27 4 (.bool false) 1 1 Try.underlying27 infoBT .i64 .i64 n n (Nat.le_refl _) (by omega) (by omega) W
  have hw1 : IntKind.i64.wrap ((n : Int) - 1) = (n : Int) - 1 := IntWalk.i64_in _ (by omega)
  have C1 : Hid (∀ W, Below z.heap.size z W → W.cell? ⟨rb, 1, none⟩ = some (.slice hn n hc)) := Lib.hid fun W hW => by rw [hnn]; exact (h.below hW).b.cell 1
  have HK := Lib.hid h
  have HWL := Lib.hid hwl
  have HW := Lib.hid hw
  have HR := Lib.hid hR
  have HN := Lib.hid hnn
  have HRN := Lib.hid hrn
  have HCE := Lib.hid hcell
  rw [← hnn] at c1 hwl ⊢
  rw [← hrn] at hrm
  rw [← hrn]
  obtain ⟨g, hg⟩ : ∃ g, g = z.heap.size := ⟨_, rfl⟩
  obtain ⟨wA, hwA⟩ : ∃ wA, wA = z.alloc (.cells (madeCells #[.bool false] n) 4) := ⟨_, rfl⟩
  have HO0 : Hid (OutB z wA g n (List.replicate n false)) := Lib.hid (by
    rw [hwA, hg]
    refine ⟨?_, below_new1 z _, by simp⟩
    have := Row.made z 4 #[.bool false] 1 n n rfl (by decide) (Nat.le_refl _) (by unfold maxLen; omega)
    rw [Nat.mul_one] at this
    have e : (List.replicate n (#[Value.bool false] : Array Value).toList).flatten = (List.replicate n false).map Value.bool := by
      rw [List.map_replicate]
      show (List.replicate n [Value.bool false]).flatten = _
      rw [List.flatten_replicate_singleton]
    rw [e] at this
    exact this)
  have HG := Lib.hid hg
  have HGL : Hid (z.heap.size ≤ g) := Lib.hid (by omega)
  have HWA := Lib.hid hwA
  clear h hw hu hR hnn hrn hcell hwA
  go_enter Try.func61, Try.ntmps61
  go_wp2
  go_step3
  go_wp2
  rw [← HWA.out, ← HG.out]
  clear hmk c1 hg
  go_loopw [19] (fun i WW => ∃ k : Nat, k ≤ rn ∧ i = .int .i64 (k : Nat) ∧ OutB z WW g n (markL (List.replicate n false) (R.take k))) (fun i _ => rn - (intOf i).toNat)
  case atStart => exact ⟨0, Nat.zero_le _, rfl, HO0.out⟩
  case round =>
    obtain ⟨k, hk, rfl, hO⟩ := hrel
    have HO := Lib.hid hO
    by_cases hlt : (k : Int) < (rn : Int)
    · have hkr : k < R.length := by have := HRN.out; omega
      obtain ⟨b, off, rfl, hcl⟩ := HCE.out k hkr
      have q1 := hcl wr hO.b
      have hin := HR.out _ (nat_in hkr)
      have HST : Hid (OutB z (wr.setCell ⟨g, R.getD k 0, none⟩ (.bool true)) g n (markL (List.replicate n false) (R.take (k + 1)))) := Lib.hid (by
        rw [markL_take hkr]
        exact hO.set HGL.out _)
      generalize R.getD k 0 = y at q1 hin HST
      have hyn : y < n := by have := HN.out; omega
      obtain ⟨q2, q3⟩ := hO.cell hyn
      generalize List.getD (markL (List.replicate n false) (List.take k R)) y false = old at q2
      have hyi : (y : Int) < (n : Int) := by omega
      clear hkr hcl hin hO
      go_wp2
      go_roundw
      case rel => exact ⟨k + 1, by omega, by go_num, HST.out⟩
      case measure => simp [intOf]; try omega
    · have hkr : k = rn := by omega
      have hf : OutB z wr g n (markL (List.replicate n false) R) := by
        rw [hkr, HRN.out, List.take_length] at hO; exact hO
      have HF := Lib.hid hf
      have c1 := C1.out wr hO.b
      have HN0 : Hid (needF ws n (markL (List.replicate n false) R) = need ws R) := Lib.hid (by unfold need; rw [HN.out])
      clear hO hf hkr
      go_wp2
      go_step3
      go_wp2
      go_loopw [8] (fun i WW => ∃ (m : Nat) (M : List Bool), m ≤ n ∧ i = .int .i64 ((m : Int) - 1) ∧ needF ws m M = need ws R ∧ OutB z WW g n M) (fun i _ => (intOf i + 1).toNat)
      case atStart => exact ⟨n, _, Nat.le_refl _, rfl, HN0.out, HF.out⟩
      case round =>
        obtain ⟨m, M, hm, rfl, hne, hO⟩ := hrel
        have HO := Lib.hid hO
        have HNE := Lib.hid hne
        clear hne
        rcases Nat.eq_zero_or_pos m with h0 | hpos
        · subst h0
          have HF2 : Hid (OutB z wr g n (need ws R)) := Lib.hid (by rw [← HNE.out]; exact hO)
          clear hO
          have hneg : ¬ ((0 : Int) ≤ ((0 : Nat) : Int) - 1) := by omega
          go_wp2
          go_ret
          rw [← HG.out]
          exact ⟨rfl, HF2.out⟩
        · obtain ⟨j, rfl⟩ : ∃ j, m = j + 1 := ⟨m - 1, by omega⟩
          have e1 : (((j + 1 : Nat) : Int) - 1) = (j : Int) := by omega
          rw [e1]
          have hw2 : IntKind.i64.wrap ((j : Int) - 1) = (j : Int) - 1 := IntWalk.i64_in _ (by omega)
          have hj0 : (0 : Int) ≤ (j : Int) := by omega
          have hjn : (j : Int) < (n : Int) := by omega
          obtain ⟨q2, q3⟩ := hO.cell (k := j) (by omega)
          obtain ⟨bit, hbit⟩ : ∃ bit, bit = M.getD j false := ⟨_, rfl⟩
          rw [← hbit] at q2
          have HBIT := Lib.hid hbit
          cases bit with
          | false =>
            have HNX : Hid (needF ws j M = need ws R) := Lib.hid (by
              have := HNE.out
              rw [needF, ← hbit, if_neg (by decide)] at this
              exact this)
            clear hO hbit e1
            go_wp2
            go_roundw
            case rel => exact ⟨j, M, by omega, rfl, HNX.out, HO.out⟩
            case measure => simp [intOf]; try omega
          | true =>
            have HNX : Hid (needF ws j (markL M (ws.getD j [])) = need ws R) := Lib.hid (by
              have := HNE.out
              rw [needF, ← hbit, if_pos rfl] at this
              exact this)
            have hjw : j < ws.length := by have := HN.out; omega
            obtain ⟨g2, cap2, va, vc, hve, qv, hiv⟩ := HK.out.whyAt hjw
            have qv := cellB qv hO.b
            have c1 := C1.out wr hO.b
            rw [← HN.out] at hve
            injection hve with v1 v2 v3
            subst v1
            obtain ⟨a3, c3, he3, hrm2, hcl2⟩ := nat_cells hiv
            injection he3 with w1 w2 w3
            subst w1
            obtain ⟨W3, hW3⟩ : ∃ W3, W3 = ws.getD j [] := ⟨_, rfl⟩
            have hlt3 := HW.out j hjw
            rw [← hW3] at qv hcl2 hlt3 hrm2
            rw [← hW3] at HNX
            obtain ⟨pn, hpn⟩ : ∃ pn, pn = W3.length := ⟨_, rfl⟩
            rw [← hpn] at qv hrm2
            have HC3 := Lib.hid hcl2
            have HL3 := Lib.hid hlt3
            have HPN := Lib.hid hpn
            have HOB := hO.b
            have HOB := Lib.hid HOB
            clear hO hbit e1 hiv w2 w3 v2 v3 hcl2 hlt3 hpn hW3 hjw
            go_wp2
            go_loopw [50] (fun i WW => ∃ k : Nat, k ≤ pn ∧ i = .int .i64 (k : Nat) ∧ OutB z WW g n (markL M (W3.take k))) (fun i _ => pn - (intOf i).toNat)
            case atStart => exact ⟨0, Nat.zero_le _, rfl, HO.out⟩
            case round =>
              obtain ⟨k, hk, rfl, hO⟩ := hrel
              have HO := Lib.hid hO
              by_cases hlt : (k : Int) < (pn : Int)
              · have hkr : k < W3.length := by have := HPN.out; omega
                obtain ⟨b, off, rfl, hcl⟩ := HC3.out k hkr
                have q1 := hcl wr hO.b
                have hin := HL3.out _ (nat_in hkr)
                have HST : Hid (OutB z (wr.setCell ⟨g, W3.getD k 0, none⟩ (.bool true)) g n (markL M (W3.take (k + 1)))) := Lib.hid (by
                  rw [markL_take hkr]
                  exact hO.set HGL.out _)
                generalize W3.getD k 0 = y at q1 hin HST
                obtain ⟨q2, q3⟩ := hO.cell (k := y) (by omega)
                generalize List.getD (markL M (List.take k W3)) y false = old at q2
                have hyi : (y : Int) < (n : Int) := by omega
                clear hkr hcl hin hO
                go_wp2
                go_roundw
                case rel => exact ⟨k + 1, by omega, by go_num, HST.out⟩
                case measure => simp [intOf]; try omega
              · have hkr : k = pn := by omega
                have hf : OutB z wr g n (markL M W3) := by
                  rw [hkr, HPN.out, List.take_length] at hO; exact hO
                have HF := Lib.hid hf
                clear hO hf hkr
                go_wp2
                go_roundw
                case rel => exact ⟨j, _, by omega, rfl, HNX.out, HF.out⟩
                case measure => simp [intOf]; try omega
end
end Go.Proofs.Ytknpfopepedmmaa
