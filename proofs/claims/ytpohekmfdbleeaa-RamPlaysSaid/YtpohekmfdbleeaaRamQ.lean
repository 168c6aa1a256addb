/-
  The reference's Right.
-/
import Derived.Test.YtpohekmfdbleeaaRamR
import Derived.IntWalk
namespace Go.Proofs.Ytpohekmfdbleeaa
open Go.ChangeShapes Go.WideShapes Go.ChangeAt Go.RowKit Go.Maps
set_option linter.unusedVariables false
theorem r10_Fits_q (x n : Int) (h0 : 0 ≤ x) (h1 : x < 18446744073709551616) (w : World) : Calls Try.prog 17 #[.int .u64 x, .int .i64 n] w fun e w' => e = .returned (.bool (fitsB x n)) ∧ w' = w :=
  (r10_Fits x n h0 h1 w).mono fun _ _ ⟨a, b⟩ => ⟨a, b.symm⟩
theorem r11_Right_dim {aw ww : Int} {cs : CS} {w : World} {v : Value} (h : Pairs w v cs) (hd : (dimB aw ww && decide (cs.length ≤ 4096)) = false) :
    Calls Try.prog 9 #[.int .i64 aw, .int .i64 ww, v] w fun e w' => e = .returned (.bool false) ∧ w = w' := by
  obtain ⟨a, cap, rfl, -, -, -, -⟩ := h
  have hd' : aw < 1 ∨ 62 < aw ∨ ww < 1 ∨ 64 < ww ∨ (4096 : Int) < (cs.length : Int) := by
    unfold dimB at hd
    simp only [Bool.and_eq_false_iff, decide_eq_false_iff_not] at hd
    omega
  have HD := Lib.hid hd'
  clear hd hd'
  go_enter Try.func9, Try.ntmps9
  go_wp2
  all_goals first
    | (go_ret; exact ⟨rfl, rfl⟩)
    | (exfalso; have := HD.out; omega)
set_option maxHeartbeats 2000000 in
set_option maxRecDepth 100000 in
theorem r11_Right_loop {aw ww : Int} {cs : CS} {w : World} {v : Value} (h : Pairs w v cs) (hd : dimB aw ww = true) (hl : cs.length ≤ 4096) :
    Calls Try.prog 9 #[.int .i64 aw, .int .i64 ww, v] w fun e w' => e = .returned (.bool ((List.range cs.length).all (okAt aw ww cs))) ∧ Below w.heap.size w w' := by
  obtain ⟨a, cap, rfl, hc1, hc2, hwf, hv⟩ := h
  obtain ⟨d1, d2, d3, d4⟩ := of_decide_eq_true hd
  obtain ⟨ans, hans⟩ : ∃ ans, ans = (List.range cs.length).all (okAt aw ww cs) := ⟨_, rfl⟩
  rw [← hans]
  obtain ⟨n, hn⟩ : ∃ n, n = cs.length := ⟨_, rfl⟩
  rw [← hn] at hl hc1 ⊢
  have HA := Lib.hid hans
  clear hans
  have HN := Lib.hid hn
  have HV := Lib.hid hv
  have HW := Lib.hid hwf
  clear hv hwf hn hd
  go_enter Try.func9, Try.ntmps9
  go_wp2
  go_loopw [7] (fun i wr => ∃ k : Nat, k ≤ n ∧ i = .int .i64 k ∧ RightRel aw ww cs k w wr) (fun i _ => n - (intOf i).toNat)
  case atStart => exact ⟨0, Nat.zero_le _, rfl, fun _ h => absurd h (by omega), Below.refl _ _⟩
  case round =>
    obtain ⟨k, hk, rfl, hrel⟩ := hrel
    by_cases hlt : (k : Int) < (n : Int)
    · have hne : cs ≠ [] := fun e => by have := HN.out; rw [e] at this; simp at this; omega
      obtain ⟨b, off, rfl, hbl, hcell⟩ := HV.out.resolve_left hne
      obtain ⟨q1, q2⟩ := hcell k (by have := HN.out; omega)
      have hbw : ∀ j, wr.cell? ⟨b, j, none⟩ = w.cell? ⟨b, j, none⟩ := fun j => World.cell?_of_block (w := w) (hrel.2.block b hbl) 
      obtain ⟨⟨x0, x1⟩, ⟨v0, v1⟩⟩ := wf_getD HW.out k
      obtain ⟨x, hx⟩ : ∃ x, x = (cs.getD k (0, 0)).1 := ⟨_, rfl⟩
      obtain ⟨u, hu⟩ : ∃ u, u = (cs.getD k (0, 0)).2 := ⟨_, rfl⟩
      rw [← hx] at q1 x0 x1
      rw [← hu] at q2 v0 v1
      rw [← hbw] at q1 q2
      have hok : okAt aw ww cs k = (!(u == 0) && fitsB x aw && fitsB u ww && (decide (k = 0) || decide ((cs.getD (k - 1) (0, 0)).1 < x))) := by unfold okAt; rw [← hx, ← hu]
      have HK := Lib.hid hok
      have HR := Lib.hid hrel
      have HC := Lib.hid hcell
      have HB := Lib.hid hbw
      clear hok hrel hx hu hcell hbw hne
      by_cases hk0 : k = 0
      · have hp : decide ((0 : Int) < (k : Int)) = false := decide_eq_false (by omega)
        have hp' : decide (0 < k) = false := decide_eq_false (by omega)
        have HZ := Lib.hid hk0
        clear hk0
        cases hf : fitsB x aw
        · go_wp2
          go_quiet ((go_at_call 17; exact Calls.quiet_of_same (r10_Fits_q _ _ (by assumption) (by assumption) _)))
          go_wp2
          go_ret
          exact ⟨by rw [HA.out, all_no (k := k) (by have := HN.out; omega) (by rw [HK.out]; rw [hf]; simp)]; rfl, below_drewN HR.out.2 _⟩
        cases hg : fitsB u ww
        · go_wp2
          go_quiet ((go_at_call 17; exact Calls.quiet_of_same (r10_Fits_q _ _ (by assumption) (by assumption) _)))
          go_wp2
          go_ret
          exact ⟨by rw [HA.out, all_no (k := k) (by have := HN.out; omega) (by rw [HK.out]; rw [hf, hg]; simp)]; rfl, below_drewN HR.out.2 _⟩
        by_cases hu0 : u = 0
        · have hub : (u == 0) = true := by rw [beq_iff_eq]; exact hu0
          clear hu0
          go_wp2
          go_quiet ((go_at_call 17; exact Calls.quiet_of_same (r10_Fits_q _ _ (by assumption) (by assumption) _)))
          go_wp2
          go_ret
          exact ⟨by rw [HA.out, all_no (k := k) (by have := HN.out; omega) (by rw [HK.out]; rw [hub]; rfl)]; rfl, below_drewN HR.out.2 _⟩
        · have hub : (u == 0) = false := by rw [beq_eq_false_iff_ne]; exact hu0
          clear hu0
          go_wp2
          go_quiet ((go_at_call 17; exact Calls.quiet_of_same (r10_Fits_q _ _ (by assumption) (by assumption) _)))
          go_wp2
          go_roundw
          case rel => exact ⟨k + 1, by omega, by go_num, HR.out.step (by rw [HK.out]; rw [hub, hf, hg, HZ.out]; rfl) (below_drewN HR.out.2 _)⟩
          case measure => simp [intOf]; omega
      · obtain ⟨m, hm⟩ : ∃ m, m + 1 = k := ⟨k - 1, by omega⟩
        obtain ⟨q3, -⟩ := HC.out m (by have := HN.out; omega)
        obtain ⟨y, hy⟩ : ∃ y, y = (cs.getD m (0, 0)).1 := ⟨_, rfl⟩
        rw [← hy] at q3
        have hp : decide ((0 : Int) < (k : Int)) = true := decide_eq_true (by omega)
        have hp' : decide (0 < k) = true := decide_eq_true (by omega)
        have hkm : k - 1 = m := by omega
        have HK2 : Hid (okAt aw ww cs k = (!(u == 0) && fitsB x aw && fitsB u ww && decide (y < x))) := Lib.hid (by rw [HK.out, hkm, ← hy]; have : decide (k = 0) = false := decide_eq_false hk0; rw [this]; simp)
        rw [← HB.out] at q3
        have hml : (m : Int) < (n : Int) := by omega
        have hw : IntKind.i64.wrap ((k : Int) - 1) = (m : Int) := by rw [IntWalk.i64_in _ (by omega)]; omega
        have HM := Lib.hid hm
        clear hkm hy hm HK
        have HK := HK2
        clear HK2
        by_cases hyx : x ≤ y
        · have hc : decide (x ≤ y) = true := decide_eq_true (by omega)
          have HY : Hid (decide (y < x) = false) := Lib.hid (decide_eq_false (by omega))
          clear hyx
          go_wp2
          go_quiet ((go_at_call 17; exact Calls.quiet_of_same (r10_Fits_q _ _ (by assumption) (by assumption) _)))
          go_wp2
          go_ret
          exact ⟨by rw [HA.out, all_no (k := k) (by have := HN.out; omega) (by rw [HK.out]; rw [HY.out]; simp)]; rfl, below_drewN HR.out.2 _⟩
        have hc : decide (x ≤ y) = false := decide_eq_false (by omega)
        have HY : Hid (decide (y < x) = true) := Lib.hid (decide_eq_true (by omega))
        clear hyx
        cases hf : fitsB x aw
        · go_wp2
          go_quiet ((go_at_call 17; exact Calls.quiet_of_same (r10_Fits_q _ _ (by assumption) (by assumption) _)))
          go_wp2
          go_ret
          exact ⟨by rw [HA.out, all_no (k := k) (by have := HN.out; omega) (by rw [HK.out]; rw [hf]; simp)]; rfl, below_drewN HR.out.2 _⟩
        cases hg : fitsB u ww
        · go_wp2
          go_quiet ((go_at_call 17; exact Calls.quiet_of_same (r10_Fits_q _ _ (by assumption) (by assumption) _)))
          go_wp2
          go_ret
          exact ⟨by rw [HA.out, all_no (k := k) (by have := HN.out; omega) (by rw [HK.out]; rw [hf, hg]; simp)]; rfl, below_drewN HR.out.2 _⟩
        by_cases hu0 : u = 0
        · have hub : (u == 0) = true := by rw [beq_iff_eq]; exact hu0
          clear hu0
          go_wp2
          go_quiet ((go_at_call 17; exact Calls.quiet_of_same (r10_Fits_q _ _ (by assumption) (by assumption) _)))
          go_wp2
          go_ret
          exact ⟨by rw [HA.out, all_no (k := k) (by have := HN.out; omega) (by rw [HK.out]; rw [hub]; rfl)]; rfl, below_drewN HR.out.2 _⟩
        · have hub : (u == 0) = false := by rw [beq_eq_false_iff_ne]; exact hu0
          clear hu0
          go_wp2
          go_quiet ((go_at_call 17; exact Calls.quiet_of_same (r10_Fits_q _ _ (by assumption) (by assumption) _)))
          go_wp2
          go_roundw
          case rel => exact ⟨k + 1, by omega, by go_num, HR.out.step (by rw [HK.out]; rw [hub, hf, hg, HY.out]; rfl) (below_drewN HR.out.2 _)⟩
          case measure => simp [intOf]; omega
    · have hkn : k = n := by omega
      have HS := Lib.hid (all_yes (by rw [hkn]; exact HN.out) hrel)
      have HB := Lib.hid hrel.2
      clear hrel hkn
      go_wp2
      go_ret
      exact ⟨by rw [HA.out, HS.out]; rfl, HB.out⟩
theorem r11_Right {aw ww : Int} {cs : CS} {w : World} {v : Value} (h : Pairs w v cs) :
    Calls Try.prog 9 #[.int .i64 aw, .int .i64 ww, v] w fun e w' => e = .returned (.bool (rightB aw ww cs)) ∧ Below w.heap.size w w' := by
  cases hd : (dimB aw ww && decide (cs.length ≤ 4096))
  · rw [rightB_dim hd]
    exact (r11_Right_dim h hd).mono fun e w' ⟨he, hw⟩ => ⟨he, by subst hw; exact Below.refl _ _⟩
  · have hr : rightB aw ww cs = (List.range cs.length).all (okAt aw ww cs) := by unfold rightB; rw [hd]; rfl
    rw [hr]
    rw [Bool.and_eq_true] at hd
    exact r11_Right_loop h hd.1 (of_decide_eq_true hd.2)
end Go.Proofs.Ytpohekmfdbleeaa
