/-
  Package ram: Right, on cells that are read.
-/
import Derived.Test.YtpohekmfdbleeaaRam3
import Derived.IntWalk
namespace Go.Proofs.Ytpohekmfdbleeaa
open Go.ChangeShapes Go.WideShapes Go.ChangeAt Go.RowKit Go.Maps
set_option linter.unusedVariables false
/-- The slice v reads as the cells cs. -/
def Pairs (w : World) (v : Value) (cs : CS) : Prop :=
  ∃ a cap, v = .slice a cs.length cap ∧ cs.length ≤ cap ∧ cap ≤ maxLen ∧ (∀ p ∈ cs, wf p.1 ∧ wf p.2) ∧ (cs = [] ∨ ∃ b off, a = some ⟨b, off, none⟩ ∧ b < w.heap.size ∧
    ∀ j, j < cs.length → w.cell? ⟨b, off + j * 2, none⟩ = some (.int .u64 (cs.getD j (0, 0)).1) ∧ w.cell? ⟨b, off + j * 2 + 1, none⟩ = some (.int .u64 (cs.getD j (0, 0)).2))
theorem Pairs.chg {w w' : World} {v : Value} {cs : CS} {S : Nat → Prop} (h : Pairs w v cs) (hc : Chg S w w') (hn : ∀ b, v.ownBlock = some b → ¬ S b) : Pairs w' v cs := by
  obtain ⟨a, cap, rfl, h1, h2, h3, h4⟩ := h
  refine ⟨a, cap, rfl, h1, h2, h3, ?_⟩
  rcases h4 with h4 | ⟨b, off, rfl, hb, hcell⟩
  · exact .inl h4
  · refine .inr ⟨b, off, rfl, Nat.lt_of_lt_of_le hb hc.size, fun j hj => ?_⟩
    obtain ⟨q1, q2⟩ := hcell j hj
    have e := hc.block b hb (hn b rfl)
    exact ⟨by rw [World.cell?_of_block (w := w) e]; exact q1, by rw [World.cell?_of_block (w := w) e]; exact q2⟩
theorem Pairs.below {w w' : World} {v : Value} {cs : CS} (h : Pairs w v cs) (hb : Below w.heap.size w w') : Pairs w' v cs := h.chg (S := fun _ => False) (Chg.of_below hb) (fun _ _ h => h)
theorem pairs_nil (w : World) : Pairs w (.slice none 0 0) [] := ⟨none, 0, rfl, by simp, by simp, by simp, .inl rfl⟩
theorem wf_getD {cs : CS} (h : ∀ p ∈ cs, wf p.1 ∧ wf p.2) (j : Nat) : wf (cs.getD j (0, 0)).1 ∧ wf (cs.getD j (0, 0)).2 := by
  by_cases hj : j < cs.length
  · have := h (cs[j]) (List.getElem_mem hj)
    simpa [List.getD, hj] using this
  · have e : cs.getD j (0, 0) = (0, 0) := by simp [List.getD, hj]
    rw [e]; unfold wf; simp

theorem bits_Fits_q (x n : Int) (h0 : 0 ≤ x) (h1 : x < 18446744073709551616) (w : World) : Calls Try.prog 20 #[.int .u64 x, .int .i64 n] w fun e w' => e = .returned (.bool (fitsB x n)) ∧ w' = w :=
  (bits_Fits x n h0 h1 w).mono fun _ _ ⟨a, b⟩ => ⟨a, b.symm⟩
def dimB (aw ww : Int) : Bool := decide (1 ≤ aw ∧ aw ≤ 62 ∧ 1 ≤ ww ∧ ww ≤ 64)
/-- The cell p is right behind one at address q (none: the first). -/
def okAt (aw ww : Int) (cs : CS) (i : Nat) : Bool :=
  !((cs.getD i (0, 0)).2 == 0) && fitsB (cs.getD i (0, 0)).1 aw && fitsB (cs.getD i (0, 0)).2 ww && (decide (i = 0) || decide ((cs.getD (i - 1) (0, 0)).1 < (cs.getD i (0, 0)).1))
def rightB (aw ww : Int) (cs : CS) : Bool := dimB aw ww && decide (cs.length ≤ 4096) && (List.range cs.length).all (okAt aw ww cs)

theorem ram_Right_dim {aw ww : Int} {cs : CS} {w : World} {v : Value} (h : Pairs w v cs) (hd : (dimB aw ww && decide (cs.length ≤ 4096)) = false) :
    Calls Try.prog 10 #[.int .i64 aw, .int .i64 ww, v] w fun e w' => e = .returned (.bool false) ∧ w = w' := by
  obtain ⟨a, cap, rfl, -, -, -, -⟩ := h
  have hd' : aw < 1 ∨ 62 < aw ∨ ww < 1 ∨ 64 < ww ∨ (4096 : Int) < (cs.length : Int) := by
    unfold dimB at hd
    simp only [Bool.and_eq_false_iff, decide_eq_false_iff_not] at hd
    omega
  have HD := Lib.hid hd'
  clear hd hd'
  go_enter Try.func10, Try.ntmps10
  go_wp2
  all_goals first
    | (go_ret; exact ⟨rfl, rfl⟩)
    | (exfalso; have := HD.out; omega)
/-- What stands behind k rounds. -/
def RightRel (aw ww : Int) (cs : CS) (k : Nat) (w wr : World) : Prop := (∀ j, j < k → okAt aw ww cs j = true) ∧ Below w.heap.size w wr
theorem RightRel.step {aw ww : Int} {cs : CS} {k : Nat} {w wr wr' : World} (h : RightRel aw ww cs k w wr) (ho : okAt aw ww cs k = true) (hb : Below w.heap.size w wr') : RightRel aw ww cs (k + 1) w wr' :=
  ⟨fun j hj => by
    rcases Nat.lt_or_ge j k with h1 | h1
    · exact h.1 j h1
    · rw [show j = k by omega]; exact ho, hb⟩
theorem all_no {aw ww : Int} {cs : CS} {k : Nat} (hk : k < cs.length) (h : okAt aw ww cs k = false) : (List.range cs.length).all (okAt aw ww cs) = false := by
  rw [List.all_eq_false]
  exact ⟨k, by simpa using hk, by simp [h]⟩
theorem all_yes {aw ww : Int} {cs : CS} {k : Nat} {w wr : World} (hk : k = cs.length) (h : RightRel aw ww cs k w wr) : (List.range cs.length).all (okAt aw ww cs) = true := by
  rw [List.all_eq_true]
  intro j hj
  exact h.1 j (by rw [hk]; simpa using hj)
set_option maxHeartbeats 1000000 in
set_option maxRecDepth 100000 in
theorem ram_Right_loop {aw ww : Int} {cs : CS} {w : World} {v : Value} (h : Pairs w v cs) (hd : dimB aw ww = true) (hl : cs.length ≤ 4096) :
    Calls Try.prog 10 #[.int .i64 aw, .int .i64 ww, v] w fun e w' => e = .returned (.bool ((List.range cs.length).all (okAt aw ww cs))) ∧ Below w.heap.size w w' := by
  obtain ⟨a, cap, rfl, hc1, hc2, hwf, hv⟩ := h
  obtain ⟨d1, d2, d3, d4⟩ := of_decide_eq_true hd
  obtain ⟨ans, hans⟩ : ∃ ans, ans = (List.range cs.length).all (okAt aw ww cs) := ⟨_, rfl⟩
  rw [← hans]
  obtain ⟨n, hn⟩ : ∃ n, n = cs.length := ⟨_, rfl⟩
  rw [← hn] at hl hc1 ⊢
  have HA := Lib.hid hans
  clear hans
  have HN := Lib.hid hn
  have HV := Lib.hid hv
  have HW := Lib.hid hwf
  clear hv hwf hn hd
  go_enter Try.func10, Try.ntmps10
  go_wp2
  go_loopw [30] (fun i wr => ∃ k : Nat, k ≤ n ∧ i = .int .i64 k ∧ RightRel aw ww cs k w wr) (fun i _ => n - (intOf i).toNat)
  case atStart => exact ⟨0, Nat.zero_le _, rfl, fun _ h => absurd h (by omega), Below.refl _ _⟩
  case round =>
    obtain ⟨k, hk, rfl, hrel⟩ := hrel
    by_cases hlt : (k : Int) < (n : Int)
    · have hne : cs ≠ [] := fun e => by have := HN.out; rw [e] at this; simp at this; omega
      obtain ⟨b, off, rfl, hbl, hcell⟩ := HV.out.resolve_left hne
      obtain ⟨q1, q2⟩ := hcell k (by have := HN.out; omega)
      have hbw : ∀ j, wr.cell? ⟨b, j, none⟩ = w.cell? ⟨b, j, none⟩ := fun j => World.cell?_of_block (w := w) (hrel.2.block b hbl) 
      obtain ⟨⟨x0, x1⟩, ⟨v0, v1⟩⟩ := wf_getD HW.out k
      obtain ⟨x, hx⟩ : ∃ x, x = (cs.getD k (0, 0)).1 := ⟨_, rfl⟩
      obtain ⟨u, hu⟩ : ∃ u, u = (cs.getD k (0, 0)).2 := ⟨_, rfl⟩
      rw [← hx] at q1 x0 x1
      rw [← hu] at q2 v0 v1
      rw [← hbw] at q1 q2
      have hok : okAt aw ww cs k = (!(u == 0) && fitsB x aw && fitsB u ww && (decide (k = 0) || decide ((cs.getD (k - 1) (0, 0)).1 < x))) := by unfold okAt; rw [← hx, ← hu]
      have HK := Lib.hid hok
      have HR := Lib.hid hrel
      have HC := Lib.hid hcell
      have HB := Lib.hid hbw
      clear hok hrel hx hu hcell hbw hne
      by_cases hu0 : u = 0
      · subst hu0
        go_wp2
        go_quiet ((go_at_call 20; exact Calls.quiet_of_same (bits_Fits_q _ _ (by assumption) (by assumption) _)))
        go_wp2
        go_ret
        exact ⟨by rw [HA.out, all_no (k := k) (by have := HN.out; omega) (by rw [HK.out]; rfl)]; rfl, below_drewN (HR.out.2.alloc HR.out.2.size _) _⟩
      have hub : (u == 0) = false := by rw [beq_eq_false_iff_ne]; exact hu0
      clear hu0
      cases hf : fitsB x aw
      · go_wp2
        go_quiet ((go_at_call 20; exact Calls.quiet_of_same (bits_Fits_q _ _ (by assumption) (by assumption) _)))
        go_wp2
        go_ret
        exact ⟨by rw [HA.out, all_no (k := k) (by have := HN.out; omega) (by rw [HK.out]; rw [hub, hf]; rfl)]; rfl, below_drewN (HR.out.2.alloc HR.out.2.size _) _⟩
      cases hg : fitsB u ww
      · go_wp2
        go_quiet ((go_at_call 20; exact Calls.quiet_of_same (bits_Fits_q _ _ (by assumption) (by assumption) _)))
        go_wp2
        go_ret
        exact ⟨by rw [HA.out, all_no (k := k) (by have := HN.out; omega) (by rw [HK.out]; rw [hub, hf, hg]; rfl)]; rfl, below_drewN (HR.out.2.alloc HR.out.2.size _) _⟩
      by_cases hk0 : k = 0
      · have hp : decide ((0 : Int) < (k : Int)) = false := decide_eq_false (by omega)
        have hp' : decide (0 < k) = false := decide_eq_false (by omega)
        have HZ := Lib.hid hk0
        clear hk0
        go_wp2
        go_quiet ((go_at_call 20; exact Calls.quiet_of_same (bits_Fits_q _ _ (by assumption) (by assumption) _)))
        go_wp2
        go_roundw
        case rel => exact ⟨k + 1, by omega, by go_num, HR.out.step (by rw [HK.out]; rw [hub, hf, hg, HZ.out]; rfl) (below_drewN (HR.out.2.alloc HR.out.2.size _) _)⟩
        case measure => simp [intOf]; omega
      · obtain ⟨m, hm⟩ : ∃ m, m + 1 = k := ⟨k - 1, by omega⟩
        obtain ⟨q3, -⟩ := HC.out m (by have := HN.out; omega)
        obtain ⟨y, hy⟩ : ∃ y, y = (cs.getD m (0, 0)).1 := ⟨_, rfl⟩
        rw [← hy] at q3
        have hp : decide ((0 : Int) < (k : Int)) = true := decide_eq_true (by omega)
        have hp' : decide (0 < k) = true := decide_eq_true (by omega)
        have hkm : k - 1 = m := by omega
        have HK2 : Hid (okAt aw ww cs k = decide (y < x)) := Lib.hid (by rw [HK.out, hub, hf, hg, hkm, ← hy]; simp; intro h; omega)
        rw [← HB.out] at q3
        have q3' : (wr.alloc (.cells #[.int .u64 x, .int .u64 u] 49)).cell? ⟨b, off + m * 2, none⟩ = some (.int .u64 y) :=
          (Below.cell ((Below.refl _ wr).alloc (Nat.le_refl _) _) (World.block_lt_of_cell? wr _ q3)).trans q3
        have hml : (m : Int) < (n : Int) := by omega
        have hw : IntKind.i64.wrap ((k : Int) - 1) = (m : Int) := by rw [IntWalk.i64_in _ (by omega)]; omega
        have HM := Lib.hid hm
        clear hkm hy hm
        by_cases hyx : y < x
        · have hc : decide (x ≤ y) = false := decide_eq_false (by omega)
          have HY := Lib.hid hyx
          clear hyx
          go_wp2
          go_quiet ((go_at_call 20; exact Calls.quiet_of_same (bits_Fits_q _ _ (by assumption) (by assumption) _)))
          go_wp2
          go_roundw
          case rel => exact ⟨k + 1, by omega, by go_num, HR.out.step (by rw [HK2.out]; exact decide_eq_true HY.out) (below_drewN (HR.out.2.alloc HR.out.2.size _) _)⟩
          case measure => simp [intOf]; omega
        · have hc : decide (x ≤ y) = true := decide_eq_true (by omega)
          have HY := Lib.hid hyx
          clear hyx
          go_wp2
          go_quiet ((go_at_call 20; exact Calls.quiet_of_same (bits_Fits_q _ _ (by assumption) (by assumption) _)))
          go_wp2
          go_ret
          exact ⟨by rw [HA.out, all_no (k := k) (by have := HN.out; omega) (by rw [HK2.out]; exact decide_eq_false (by have := HY.out; omega))]; rfl, below_drewN (HR.out.2.alloc HR.out.2.size _) _⟩
    · have hkn : k = n := by omega
      have HS := Lib.hid (all_yes (by rw [hkn]; exact HN.out) hrel)
      have HB := Lib.hid hrel.2
      clear hrel hkn
      go_wp2
      go_ret
      exact ⟨by rw [HA.out, HS.out]; rfl, HB.out⟩
theorem rightB_dim {aw ww : Int} {cs : CS} (h : (dimB aw ww && decide (cs.length ≤ 4096)) = false) : rightB aw ww cs = false := by unfold rightB; rw [h]; rfl
theorem ram_Right {aw ww : Int} {cs : CS} {w : World} {v : Value} (h : Pairs w v cs) :
    Calls Try.prog 10 #[.int .i64 aw, .int .i64 ww, v] w fun e w' => e = .returned (.bool (rightB aw ww cs)) ∧ Below w.heap.size w w' := by
  cases hd : (dimB aw ww && decide (cs.length ≤ 4096))
  · rw [rightB_dim hd]
    exact (ram_Right_dim h hd).mono fun e w' ⟨he, hw⟩ => ⟨he, by subst hw; exact Below.refl _ _⟩
  · have hr : rightB aw ww cs = (List.range cs.length).all (okAt aw ww cs) := by unfold rightB; rw [hd]; rfl
    rw [hr]
    rw [Bool.and_eq_true] at hd
    exact ram_Right_loop h hd.1 (of_decide_eq_true hd.2)
end Go.Proofs.Ytpohekmfdbleeaa
