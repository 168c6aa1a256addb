/-
  Cells of memories, read: which are right, both ways; the same ones. (Of the texts of chapter 11, without the memory itself.)
-/
import Derived.Test.YtamgbfkpblpfiaaGreatDoorRows
import Derived.Test.YtamgbfkpblpfiaaGreatDoorFoot
import Derived.Deep.QuietTactic
import Derived.BigQuiet
import Derived.IntWalk
import Derived.Test.YtamgbfkpblpfiaaGreatDoorDecU
namespace Go.Proofs.YtamgbfkpblpfiaaGreatDoor
open Go.ChangeShapes Go.WideShapes Go.ChangeAt Go.RowKit
set_option linter.unusedVariables false
abbrev CS := List (Int × Int)
def Quiet (w w' : World) : Prop := ∃ n, w' = w.drewN n
theorem Quiet.below {w w' : World} (h : Quiet w w') : Below w.heap.size w w' := by obtain ⟨n, rfl⟩ := h; exact below_drewN (Below.refl _ _) n
def wf (x : Int) : Prop := 0 ≤ x ∧ x < 18446744073709551616
/-! ### words that fit -/
def withN (n : Int) : Nat := (max (min n 64) 0).toNat
def fitsB (x n : Int) : Bool := decide (x / 2 ^ withN n = 0)
theorem withN_le (n : Int) : withN n ≤ 64 := by unfold withN; omega

theorem bits_within (n : Int) (w : World) : Calls Tryz.prog 131 #[.int .i64 n] w fun e w' => e = .returned (.int .i64 (withN n)) ∧ w = w' := by
  have hw : ((withN n : Nat) : Int) = max (min n 64) 0 := by unfold withN; omega
  rw [hw]
  clear hw
  go_enter Tryz.func131, Tryz.ntmps131
  go_wp2
  all_goals (go_ret; refine ⟨?_, rfl⟩; refine congrArg (fun z => Ending.returned (Value.int IntKind.i64 z)) ?_; split at * <;> omega)
set_option maxHeartbeats 400000 in
theorem bits_Fits (x n : Int) (h0 : 0 ≤ x) (h1 : x < 18446744073709551616) (w : World) : Calls Tryz.prog 111 #[.int .u64 x, .int .i64 n] w fun e w' => e = .returned (.bool (fitsB x n)) ∧ w = w' := by
  have hk := withN_le n
  obtain ⟨k, hkk⟩ : ∃ k, k = withN n := ⟨_, rfl⟩
  have HK := Lib.hid hkk
  rw [← hkk] at hk
  go_enter Tryz.func111, Tryz.ntmps111
  go_wp2_with ((go_at_call 131; refine (bits_within n w).mono ?_; rintro e w' ⟨rfl, rfl⟩))
  go_ret
  exact ⟨rfl, rfl⟩
/-- The slice v reads as the cells cs. -/
def Pairs (w : World) (v : Value) (cs : CS) : Prop :=
  ∃ a cap, v = .slice a cs.length cap ∧ cs.length ≤ cap ∧ cap ≤ maxLen ∧ (∀ p ∈ cs, wf p.1 ∧ wf p.2) ∧ (cs = [] ∨ ∃ b off, a = some ⟨b, off, none⟩ ∧ b < w.heap.size ∧
    ∀ j, j < cs.length → w.cell? ⟨b, off + j * 2, none⟩ = some (.int .u64 (cs.getD j (0, 0)).1) ∧ w.cell? ⟨b, off + j * 2 + 1, none⟩ = some (.int .u64 (cs.getD j (0, 0)).2))
theorem Pairs.chg {w w' : World} {v : Value} {cs : CS} {S : Nat → Prop} (h : Pairs w v cs) (hc : Chg S w w') (hn : ∀ b, v.ownBlock = some b → ¬ S b) : Pairs w' v cs := by
  obtain ⟨a, cap, rfl, h1, h2, h3, h4⟩ := h
  refine ⟨a, cap, rfl, h1, h2, h3, ?_⟩
  rcases h4 with h4 | ⟨b, off, rfl, hb, hcell⟩
  · exact .inl h4
  · refine .inr ⟨b, off, rfl, Nat.lt_of_lt_of_le hb hc.size, fun j hj => ?_⟩
    obtain ⟨q1, q2⟩ := hcell j hj
    have e := hc.block b hb (hn b rfl)
    exact ⟨by rw [World.cell?_of_block (w := w) e]; exact q1, by rw [World.cell?_of_block (w := w) e]; exact q2⟩
theorem Pairs.below {w w' : World} {v : Value} {cs : CS} (h : Pairs w v cs) (hb : Below w.heap.size w w') : Pairs w' v cs := h.chg (S := fun _ => False) (Chg.of_below hb) (fun _ _ h => h)
theorem pairs_nil (w : World) : Pairs w (.slice none 0 0) [] := ⟨none, 0, rfl, by simp, by simp, by simp, .inl rfl⟩
theorem wf_getD {cs : CS} (h : ∀ p ∈ cs, wf p.1 ∧ wf p.2) (j : Nat) : wf (cs.getD j (0, 0)).1 ∧ wf (cs.getD j (0, 0)).2 := by
  by_cases hj : j < cs.length
  · have := h (cs[j]) (List.getElem_mem hj)
    simpa [List.getD, hj] using this
  · have e : cs.getD j (0, 0) = (0, 0) := by simp [List.getD, hj]
    rw [e]; unfold wf; simp

theorem bits_Fits_q (x n : Int) (h0 : 0 ≤ x) (h1 : x < 18446744073709551616) (w : World) : Calls Tryz.prog 111 #[.int .u64 x, .int .i64 n] w fun e w' => e = .returned (.bool (fitsB x n)) ∧ w' = w :=
  (bits_Fits x n h0 h1 w).mono fun _ _ ⟨a, b⟩ => ⟨a, b.symm⟩
def dimB (aw ww : Int) : Bool := decide (1 ≤ aw ∧ aw ≤ 62 ∧ 1 ≤ ww ∧ ww ≤ 64)
/-- The cell p is right behind one at address q (none: the first). -/
def okAt (aw ww : Int) (cs : CS) (i : Nat) : Bool :=
  !((cs.getD i (0, 0)).2 == 0) && fitsB (cs.getD i (0, 0)).1 aw && fitsB (cs.getD i (0, 0)).2 ww && (decide (i = 0) || decide ((cs.getD (i - 1) (0, 0)).1 < (cs.getD i (0, 0)).1))
def rightB (aw ww : Int) (cs : CS) : Bool := dimB aw ww && decide (cs.length ≤ 4096) && (List.range cs.length).all (okAt aw ww cs)

theorem ram_Right_dim {aw ww : Int} {cs : CS} {w : World} {v : Value} (h : Pairs w v cs) (hd : (dimB aw ww && decide (cs.length ≤ 4096)) = false) :
    Calls Tryz.prog 91 #[.int .i64 aw, .int .i64 ww, v] w fun e w' => e = .returned (.bool false) ∧ w = w' := by
  obtain ⟨a, cap, rfl, -, -, -, -⟩ := h
  have hd' : aw < 1 ∨ 62 < aw ∨ ww < 1 ∨ 64 < ww ∨ (4096 : Int) < (cs.length : Int) := by
    unfold dimB at hd
    simp only [Bool.and_eq_false_iff, decide_eq_false_iff_not] at hd
    omega
  have HD := Lib.hid hd'
  clear hd hd'
  go_enter Tryz.func91, Tryz.ntmps91
  go_wp2
  all_goals first
    | (go_ret; exact ⟨rfl, rfl⟩)
    | (exfalso; have := HD.out; omega)
/-- What stands behind k rounds. -/
def RightRel (aw ww : Int) (cs : CS) (k : Nat) (w wr : World) : Prop := (∀ j, j < k → okAt aw ww cs j = true) ∧ Below w.heap.size w wr
theorem RightRel.step {aw ww : Int} {cs : CS} {k : Nat} {w wr wr' : World} (h : RightRel aw ww cs k w wr) (ho : okAt aw ww cs k = true) (hb : Below w.heap.size w wr') : RightRel aw ww cs (k + 1) w wr' :=
  ⟨fun j hj => by
    rcases Nat.lt_or_ge j k with h1 | h1
    · exact h.1 j h1
    · rw [show j = k by omega]; exact ho, hb⟩
theorem all_no {aw ww : Int} {cs : CS} {k : Nat} (hk : k < cs.length) (h : okAt aw ww cs k = false) : (List.range cs.length).all (okAt aw ww cs) = false := by
  rw [List.all_eq_false]
  exact ⟨k, by simpa using hk, by simp [h]⟩
theorem all_yes {aw ww : Int} {cs : CS} {k : Nat} {w wr : World} (hk : k = cs.length) (h : RightRel aw ww cs k w wr) : (List.range cs.length).all (okAt aw ww cs) = true := by
  rw [List.all_eq_true]
  intro j hj
  exact h.1 j (by rw [hk]; simpa using hj)
set_option maxHeartbeats 1000000 in
set_option maxRecDepth 100000 in
theorem ram_Right_loop {aw ww : Int} {cs : CS} {w : World} {v : Value} (h : Pairs w v cs) (hd : dimB aw ww = true) (hl : cs.length ≤ 4096) :
    Calls Tryz.prog 91 #[.int .i64 aw, .int .i64 ww, v] w fun e w' => e = .returned (.bool ((List.range cs.length).all (okAt aw ww cs))) ∧ Below w.heap.size w w' := by
  obtain ⟨a, cap, rfl, hc1, hc2, hwf, hv⟩ := h
  obtain ⟨d1, d2, d3, d4⟩ := of_decide_eq_true hd
  obtain ⟨ans, hans⟩ : ∃ ans, ans = (List.range cs.length).all (okAt aw ww cs) := ⟨_, rfl⟩
  rw [← hans]
  obtain ⟨n, hn⟩ : ∃ n, n = cs.length := ⟨_, rfl⟩
  rw [← hn] at hl hc1 ⊢
  have HA := Lib.hid hans
  clear hans
  have HN := Lib.hid hn
  have HV := Lib.hid hv
  have HW := Lib.hid hwf
  clear hv hwf hn hd
  go_enter Tryz.func91, Tryz.ntmps91
  go_wp2
  go_loopw [30] (fun i wr => ∃ k : Nat, k ≤ n ∧ i = .int .i64 k ∧ RightRel aw ww cs k w wr) (fun i _ => n - (intOf i).toNat)
  case atStart => exact ⟨0, Nat.zero_le _, rfl, fun _ h => absurd h (by omega), Below.refl _ _⟩
  case round =>
    obtain ⟨k, hk, rfl, hrel⟩ := hrel
    by_cases hlt : (k : Int) < (n : Int)
    · have hne : cs ≠ [] := fun e => by have := HN.out; rw [e] at this; simp at this; omega
      obtain ⟨b, off, rfl, hbl, hcell⟩ := HV.out.resolve_left hne
      obtain ⟨q1, q2⟩ := hcell k (by have := HN.out; omega)
      have hbw : ∀ j, wr.cell? ⟨b, j, none⟩ = w.cell? ⟨b, j, none⟩ := fun j => World.cell?_of_block (w := w) (hrel.2.block b hbl) 
      obtain ⟨⟨x0, x1⟩, ⟨v0, v1⟩⟩ := wf_getD HW.out k
      obtain ⟨x, hx⟩ : ∃ x, x = (cs.getD k (0, 0)).1 := ⟨_, rfl⟩
      obtain ⟨u, hu⟩ : ∃ u, u = (cs.getD k (0, 0)).2 := ⟨_, rfl⟩
      rw [← hx] at q1 x0 x1
      rw [← hu] at q2 v0 v1
      rw [← hbw] at q1 q2
      have hok : okAt aw ww cs k = (!(u == 0) && fitsB x aw && fitsB u ww && (decide (k = 0) || decide ((cs.getD (k - 1) (0, 0)).1 < x))) := by unfold okAt; rw [← hx, ← hu]
      have HK := Lib.hid hok
      have HR := Lib.hid hrel
      have HC := Lib.hid hcell
      have HB := Lib.hid hbw
      clear hok hrel hx hu hcell hbw hne
      by_cases hu0 : u = 0
      · subst hu0
        go_wp2
        go_quiet ((go_at_call 111; exact Calls.quiet_of_same (bits_Fits_q _ _ (by assumption) (by assumption) _)))
        go_wp2
        go_ret
        exact ⟨by rw [HA.out, all_no (k := k) (by have := HN.out; omega) (by rw [HK.out]; rfl)]; rfl, below_drewN (HR.out.2.alloc HR.out.2.size _) _⟩
      have hub : (u == 0) = false := by rw [beq_eq_false_iff_ne]; exact hu0
      clear hu0
      cases hf : fitsB x aw
      · go_wp2
        go_quiet ((go_at_call 111; exact Calls.quiet_of_same (bits_Fits_q _ _ (by assumption) (by assumption) _)))
        go_wp2
        go_ret
        exact ⟨by rw [HA.out, all_no (k := k) (by have := HN.out; omega) (by rw [HK.out]; rw [hub, hf]; rfl)]; rfl, below_drewN (HR.out.2.alloc HR.out.2.size _) _⟩
      cases hg : fitsB u ww
      · go_wp2
        go_quiet ((go_at_call 111; exact Calls.quiet_of_same (bits_Fits_q _ _ (by assumption) (by assumption) _)))
        go_wp2
        go_ret
        exact ⟨by rw [HA.out, all_no (k := k) (by have := HN.out; omega) (by rw [HK.out]; rw [hub, hf, hg]; rfl)]; rfl, below_drewN (HR.out.2.alloc HR.out.2.size _) _⟩
      by_cases hk0 : k = 0
      · have hp : decide ((0 : Int) < (k : Int)) = false := decide_eq_false (by omega)
        have hp' : decide (0 < k) = false := decide_eq_false (by omega)
        have HZ := Lib.hid hk0
        clear hk0
        go_wp2
        go_quiet ((go_at_call 111; exact Calls.quiet_of_same (bits_Fits_q _ _ (by assumption) (by assumption) _)))
        go_wp2
        go_roundw
        case rel => exact ⟨k + 1, by omega, by go_num, HR.out.step (by rw [HK.out]; rw [hub, hf, hg, HZ.out]; rfl) (below_drewN (HR.out.2.alloc HR.out.2.size _) _)⟩
        case measure => simp [intOf]; omega
      · obtain ⟨m, hm⟩ : ∃ m, m + 1 = k := ⟨k - 1, by omega⟩
        obtain ⟨q3, -⟩ := HC.out m (by have := HN.out; omega)
        obtain ⟨y, hy⟩ : ∃ y, y = (cs.getD m (0, 0)).1 := ⟨_, rfl⟩
        rw [← hy] at q3
        have hp : decide ((0 : Int) < (k : Int)) = true := decide_eq_true (by omega)
        have hp' : decide (0 < k) = true := decide_eq_true (by omega)
        have hkm : k - 1 = m := by omega
        have HK2 : Hid (okAt aw ww cs k = decide (y < x)) := Lib.hid (by rw [HK.out, hub, hf, hg, hkm, ← hy]; simp; intro h; omega)
        rw [← HB.out] at q3
        have q3' : (wr.alloc (.cells #[.int .u64 x, .int .u64 u] 121)).cell? ⟨b, off + m * 2, none⟩ = some (.int .u64 y) :=
          (Below.cell ((Below.refl _ wr).alloc (Nat.le_refl _) _) (World.block_lt_of_cell? wr _ q3)).trans q3
        have hml : (m : Int) < (n : Int) := by omega
        have hw : IntKind.i64.wrap ((k : Int) - 1) = (m : Int) := by rw [IntWalk.i64_in _ (by omega)]; omega
        have HM := Lib.hid hm
        clear hkm hy hm
        by_cases hyx : y < x
        · have hc : decide (x ≤ y) = false := decide_eq_false (by omega)
          have HY := Lib.hid hyx
          clear hyx
          go_wp2
          go_quiet ((go_at_call 111; exact Calls.quiet_of_same (bits_Fits_q _ _ (by assumption) (by assumption) _)))
          go_wp2
          go_roundw
          case rel => exact ⟨k + 1, by omega, by go_num, HR.out.step (by rw [HK2.out]; exact decide_eq_true HY.out) (below_drewN (HR.out.2.alloc HR.out.2.size _) _)⟩
          case measure => simp [intOf]; omega
        · have hc : decide (x ≤ y) = true := decide_eq_true (by omega)
          have HY := Lib.hid hyx
          clear hyx
          go_wp2
          go_quiet ((go_at_call 111; exact Calls.quiet_of_same (bits_Fits_q _ _ (by assumption) (by assumption) _)))
          go_wp2
          go_ret
          exact ⟨by rw [HA.out, all_no (k := k) (by have := HN.out; omega) (by rw [HK2.out]; exact decide_eq_false (by have := HY.out; omega))]; rfl, below_drewN (HR.out.2.alloc HR.out.2.size _) _⟩
    · have hkn : k = n := by omega
      have HS := Lib.hid (all_yes (by rw [hkn]; exact HN.out) hrel)
      have HB := Lib.hid hrel.2
      clear hrel hkn
      go_wp2
      go_ret
      exact ⟨by rw [HA.out, HS.out]; rfl, HB.out⟩
theorem rightB_dim {aw ww : Int} {cs : CS} (h : (dimB aw ww && decide (cs.length ≤ 4096)) = false) : rightB aw ww cs = false := by unfold rightB; rw [h]; rfl
theorem ram_Right {aw ww : Int} {cs : CS} {w : World} {v : Value} (h : Pairs w v cs) :
    Calls Tryz.prog 91 #[.int .i64 aw, .int .i64 ww, v] w fun e w' => e = .returned (.bool (rightB aw ww cs)) ∧ Below w.heap.size w w' := by
  cases hd : (dimB aw ww && decide (cs.length ≤ 4096))
  · rw [rightB_dim hd]
    exact (ram_Right_dim h hd).mono fun e w' ⟨he, hw⟩ => ⟨he, by subst hw; exact Below.refl _ _⟩
  · have hr : rightB aw ww cs = (List.range cs.length).all (okAt aw ww cs) := by unfold rightB; rw [hd]; rfl
    rw [hr]
    rw [Bool.and_eq_true] at hd
    exact ram_Right_loop h hd.1 (of_decide_eq_true hd.2)
def halves (x : Int) : Nat → Int
  | 0 => x
  | k + 1 => halves x k / 2
theorem halves_pow (x : Int) (h : 0 ≤ x) : ∀ k, halves x k = x / 2 ^ k
  | 0 => by simp [halves]
  | k + 1 => by
    unfold halves
    rw [halves_pow x h k, Int.ediv_ediv_of_nonneg (by have := Int.pow_pos (n := 2) (m := k) (by omega); omega), Int.pow_succ]
theorem halves_range (x : Int) (h0 : 0 ≤ x) (h1 : x < 18446744073709551616) : ∀ k, 0 ≤ halves x k ∧ halves x k < 18446744073709551616
  | 0 => ⟨h0, h1⟩
  | k + 1 => by
    have := halves_range x h0 h1 k
    unfold halves
    omega
set_option maxHeartbeats 1000000 in
theorem r10_Fits (x n : Int) (h0 : 0 ≤ x) (h1 : x < 18446744073709551616) (w : World) : Calls Tryz.prog 115 #[.int .u64 x, .int .i64 n] w fun e w' => e = .returned (.bool (fitsB x n)) ∧ w = w' := by
  have hk := withN_le n
  obtain ⟨m, hm⟩ : ∃ m, m = withN n := ⟨_, rfl⟩
  rw [← hm] at hk
  have hmn : (m : Int) = max (min n 64) 0 := by rw [hm]; unfold withN; omega
  have HF : Hid (fitsB x n = decide (halves x m = 0)) := Lib.hid (by unfold fitsB; rw [halves_pow x h0, hm])
  have HM := Lib.hid hmn
  have HR := Lib.hid (halves_range x h0 h1)
  clear hm hmn
  go_enter Tryz.func115, Tryz.ntmps115
  go_wp2
  go_loopw [0, 5] (fun a i wr => ∃ k : Nat, k ≤ m ∧ i = .int .i64 k ∧ a = .int .u64 (halves x k) ∧ wr = w) (fun _ i _ => m - (intOf i).toNat)
  case atStart => exact ⟨0, Nat.zero_le _, rfl, rfl, rfl⟩
  case round =>
    obtain ⟨k, hk', rfl, rfl, rfl⟩ := hrel
    obtain ⟨z0, z1⟩ := HR.out k
    have HK : Hid (halves x k / 2 = halves x (k + 1)) := Lib.hid rfl
    obtain ⟨y, hy⟩ : ∃ y, y = halves x k := ⟨_, rfl⟩
    rw [← hy] at z0 z1 HK ⊢
    have HY := Lib.hid hy
    clear hy
    by_cases hlt : k < m
    · have c1 : decide ((k : Int) < n) = true := decide_eq_true (by have := HM.out; omega)
      have c2 : decide ((k : Int) < 64) = true := decide_eq_true (by omega)
      go_wp2
      go_roundw
      case rel => exact ⟨k + 1, by omega, by go_num, by rw [HK.out], trivial⟩
      case measure => simp [intOf]; omega
    · have hkm : k = m := by omega
      have HA : Hid (fitsB x n = (y == 0)) := Lib.hid (by rw [HF.out, HY.out, hkm]; by_cases h : halves x m = 0 <;> simp [h])
      by_cases hkn : (k : Int) < n
      · have c1 : decide ((k : Int) < n) = true := decide_eq_true hkn
        have c2 : decide ((k : Int) < 64) = false := decide_eq_false (by have := HM.out; omega)
        clear hkm
        go_wp2
        go_ret
        exact ⟨by rw [HA.out]; rfl, rfl⟩
      · have c1 : decide ((k : Int) < n) = false := decide_eq_false hkn
        clear hkm
        go_wp2
        go_ret
        exact ⟨by rw [HA.out]; rfl, rfl⟩

theorem r10_Fits_q (x n : Int) (h0 : 0 ≤ x) (h1 : x < 18446744073709551616) (w : World) : Calls Tryz.prog 115 #[.int .u64 x, .int .i64 n] w fun e w' => e = .returned (.bool (fitsB x n)) ∧ w' = w :=
  (r10_Fits x n h0 h1 w).mono fun _ _ ⟨a, b⟩ => ⟨a, b.symm⟩
theorem r11_Right_dim {aw ww : Int} {cs : CS} {w : World} {v : Value} (h : Pairs w v cs) (hd : (dimB aw ww && decide (cs.length ≤ 4096)) = false) :
    Calls Tryz.prog 96 #[.int .i64 aw, .int .i64 ww, v] w fun e w' => e = .returned (.bool false) ∧ w = w' := by
  obtain ⟨a, cap, rfl, -, -, -, -⟩ := h
  have hd' : aw < 1 ∨ 62 < aw ∨ ww < 1 ∨ 64 < ww ∨ (4096 : Int) < (cs.length : Int) := by
    unfold dimB at hd
    simp only [Bool.and_eq_false_iff, decide_eq_false_iff_not] at hd
    omega
  have HD := Lib.hid hd'
  clear hd hd'
  go_enter Tryz.func96, Tryz.ntmps96
  go_wp2
  all_goals first
    | (go_ret; exact ⟨rfl, rfl⟩)
    | (exfalso; have := HD.out; omega)
set_option maxHeartbeats 2000000 in
set_option maxRecDepth 100000 in
theorem r11_Right_loop {aw ww : Int} {cs : CS} {w : World} {v : Value} (h : Pairs w v cs) (hd : dimB aw ww = true) (hl : cs.length ≤ 4096) :
    Calls Tryz.prog 96 #[.int .i64 aw, .int .i64 ww, v] w fun e w' => e = .returned (.bool ((List.range cs.length).all (okAt aw ww cs))) ∧ Below w.heap.size w w' := by
  obtain ⟨a, cap, rfl, hc1, hc2, hwf, hv⟩ := h
  obtain ⟨d1, d2, d3, d4⟩ := of_decide_eq_true hd
  obtain ⟨ans, hans⟩ : ∃ ans, ans = (List.range cs.length).all (okAt aw ww cs) := ⟨_, rfl⟩
  rw [← hans]
  obtain ⟨n, hn⟩ : ∃ n, n = cs.length := ⟨_, rfl⟩
  rw [← hn] at hl hc1 ⊢
  have HA := Lib.hid hans
  clear hans
  have HN := Lib.hid hn
  have HV := Lib.hid hv
  have HW := Lib.hid hwf
  clear hv hwf hn hd
  go_enter Tryz.func96, Tryz.ntmps96
  go_wp2
  go_loopw [7] (fun i wr => ∃ k : Nat, k ≤ n ∧ i = .int .i64 k ∧ RightRel aw ww cs k w wr) (fun i _ => n - (intOf i).toNat)
  case atStart => exact ⟨0, Nat.zero_le _, rfl, fun _ h => absurd h (by omega), Below.refl _ _⟩
  case round =>
    obtain ⟨k, hk, rfl, hrel⟩ := hrel
    by_cases hlt : (k : Int) < (n : Int)
    · have hne : cs ≠ [] := fun e => by have := HN.out; rw [e] at this; simp at this; omega
      obtain ⟨b, off, rfl, hbl, hcell⟩ := HV.out.resolve_left hne
      obtain ⟨q1, q2⟩ := hcell k (by have := HN.out; omega)
      have hbw : ∀ j, wr.cell? ⟨b, j, none⟩ = w.cell? ⟨b, j, none⟩ := fun j => World.cell?_of_block (w := w) (hrel.2.block b hbl) 
      obtain ⟨⟨x0, x1⟩, ⟨v0, v1⟩⟩ := wf_getD HW.out k
      obtain ⟨x, hx⟩ : ∃ x, x = (cs.getD k (0, 0)).1 := ⟨_, rfl⟩
      obtain ⟨u, hu⟩ : ∃ u, u = (cs.getD k (0, 0)).2 := ⟨_, rfl⟩
      rw [← hx] at q1 x0 x1
      rw [← hu] at q2 v0 v1
      rw [← hbw] at q1 q2
      have hok : okAt aw ww cs k = (!(u == 0) && fitsB x aw && fitsB u ww && (decide (k = 0) || decide ((cs.getD (k - 1) (0, 0)).1 < x))) := by unfold okAt; rw [← hx, ← hu]
      have HK := Lib.hid hok
      have HR := Lib.hid hrel
      have HC := Lib.hid hcell
      have HB := Lib.hid hbw
      clear hok hrel hx hu hcell hbw hne
      by_cases hk0 : k = 0
      · have hp : decide ((0 : Int) < (k : Int)) = false := decide_eq_false (by omega)
        have hp' : decide (0 < k) = false := decide_eq_false (by omega)
        have HZ := Lib.hid hk0
        clear hk0
        cases hf : fitsB x aw
        · go_wp2
          go_quiet ((go_at_call 115; exact Calls.quiet_of_same (r10_Fits_q _ _ (by assumption) (by assumption) _)))
          go_wp2
          go_ret
          exact ⟨by rw [HA.out, all_no (k := k) (by have := HN.out; omega) (by rw [HK.out]; rw [hf]; simp)]; rfl, below_drewN HR.out.2 _⟩
        cases hg : fitsB u ww
        · go_wp2
          go_quiet ((go_at_call 115; exact Calls.quiet_of_same (r10_Fits_q _ _ (by assumption) (by assumption) _)))
          go_wp2
          go_ret
          exact ⟨by rw [HA.out, all_no (k := k) (by have := HN.out; omega) (by rw [HK.out]; rw [hf, hg]; simp)]; rfl, below_drewN HR.out.2 _⟩
        by_cases hu0 : u = 0
        · have hub : (u == 0) = true := by rw [beq_iff_eq]; exact hu0
          clear hu0
          go_wp2
          go_quiet ((go_at_call 115; exact Calls.quiet_of_same (r10_Fits_q _ _ (by assumption) (by assumption) _)))
          go_wp2
          go_ret
          exact ⟨by rw [HA.out, all_no (k := k) (by have := HN.out; omega) (by rw [HK.out]; rw [hub]; rfl)]; rfl, below_drewN HR.out.2 _⟩
        · have hub : (u == 0) = false := by rw [beq_eq_false_iff_ne]; exact hu0
          clear hu0
          go_wp2
          go_quiet ((go_at_call 115; exact Calls.quiet_of_same (r10_Fits_q _ _ (by assumption) (by assumption) _)))
          go_wp2
          go_roundw
          case rel => exact ⟨k + 1, by omega, by go_num, HR.out.step (by rw [HK.out]; rw [hub, hf, hg, HZ.out]; rfl) (below_drewN HR.out.2 _)⟩
          case measure => simp [intOf]; omega
      · obtain ⟨m, hm⟩ : ∃ m, m + 1 = k := ⟨k - 1, by omega⟩
        obtain ⟨q3, -⟩ := HC.out m (by have := HN.out; omega)
        obtain ⟨y, hy⟩ : ∃ y, y = (cs.getD m (0, 0)).1 := ⟨_, rfl⟩
        rw [← hy] at q3
        have hp : decide ((0 : Int) < (k : Int)) = true := decide_eq_true (by omega)
        have hp' : decide (0 < k) = true := decide_eq_true (by omega)
        have hkm : k - 1 = m := by omega
        have HK2 : Hid (okAt aw ww cs k = (!(u == 0) && fitsB x aw && fitsB u ww && decide (y < x))) := Lib.hid (by rw [HK.out, hkm, ← hy]; have : decide (k = 0) = false := decide_eq_false hk0; rw [this]; simp)
        rw [← HB.out] at q3
        have hml : (m : Int) < (n : Int) := by omega
        have hw : IntKind.i64.wrap ((k : Int) - 1) = (m : Int) := by rw [IntWalk.i64_in _ (by omega)]; omega
        have HM := Lib.hid hm
        clear hkm hy hm HK
        have HK := HK2
        clear HK2
        by_cases hyx : x ≤ y
        · have hc : decide (x ≤ y) = true := decide_eq_true (by omega)
          have HY : Hid (decide (y < x) = false) := Lib.hid (decide_eq_false (by omega))
          clear hyx
          go_wp2
          go_quiet ((go_at_call 115; exact Calls.quiet_of_same (r10_Fits_q _ _ (by assumption) (by assumption) _)))
          go_wp2
          go_ret
          exact ⟨by rw [HA.out, all_no (k := k) (by have := HN.out; omega) (by rw [HK.out]; rw [HY.out]; simp)]; rfl, below_drewN HR.out.2 _⟩
        have hc : decide (x ≤ y) = false := decide_eq_false (by omega)
        have HY : Hid (decide (y < x) = true) := Lib.hid (decide_eq_true (by omega))
        clear hyx
        cases hf : fitsB x aw
        · go_wp2
          go_quiet ((go_at_call 115; exact Calls.quiet_of_same (r10_Fits_q _ _ (by assumption) (by assumption) _)))
          go_wp2
          go_ret
          exact ⟨by rw [HA.out, all_no (k := k) (by have := HN.out; omega) (by rw [HK.out]; rw [hf]; simp)]; rfl, below_drewN HR.out.2 _⟩
        cases hg : fitsB u ww
        · go_wp2
          go_quiet ((go_at_call 115; exact Calls.quiet_of_same (r10_Fits_q _ _ (by assumption) (by assumption) _)))
          go_wp2
          go_ret
          exact ⟨by rw [HA.out, all_no (k := k) (by have := HN.out; omega) (by rw [HK.out]; rw [hf, hg]; simp)]; rfl, below_drewN HR.out.2 _⟩
        by_cases hu0 : u = 0
        · have hub : (u == 0) = true := by rw [beq_iff_eq]; exact hu0
          clear hu0
          go_wp2
          go_quiet ((go_at_call 115; exact Calls.quiet_of_same (r10_Fits_q _ _ (by assumption) (by assumption) _)))
          go_wp2
          go_ret
          exact ⟨by rw [HA.out, all_no (k := k) (by have := HN.out; omega) (by rw [HK.out]; rw [hub]; rfl)]; rfl, below_drewN HR.out.2 _⟩
        · have hub : (u == 0) = false := by rw [beq_eq_false_iff_ne]; exact hu0
          clear hu0
          go_wp2
          go_quiet ((go_at_call 115; exact Calls.quiet_of_same (r10_Fits_q _ _ (by assumption) (by assumption) _)))
          go_wp2
          go_roundw
          case rel => exact ⟨k + 1, by omega, by go_num, HR.out.step (by rw [HK.out]; rw [hub, hf, hg, HY.out]; rfl) (below_drewN HR.out.2 _)⟩
          case measure => simp [intOf]; omega
    · have hkn : k = n := by omega
      have HS := Lib.hid (all_yes (by rw [hkn]; exact HN.out) hrel)
      have HB := Lib.hid hrel.2
      clear hrel hkn
      go_wp2
      go_ret
      exact ⟨by rw [HA.out, HS.out]; rfl, HB.out⟩
theorem r11_Right {aw ww : Int} {cs : CS} {w : World} {v : Value} (h : Pairs w v cs) :
    Calls Tryz.prog 96 #[.int .i64 aw, .int .i64 ww, v] w fun e w' => e = .returned (.bool (rightB aw ww cs)) ∧ Below w.heap.size w w' := by
  cases hd : (dimB aw ww && decide (cs.length ≤ 4096))
  · rw [rightB_dim hd]
    exact (r11_Right_dim h hd).mono fun e w' ⟨he, hw⟩ => ⟨he, by subst hw; exact Below.refl _ _⟩
  · have hr : rightB aw ww cs = (List.range cs.length).all (okAt aw ww cs) := by unfold rightB; rw [hd]; rfl
    rw [hr]
    rw [Bool.and_eq_true] at hd
    exact r11_Right_loop h hd.1 (of_decide_eq_true hd.2)
def sameC (xs ys : CS) : Bool := decide (xs = ys)
theorem sameC_self (xs : CS) : sameC xs xs = true := decide_eq_true rfl
theorem ext_C {xs ys : CS} (hl : xs.length = ys.length) (h : ∀ j, j < xs.length → xs.getD j (0, 0) = ys.getD j (0, 0)) : xs = ys := by
  apply List.ext_getElem hl
  intro i h1 h2
  have := h i h1
  simpa [List.getD, h1, h2] using this
def SameRelC (xs ys : CS) (k : Nat) (w wr : World) : Prop := (∀ j, j < k → xs.getD j (0, 0) = ys.getD j (0, 0)) ∧ ∃ n, wr = w.drewN n
theorem SameRelC.step {xs ys : CS} {k : Nat} {w wr wr' : World} (h : SameRelC xs ys k w wr) (he : xs.getD k (0, 0) = ys.getD k (0, 0)) (hw : ∃ n, wr' = wr.drewN n) : SameRelC xs ys (k + 1) w wr' := by
  obtain ⟨h1, n, rfl⟩ := h
  obtain ⟨m, rfl⟩ := hw
  refine ⟨fun j hj => ?_, n + m, by rw [World.drewN_drewN]⟩
  rcases Nat.lt_or_ge j k with h | h
  · exact h1 j h
  · obtain rfl : j = k := by omega
    exact he
theorem r11_Same_len {w : World} {v u : Value} {xs ys : CS} (h : Pairs w v xs) (g : Pairs w u ys) (hn : xs.length ≠ ys.length) :
    Calls Tryz.prog 97 #[v, u] w fun e w' => e = .returned (.bool (sameC xs ys)) ∧ w = w' := by
  obtain ⟨a, cap, rfl, -, -, -, -⟩ := h
  obtain ⟨b, cap2, rfl, -, -, -, -⟩ := g
  have hs : sameC xs ys = false := decide_eq_false fun e => hn (by rw [e])
  rw [hs]
  have hb : ((xs.length : Int) != (ys.length : Int)) = true := by rw [bne_iff_ne]; omega
  clear hs hn
  go_enter Tryz.func97, Tryz.ntmps97
  go_wp2
  go_ret
  exact ⟨rfl, rfl⟩
set_option maxHeartbeats 1000000 in
theorem r11_Same {w : World} {v u : Value} {xs ys : CS} (h : Pairs w v xs) (g : Pairs w u ys) :
    Calls Tryz.prog 97 #[v, u] w fun e w' => e = .returned (.bool (sameC xs ys)) ∧ Quiet w w' := by
  by_cases hn : xs.length = ys.length
  · obtain ⟨a, cap, rfl, hc1, hc2, -, hv⟩ := h
    obtain ⟨b, cap2, rfl, -, -, -, hu⟩ := g
    have hm : xs.length ≤ 9223372036854775807 := Nat.le_trans hc1 hc2
    have HX := Lib.hid hv
    have HU := Lib.hid hu
    obtain ⟨n, hnn⟩ : ∃ n, n = xs.length := ⟨_, rfl⟩
    rw [← hn, ← hnn]
    rw [← hnn] at hm
    have HN := Lib.hid hnn
    have HL := Lib.hid hn
    clear hv hu hn hnn hc1 hc2
    go_enter Tryz.func97, Tryz.ntmps97
    go_wp2
    go_loopw [5] (fun i wr => ∃ k : Nat, k ≤ n ∧ i = .int .i64 k ∧ SameRelC xs ys k w wr) (fun i _ => n - (intOf i).toNat)
    case atStart => exact ⟨0, Nat.zero_le _, rfl, fun _ h => absurd h (by omega), 0, rfl⟩
    case round =>
      obtain ⟨k, hk, rfl, hrel⟩ := hrel
      by_cases hlt : (k : Int) < (n : Int)
      · have hne : xs ≠ [] := fun e => by have := HN.out; rw [e] at this; simp at this; omega
        have hne' : ys ≠ [] := fun e => by have := HN.out; rw [HL.out, e] at this; simp at this; omega
        obtain ⟨b1, o1, rfl, -, hx⟩ := HX.out.resolve_left hne
        obtain ⟨b2, o2, rfl, -, hy⟩ := HU.out.resolve_left hne'
        obtain ⟨hkx, hkx'⟩ := hx k (by have := HN.out; omega)
        obtain ⟨hky, hky'⟩ := hy k (by have := HN.out; have := HL.out; omega)
        obtain ⟨x, hxe⟩ : ∃ x, x = (xs.getD k (0, 0)).1 := ⟨_, rfl⟩
        obtain ⟨x', hxe'⟩ : ∃ x, x = (xs.getD k (0, 0)).2 := ⟨_, rfl⟩
        obtain ⟨y, hye⟩ : ∃ y, y = (ys.getD k (0, 0)).1 := ⟨_, rfl⟩
        obtain ⟨y', hye'⟩ : ∃ y, y = (ys.getD k (0, 0)).2 := ⟨_, rfl⟩
        rw [← hxe] at hkx
        rw [← hxe'] at hkx'
        rw [← hye] at hky
        rw [← hye'] at hky'
        have hq : ∃ m, wr = w.drewN m := hrel.2
        have h1 : wr.cell? ⟨b1, o1 + k * 2, none⟩ = some (.int .u64 x) := by obtain ⟨m, rfl⟩ := hq; exact hkx
        have h1' : wr.cell? ⟨b1, o1 + k * 2 + 1, none⟩ = some (.int .u64 x') := by obtain ⟨m, rfl⟩ := hq; exact hkx'
        have h2 : wr.cell? ⟨b2, o2 + k * 2, none⟩ = some (.int .u64 y) := by obtain ⟨m, rfl⟩ := hq; exact hky
        have h2' : wr.cell? ⟨b2, o2 + k * 2 + 1, none⟩ = some (.int .u64 y') := by obtain ⟨m, rfl⟩ := hq; exact hky'
        have HE : Hid (xs.getD k (0, 0) = ys.getD k (0, 0) ↔ (x = y ∧ x' = y')) := Lib.hid (by rw [hxe, hxe', hye, hye', Prod.ext_iff])
        have HR := Lib.hid hrel
        clear hx hy hkx hky hkx' hky' hq hrel hxe hye hxe' hye' hne hne'
        by_cases hxy : x = y
        · subst hxy
          by_cases hxy' : x' = y'
          · subst hxy'
            have HE2 := Lib.hid (HE.out.2 ⟨rfl, rfl⟩)
            clear HE
            go_wp2
            go_quiet (fail)
            go_wp2
            go_roundw
            case rel => exact ⟨k + 1, by omega, by go_num, HR.out.step HE2.out ⟨_, rfl⟩⟩
            case measure => simp [intOf]; omega
          · have hs : sameC xs ys = false := decide_eq_false fun e => hxy' (HE.out.1 (by rw [e])).2
            have HS := Lib.hid hs
            have hq : ∃ m, wr = w.drewN m := HR.out.2
            have HQ := Lib.hid hq
            have hb : (x' == y') = false := by rw [beq_eq_false_iff_ne]; exact hxy'
            have hb' : (x' != y') = true := by rw [bne_iff_ne]; exact hxy'
            clear hxy' HE
            clear hq hs
            go_wp2
            go_quiet (fail)
            go_wp2
            go_ret
            refine ⟨by rw [HS.out]; rfl, ?_⟩
            obtain ⟨m, rfl⟩ := HQ.out
            exact ⟨_, World.drewN_drewN _ _ _⟩
        · have hs : sameC xs ys = false := decide_eq_false fun e => hxy (HE.out.1 (by rw [e])).1
          have HS := Lib.hid hs
          have hq : ∃ m, wr = w.drewN m := HR.out.2
          have HQ := Lib.hid hq
          have hb : (x == y) = false := by rw [beq_eq_false_iff_ne]; exact hxy
          have hb' : (x != y) = true := by rw [bne_iff_ne]; exact hxy
          clear hxy HE
          clear hq hs
          go_wp2
          go_quiet (fail)
          go_wp2
          go_ret
          refine ⟨by rw [HS.out]; rfl, ?_⟩
          obtain ⟨m, rfl⟩ := HQ.out
          exact ⟨_, World.drewN_drewN _ _ _⟩
      · have hs : sameC xs ys = true := decide_eq_true (ext_C HL.out (fun j hj => hrel.1 j (by have := HN.out; omega)))
        have HS := Lib.hid hs
        have HQ := Lib.hid hrel.2
        clear hs hrel
        go_wp2
        go_ret
        exact ⟨by rw [HS.out]; rfl, HQ.out⟩
  · exact (r11_Same_len h g hn).mono fun e w' ⟨h1, h2⟩ => ⟨h1, 0, h2.symm⟩
end Go.Proofs.YtamgbfkpblpfiaaGreatDoor
/-
  Slices read element by element; texts.
-/
namespace Go.Proofs.YtamgbfkpblpfiaaGreatDoor
open Go.ChangeShapes Go.WideShapes Go.ChangeAt Go.RowKit
set_option linter.unusedVariables false
/-- A slice of elements of size cells, each read by R at its first cell. -/
def Seq {α : Type} (w : World) (size : Nat) (R : World → Nat → Nat → α → Prop) (d : α) (v : Value) (xs : List α) : Prop :=
  ∃ a cap, v = .slice a xs.length cap ∧ xs.length ≤ cap ∧ cap ≤ maxLen ∧ (xs = [] ∨ ∃ b off, a = some ⟨b, off, none⟩ ∧ ∀ j, j < xs.length → R w b (off + j * size) (xs.getD j d))
/-- What is read stays below what a call makes. -/
def Stays {α : Type} (R : World → Nat → Nat → α → Prop) : Prop := ∀ {w w' : World} {b o : Nat} {x : α}, R w b o x → Below w.heap.size w w' → R w' b o x
theorem cell_below {w w' : World} {b o : Nat} {u : Value} (h : w.cell? ⟨b, o, none⟩ = some u) (hb : Below w.heap.size w w') : w'.cell? ⟨b, o, none⟩ = some u :=
  (hb.cell (p := ⟨b, o, none⟩) (World.block_lt_of_cell? w _ h)).trans h
theorem Seq.below {α : Type} {w w' : World} {size : Nat} {R : World → Nat → Nat → α → Prop} {d : α} {v : Value} {xs : List α} (hR : Stays R) (h : Seq w size R d v xs) (hb : Below w.heap.size w w') : Seq w' size R d v xs := by
  obtain ⟨a, cap, rfl, h1, h2, h3⟩ := h
  refine ⟨a, cap, rfl, h1, h2, ?_⟩
  rcases h3 with h3 | ⟨b, off, rfl, hc⟩
  · exact .inl h3
  · exact .inr ⟨b, off, rfl, fun j hj => hR (hc j hj) hb⟩
theorem Seq.form {α : Type} {w : World} {size : Nat} {R : World → Nat → Nat → α → Prop} {d : α} {v : Value} {xs : List α} (h : Seq w size R d v xs) : ∃ a cap, v = .slice a xs.length cap ∧ xs.length ≤ cap ∧ cap ≤ maxLen := by
  obtain ⟨a, cap, rfl, h1, h2, -⟩ := h; exact ⟨a, cap, rfl, h1, h2⟩
theorem Seq.at_ {α : Type} {w : World} {size : Nat} {R : World → Nat → Nat → α → Prop} {d : α} {v : Value} {xs : List α} (h : Seq w size R d v xs) {j : Nat} (hj : j < xs.length) :
    ∃ b off cap, v = .slice (some ⟨b, off, none⟩) xs.length cap ∧ R w b (off + j * size) (xs.getD j d) := by
  obtain ⟨a, cap, rfl, -, -, h3⟩ := h
  have hne : xs ≠ [] := fun e => by rw [e] at hj; simp at hj
  obtain ⟨b, off, rfl, hc⟩ := h3.resolve_left hne
  exact ⟨b, off, cap, rfl, hc j hj⟩
theorem Seq.nil {α : Type} (w : World) (size : Nat) (R : World → Nat → Nat → α → Prop) (d : α) : Seq w size R d (.slice none 0 0) [] := ⟨none, 0, rfl, by simp, by simp, .inl rfl⟩
def BoR (w : World) (b o : Nat) (x : Bool) : Prop := w.cell? ⟨b, o, none⟩ = some (.bool x)
abbrev Bo (w : World) (v : Value) (l : List Bool) : Prop := Seq w 1 BoR false v l
def BosR (w : World) (b o : Nat) (l : List Bool) : Prop := ∃ u, w.cell? ⟨b, o, none⟩ = some u ∧ Bo w u l
abbrev Bos (w : World) (v : Value) (l : List (List Bool)) : Prop := Seq w 1 BosR [] v l
def CesR (w : World) (b o : Nat) (l : CS) : Prop := ∃ u, w.cell? ⟨b, o, none⟩ = some u ∧ Pairs w u l
abbrev Ces (w : World) (v : Value) (l : List CS) : Prop := Seq w 1 CesR [] v l
theorem stays_bo : Stays BoR := fun h hb => cell_below h hb
theorem stays_bos : Stays BosR := fun h hb => by obtain ⟨u, h1, h2⟩ := h; exact ⟨u, cell_below h1 hb, h2.below stays_bo hb⟩
theorem stays_ces : Stays CesR := fun h hb => by obtain ⟨u, h1, h2⟩ := h; exact ⟨u, cell_below h1 hb, h2.below hb⟩
theorem run_cat {P : Program} (W : World) (a b c : ByteArray) (h : a.size + b.size ≤ 9223372036854775807) (hc : c = a ++ b) : (Op.stringOp .add a b).run P W = .ok (.string c) W := by
  rw [hc]
  exact run_string_add_sum W a b h
theorem flat_step {α β : Type} (f : α → List β) (d : α) {xs : List α} {k : Nat} (hk : k < xs.length) : (xs.take (k + 1)).flatMap f = (xs.take k).flatMap f ++ f (xs.getD k d) := by
  rw [List.take_succ_eq_append_getElem hk, List.flatMap_append]
  simp [List.getD, hk]
/-- A row of texts in a block of its own. -/
def strsA (ls : List (List UInt8)) : Array Value := (ls.map fun l => Value.string (bs l)).toArray
theorem strs_cell {w : World} {q : Nat} {ls : List (List UInt8)} (h : Blk w q 9 (strsA ls)) {k : Nat} (hk : k < ls.length) : w.cell? ⟨q, k, none⟩ = some (.string (bs (ls.getD k []))) := by
  rw [h.cell k]
  unfold strsA
  simp [hk, List.getD]
end Go.Proofs.YtamgbfkpblpfiaaGreatDoor
