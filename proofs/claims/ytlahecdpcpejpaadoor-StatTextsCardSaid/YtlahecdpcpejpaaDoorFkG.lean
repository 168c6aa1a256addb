/-
  Chapter 40: the example: Of walked; alive.
-/
import Derived.Test.YtlahecdpcpejpaaDoorFkE
import Derived.Test.YtlahecdpcpejpaaDoorFkF
import Derived.BigRegion
namespace Go.Proofs.YtlahecdpcpejpaaDoor
open Go Go.ChangeShapes Go.WideShapes Go.ChangeAt Go.RowKit
set_option linter.unusedVariables false
set_option linter.unusedSimpArgs false
attribute [local go_sem ↓] Go.wp_at_zero Go.wp_at_succ
def exN : NetD := ⟨1, [1], [], [], [2], [], [], []⟩
theorem exN_light : lightN exN = true := by decide
theorem exN_sound : soundN exN = 0 := by decide
theorem exN_lev (v : Int) : Lev (nodesN exN) v 0 := .leaf v (fun i hi => by
  have : (nodesN exN).length = 0 := rfl
  omega)
theorem exN_check : checkN exN = 0 := by
  obtain ⟨V, hs⟩ := soundN_ok exN_sound
  exact checkN_yes exN_sound hs fun v _ _ => ⟨0, exN_lev v⟩
theorem exN_levels : levL exN = [0, 0] := by
  obtain ⟨V, hs⟩ := soundN_ok exN_sound
  unfold levL
  rw [if_pos exN_check]
  show (List.range 2).map (fun v : Nat => ((levF exN v : Nat) : Int)) = [0, 0]
  have h0 : levF exN ((0 : Nat) : Int) = 0 := levF_eq hs (exN_lev _)
  have h1 : levF exN ((1 : Nat) : Int) = 0 := levF_eq hs (exN_lev _)
  show [((levF exN ((0 : Nat) : Int) : Nat) : Int), ((levF exN ((1 : Nat) : Int) : Nat) : Int)] = [0, 0]
  rw [h0, h1]; rfl
def exV (ai ab : Option Addr) : Value := .agg #[.int .i64 1, .slice ai 1 1, .slice none 0 0, .slice none 0 0, .slice ab 1 1, .slice none 0 0, .slice none 0 0, .slice none 0 0]
set_option maxHeartbeats 1000000 in
set_option maxRecDepth 100000 in
theorem sum_ex (ai ab : Option Addr) (f : Value) (w : World) : Calls Tryd.prog 51 #[exV ai ab, f] w fun e w' => e = .returned (.int .i64 0) ∧ Below w.heap.size w w' := by
  unfold exV
  obtain ⟨wb, hwb⟩ : ∃ wb, wb = w.alloc (.cells #[.int .i64 1, .slice ai 1 1, .slice none 0 0, .slice none 0 0, .slice ab 1 1, .slice none 0 0, .slice none 0 0, .slice none 0 0] 28) := ⟨_, rfl⟩
  have HB : Hid (Below w.heap.size w wb) := Lib.hid (by rw [hwb]; exact below_new1 w _)
  have HW := Lib.hid hwb
  clear hwb
  go_enter Tryd.func51, Tryd.ntmps51
  go_wp2
  rw [← HW.out]
  go_loopw [4, 10] (fun a i wr => a = .int .i64 0 ∧ i = .int .i64 0 ∧ wr = wb) (fun _ _ _ => 0)
  case atStart => exact ⟨rfl, rfl, rfl⟩
  case round =>
    obtain ⟨rfl, rfl, rfl⟩ := hrel
    go_wp2
    go_ret
    exact ⟨rfl, HB.out⟩
set_option maxHeartbeats 1000000 in
set_option maxRecDepth 100000 in
theorem bits_ex (ai ab : Option Addr) (w : World) : Calls Tryd.prog 36 #[exV ai ab] w fun e w' => e = .returned (.int .i64 0) ∧ Below w.heap.size w w' := by
  obtain ⟨wb, hwb⟩ : ∃ wb, wb = w.alloc (.cells #[.int .i64 1, .slice ai 1 1, .slice none 0 0, .slice none 0 0, .slice ab 1 1, .slice none 0 0, .slice none 0 0, .slice none 0 0] 28) := ⟨_, rfl⟩
  obtain ⟨b0, hb0⟩ : ∃ b, b = w.heap.size := ⟨_, rfl⟩
  have HB : Hid (Below w.heap.size w wb) := Lib.hid (by rw [hwb]; exact below_new1 w _)
  have HX : Hid (Blk wb b0 28 #[.int .i64 1, .slice ai 1 1, .slice none 0 0, .slice none 0 0, .slice ab 1 1, .slice none 0 0, .slice none 0 0, .slice none 0 0]) := Lib.hid (by rw [hwb, hb0]; exact Blk.new _ _ _)
  have HW := Lib.hid hwb
  have HB0 := Lib.hid hb0
  have HSM := Lib.hid (fun f => sum_ex ai ab f wb)
  unfold exV at HSM ⊢
  clear hwb hb0
  go_enter Tryd.func36, Tryd.ntmps36
  go_wp2_with fail
  rw [← HW.out, ← HB0.out]
  refine (HSM.out _).mono ?_
  rintro e w2 ⟨rfl, hb2⟩
  have c2 : w2.cell? ⟨b0, 2, none⟩ = some (.slice none 0 0) := (HX.out.below hb2 HX.out.lt).cell 2
  have HB2 := Lib.hid (HB.out.trans (hb2.mono HB.out.size))
  clear hb2
  go_wp2
  go_ret
  exact ⟨rfl, HB2.out⟩
theorem LevQ.fresh {w : World} {d : NetD} {e : Ending} {w' : World} (h : LevQ w d e w') (hc0 : checkN d = 0) : ∃ u, e = .returned (.tuple #[u, .bool true]) ∧ Ints w' u (levL d) ∧ Below w.heap.size w w' ∧ ∀ g, u.ownBlock = some g → w.heap.size ≤ g := by
  obtain ⟨hb, ⟨hc, rfl⟩ | ⟨hc, V, hs, bl, lv, rfl, hv, hge, hl⟩⟩ := h
  · exact absurd hc0 hc
  · refine ⟨_, rfl, ?_, hb, fun g hg => by simp [Value.ownBlock] at hg; omega⟩
    rw [levL_of hs hc (lv := fun v => (lv v : Int)) (fun v a b => ⟨by omega, by simpa using hl v a b⟩)]
    exact ints_vblk (f := fun i => ((lv i : Nat) : Int)) hv (by have := hs.lim; omega)
/-- The example, in memory. -/
def ExP (w : World) (ai ab : Option Addr) : Prop := NetP w exN (.slice ai 1 1) (.slice none 0 0) (.slice none 0 0) (.slice ab 1 1) (.slice none 0 0) (.slice none 0 0) (.slice none 0 0)
set_option maxHeartbeats 8000000 in
set_option maxRecDepth 100000 in
theorem stat_Of_ex {w : World} {ai ab : Option Addr} (h : ExP w ai ab) : Calls Tryd.prog 18 #[exV ai ab] w fun e w' => e = .returned (.tuple #[.agg #[.int .i64 1, .int .i64 0, .int .i64 0, .int .i64 0, .int .i64 0, .int .i64 0, .int .i64 1, .int .i64 0, .int .i64 0, .int .i64 0], .int .i64 0]) ∧ Below w.heap.size w w' := by
  obtain ⟨wS, hwS⟩ : ∃ wS, wS = (w.alloc (.cells #[.int .i64 1, .slice ai 1 1, .slice none 0 0, .slice none 0 0, .slice ab 1 1, .slice none 0 0, .slice none 0 0, .slice none 0 0] 28)).alloc (.cells #[.int .i64 0, .int .i64 0, .int .i64 0, .int .i64 0, .int .i64 0, .int .i64 0, .int .i64 0, .int .i64 0, .int .i64 0, .int .i64 0] 32) := ⟨_, rfl⟩
  obtain ⟨b0, hb0⟩ : ∃ b, b = w.heap.size := ⟨_, rfl⟩
  obtain ⟨b1, hb1⟩ : ∃ b, b = w.heap.size + 1 := ⟨_, rfl⟩
  have hbw : Below w.heap.size w wS := by rw [hwS]; exact ((Below.refl _ w).alloc (Nat.le_refl _) _).alloc (by simp) _
  have HX : Hid (Blk wS b0 28 #[.int .i64 1, .slice ai 1 1, .slice none 0 0, .slice none 0 0, .slice ab 1 1, .slice none 0 0, .slice none 0 0, .slice none 0 0]) := Lib.hid (by rw [hwS, hb0]; exact (Blk.new w _ _).alloc _)
  have HY : Hid (Blk wS b1 32 #[.int .i64 0, .int .i64 0, .int .i64 0, .int .i64 0, .int .i64 0, .int .i64 0, .int .i64 0, .int .i64 0, .int .i64 0, .int .i64 0]) := Lib.hid (by
    have e : b1 = (w.alloc (.cells #[.int .i64 1, .slice ai 1 1, .slice none 0 0, .slice none 0 0, .slice ab 1 1, .slice none 0 0, .slice none 0 0, .slice none 0 0] 28)).heap.size := by rw [hb1]; simp
    rw [hwS, e]; exact Blk.new _ _ _)
  have hlev := (topo_Levels (NetP.below h hbw) exN_light).mono (fun e w' h => LevQ.fresh h exN_check)
  rw [exN_levels] at hlev
  have HLEV : Hid (Calls Tryd.prog 31 #[exV ai ab] wS fun e w' => ∃ u, e = .returned (.tuple #[u, .bool true]) ∧ Ints w' u [0, 0] ∧ Below wS.heap.size wS w' ∧ ∀ g, u.ownBlock = some g → wS.heap.size ≤ g) := Lib.hid hlev
  have HWS := Lib.hid hwS
  have HBW := Lib.hid hbw
  have HB0 := Lib.hid hb0
  have HB1 : Hid (b1 = b0 + 1) := Lib.hid (by rw [hb1, hb0])
  unfold exV at HLEV ⊢
  clear h hwS hbw hb0 hb1 hlev
  go_enter Tryd.func18, Tryd.ntmps18
  go_wp2_with fail
  rw [← HWS.out, ← HB0.out, ← HB1.out]
  refine HLEV.out.mono ?_
  rintro e w2 ⟨u, rfl, hi2, hb2, hfr⟩
  obtain ⟨ua, uc, hue, -, -⟩ := hi2.form2
  have hue : u = .slice ua 2 uc := hue
  subst hue
  have HI2 := Lib.hid hi2
  have HFR := Lib.hid hfr
  have HB2 := Lib.hid (HBW.out.trans (hb2.mono HBW.out.size))
  have hx := HX.out.below hb2 HX.out.lt
  have hy := HY.out.below hb2 HY.out.lt
  have HX2 := Lib.hid hx
  have HY2 := Lib.hid hy
  have c1 : w2.cell? ⟨b0, 1, none⟩ = some (.slice ai 1 1) := hx.cell 1
  have c2 : w2.cell? ⟨b0, 2, none⟩ = some (.slice none 0 0) := hx.cell 2
  have c6 : w2.cell? ⟨b0, 6, none⟩ = some (.slice none 0 0) := hx.cell 6
  have c7 : w2.cell? ⟨b0, 7, none⟩ = some (.slice none 0 0) := hx.cell 7
  have k0 : w2.cell? ⟨b1, 0, none⟩ = some (.int .i64 0) := hy.cell 0
  have k1 : w2.cell? ⟨b1, 1, none⟩ = some (.int .i64 0) := hy.cell 1
  have k2 : w2.cell? ⟨b1, 2, none⟩ = some (.int .i64 0) := hy.cell 2
  have k3 : w2.cell? ⟨b1, 3, none⟩ = some (.int .i64 0) := hy.cell 3
  have f0 : w2.frozen? ⟨b1, 0, none⟩ = false := hy.frozen 0
  have f1 : w2.frozen? ⟨b1, 1, none⟩ = false := hy.frozen 1
  have f2 : w2.frozen? ⟨b1, 2, none⟩ = false := hy.frozen 2
  have f3 : w2.frozen? ⟨b1, 3, none⟩ = false := hy.frozen 3
  have hne : b0 ≠ b1 := by have := HB1.out; omega
  clear hi2 hb2 hx hy hfr
  go_wp2
  go_region
  obtain ⟨wA, hwA⟩ : ∃ wA, wA = ((((w2.setCell ⟨b1, 0, none⟩ (.int .i64 1)).setCell ⟨b1, 1, none⟩ (.int .i64 0)).setCell ⟨b1, 2, none⟩ (.int .i64 0)).setCell ⟨b1, 3, none⟩ (.int .i64 0)).drew := ⟨_, rfl⟩
  have hxA : Blk wA b0 28 #[.int .i64 1, .slice ai 1 1, .slice none 0 0, .slice none 0 0, .slice ab 1 1, .slice none 0 0, .slice none 0 0, .slice none 0 0] := by
    rw [hwA]
    exact ((((HX2.out.far (p := ⟨b1, 0, none⟩) hne _).far (p := ⟨b1, 1, none⟩) hne _).far (p := ⟨b1, 2, none⟩) hne _).far (p := ⟨b1, 3, none⟩) hne _)
  have hyA : Blk wA b1 32 #[.int .i64 1, .int .i64 0, .int .i64 0, .int .i64 0, .int .i64 0, .int .i64 0, .int .i64 0, .int .i64 0, .int .i64 0, .int .i64 0] := by
    rw [hwA]
    exact ((((HY2.out.set_ 0 _).set_ 1 _).set_ 2 _).set_ 3 _)
  have hcA : Chg (fun i => i = b1) w2 wA := by
    rw [hwA]
    exact (((((Chg.refl (fun i => i = b1) w2).setCell (p := ⟨b1, 0, none⟩) (.inl rfl) _).setCell (p := ⟨b1, 1, none⟩) (.inl rfl) _).setCell (p := ⟨b1, 2, none⟩) (.inl rfl) _).setCell (p := ⟨b1, 3, none⟩) (.inl rfl) _).drew
  rw [← hwA]
  have HXA := Lib.hid hxA
  have HYA := Lib.hid hyA
  have HCA := Lib.hid hcA
  clear hwA c1 c2 c6 c7 k0 k1 k2 k3 f0 f1 f2 f3
  have c6 : wA.cell? ⟨b0, 6, none⟩ = some (.slice none 0 0) := hxA.cell 6
  clear hxA hyA hcA
  go_wp2
  go_loopw [37] (fun i wr => i = .int .i64 0 ∧ wr = wA) (fun _ _ => 0)
  case atStart => exact ⟨rfl, rfl⟩
  case round =>
    obtain ⟨rfl, rfl⟩ := hrel
    have c4 : wr.cell? ⟨b0, 4, none⟩ = some (.slice ab 1 1) := HXA.out.cell 4
    have c5 : wr.cell? ⟨b0, 5, none⟩ = some (.slice none 0 0) := HXA.out.cell 5
    have k6 : wr.cell? ⟨b1, 6, none⟩ = some (.int .i64 0) := HYA.out.cell 6
    have k7 : wr.cell? ⟨b1, 7, none⟩ = some (.int .i64 0) := HYA.out.cell 7
    have f6 : wr.frozen? ⟨b1, 6, none⟩ = false := HYA.out.frozen 6
    have f7 : wr.frozen? ⟨b1, 7, none⟩ = false := HYA.out.frozen 7
    go_wp2
    go_region
    obtain ⟨wC, hwC⟩ : ∃ wC, wC = ((wr.setCell ⟨b1, 6, none⟩ (.int .i64 1)).setCell ⟨b1, 7, none⟩ (.int .i64 0)).drew := ⟨_, rfl⟩
    have hxC : Blk wC b0 28 #[.int .i64 1, .slice ai 1 1, .slice none 0 0, .slice none 0 0, .slice ab 1 1, .slice none 0 0, .slice none 0 0, .slice none 0 0] := by
      rw [hwC]
      exact (HXA.out.far (p := ⟨b1, 6, none⟩) hne _).far (p := ⟨b1, 7, none⟩) hne _
    have hyC : Blk wC b1 32 #[.int .i64 1, .int .i64 0, .int .i64 0, .int .i64 0, .int .i64 0, .int .i64 0, .int .i64 1, .int .i64 0, .int .i64 0, .int .i64 0] := by
      rw [hwC]
      exact (HYA.out.set_ 6 _).set_ 7 _
    have hcC : Chg (fun i => i = b1) wr wC := by
      rw [hwC]
      exact (((Chg.refl (fun i => i = b1) wr).setCell (p := ⟨b1, 6, none⟩) (.inl rfl) _).setCell (p := ⟨b1, 7, none⟩) (.inl rfl) _).drew
    rw [← hwC]
    have hcC2 : Chg (fun i => i = b1) w2 wC := HCA.out.trans hcC (fun i hi => .inl hi)
    have HXC := Lib.hid hxC
    have HYC := Lib.hid hyC
    have HCC := Lib.hid hcC2
    have hNI : ∀ b, (Value.slice ua 2 uc).ownBlock = some b → b ≠ b1 := fun b hb e => by
      have h1 := HFR.out b hb
      have h2 := HY.out.lt
      omega
    have HIC := Lib.hid (HI2.out.chg hcC2 hNI)
    have HBC : Hid (Below w.heap.size w wC) := Lib.hid (HB2.out.trans (hcC2.below HB2.out.size fun i hi => by rw [hi, HB1.out, HB0.out]; omega))
    have HMX : Hid (∀ W, Below wC.heap.size wC W → Calls Tryd.prog 32 #[.slice ua 2 uc] W fun e w' => e = .returned (.int .i64 0) ∧ w' = W) := Lib.hid fun W hW => slices_Max (HIC.out.below hW) (by decide)
    have HBT : Hid (∀ W, Calls Tryd.prog 36 #[exV ai ab] W fun e w' => e = .returned (.int .i64 0) ∧ Below W.heap.size W w') := Lib.hid fun W => bits_ex ai ab W
    unfold exV at HBT
    clear hwC hxC hyC hcC hcC2 c4 c5 c6 k6 k7 f6 f7
    have hx4 := HXC.out
    have hy4 := HYC.out
    have c0 : wC.cell? ⟨b0, 0, none⟩ = some (.int .i64 1) := hx4.cell 0
    have c1 : wC.cell? ⟨b0, 1, none⟩ = some (.slice ai 1 1) := hx4.cell 1
    have c2 : wC.cell? ⟨b0, 2, none⟩ = some (.slice none 0 0) := hx4.cell 2
    have c3 : wC.cell? ⟨b0, 3, none⟩ = some (.slice none 0 0) := hx4.cell 3
    have c4 : wC.cell? ⟨b0, 4, none⟩ = some (.slice ab 1 1) := hx4.cell 4
    have c5 : wC.cell? ⟨b0, 5, none⟩ = some (.slice none 0 0) := hx4.cell 5
    have c6 : wC.cell? ⟨b0, 6, none⟩ = some (.slice none 0 0) := hx4.cell 6
    have c7 : wC.cell? ⟨b0, 7, none⟩ = some (.slice none 0 0) := hx4.cell 7
    have k8 : wC.cell? ⟨b1, 8, none⟩ = some (.int .i64 0) := hy4.cell 8
    have f8 : wC.frozen? ⟨b1, 8, none⟩ = false := hy4.frozen 8
    have k9 : wC.cell? ⟨b1, 9, none⟩ = some (.int .i64 0) := hy4.cell 9
    have f9 : wC.frozen? ⟨b1, 9, none⟩ = false := hy4.frozen 9
    clear hx4 hy4
    have KB4 : Hid (Below wC.heap.size wC wC) := Lib.hid (Below.refl _ _)
    go_wp2
    go_region_held3 (fun w' => w'.cell? ⟨b0, 0, none⟩ = some (.int .i64 1) ∧ w'.cell? ⟨b0, 1, none⟩ = some (.slice ai 1 1) ∧ w'.cell? ⟨b0, 2, none⟩ = some (.slice none 0 0) ∧ w'.cell? ⟨b0, 3, none⟩ = some (.slice none 0 0) ∧ w'.cell? ⟨b0, 4, none⟩ = some (.slice ab 1 1) ∧ w'.cell? ⟨b0, 5, none⟩ = some (.slice none 0 0) ∧ w'.cell? ⟨b0, 6, none⟩ = some (.slice none 0 0) ∧ w'.cell? ⟨b0, 7, none⟩ = some (.slice none 0 0)) (first | (with_reducible exact HS8.out) | (with_reducible exact HS9.out) | (with_reducible exact HS89.out) | (with_reducible exact HS98.out) | go_keep) (first
      | (go_at_call 32; refine (HMX.out _ (by first | exact KB4.out | exact KB4.out.drew | exact KB5.out | exact KB5.out.drew)).mono ?_; rintro e w4 ⟨rfl, rfl⟩)
      | (go_at_call 36; refine (HBT.out _).mono ?_; rintro e w5 ⟨rfl, hb5⟩; have hb5 : Below wC.heap.size wC w5 := (by first | exact hb5 | exact ((Below.refl _ wC).drew).trans hb5); have KB5 := Lib.hid hb5; have hx5 := HXC.out.below hb5 HXC.out.lt; have hy5 := HYC.out.below hb5 HYC.out.lt; have c0 : w5.cell? ⟨b0, 0, none⟩ = some (.int .i64 1) := hx5.cell 0; have c1 : w5.cell? ⟨b0, 1, none⟩ = some (.slice ai 1 1) := hx5.cell 1; have c2 : w5.cell? ⟨b0, 2, none⟩ = some (.slice none 0 0) := hx5.cell 2; have c3 : w5.cell? ⟨b0, 3, none⟩ = some (.slice none 0 0) := hx5.cell 3; have c4 : w5.cell? ⟨b0, 4, none⟩ = some (.slice ab 1 1) := hx5.cell 4; have c5 : w5.cell? ⟨b0, 5, none⟩ = some (.slice none 0 0) := hx5.cell 5; have c6 : w5.cell? ⟨b0, 6, none⟩ = some (.slice none 0 0) := hx5.cell 6; have c7 : w5.cell? ⟨b0, 7, none⟩ = some (.slice none 0 0) := hx5.cell 7; have k8 : w5.cell? ⟨b1, 8, none⟩ = some (.int .i64 0) := hy5.cell 8; have f8 : w5.frozen? ⟨b1, 8, none⟩ = false := hy5.frozen 8; have k9 : w5.cell? ⟨b1, 9, none⟩ = some (.int .i64 0) := hy5.cell 9; have f9 : w5.frozen? ⟨b1, 9, none⟩ = false := hy5.frozen 9; have x8 := hx5.far (p := ⟨b1, 8, none⟩) hne (.int .i64 0); have x9 := hx5.far (p := ⟨b1, 9, none⟩) hne (.int .i64 0); have x89 := x8.far (p := ⟨b1, 9, none⟩) hne (.int .i64 0); have x98 := x9.far (p := ⟨b1, 8, none⟩) hne (.int .i64 0); have HS8 : Hid ((fun w' : World => w'.cell? ⟨b0, 0, none⟩ = some (.int .i64 1) ∧ w'.cell? ⟨b0, 1, none⟩ = some (.slice ai 1 1) ∧ w'.cell? ⟨b0, 2, none⟩ = some (.slice none 0 0) ∧ w'.cell? ⟨b0, 3, none⟩ = some (.slice none 0 0) ∧ w'.cell? ⟨b0, 4, none⟩ = some (.slice ab 1 1) ∧ w'.cell? ⟨b0, 5, none⟩ = some (.slice none 0 0) ∧ w'.cell? ⟨b0, 6, none⟩ = some (.slice none 0 0) ∧ w'.cell? ⟨b0, 7, none⟩ = some (.slice none 0 0)) (w5.setCell ⟨b1, 8, none⟩ (.int .i64 0))) := Lib.hid ⟨x8.cell 0, x8.cell 1, x8.cell 2, x8.cell 3, x8.cell 4, x8.cell 5, x8.cell 6, x8.cell 7⟩; have HS9 : Hid ((fun w' : World => w'.cell? ⟨b0, 0, none⟩ = some (.int .i64 1) ∧ w'.cell? ⟨b0, 1, none⟩ = some (.slice ai 1 1) ∧ w'.cell? ⟨b0, 2, none⟩ = some (.slice none 0 0) ∧ w'.cell? ⟨b0, 3, none⟩ = some (.slice none 0 0) ∧ w'.cell? ⟨b0, 4, none⟩ = some (.slice ab 1 1) ∧ w'.cell? ⟨b0, 5, none⟩ = some (.slice none 0 0) ∧ w'.cell? ⟨b0, 6, none⟩ = some (.slice none 0 0) ∧ w'.cell? ⟨b0, 7, none⟩ = some (.slice none 0 0)) (w5.setCell ⟨b1, 9, none⟩ (.int .i64 0))) := Lib.hid ⟨x9.cell 0, x9.cell 1, x9.cell 2, x9.cell 3, x9.cell 4, x9.cell 5, x9.cell 6, x9.cell 7⟩; have HS89 : Hid ((fun w' : World => w'.cell? ⟨b0, 0, none⟩ = some (.int .i64 1) ∧ w'.cell? ⟨b0, 1, none⟩ = some (.slice ai 1 1) ∧ w'.cell? ⟨b0, 2, none⟩ = some (.slice none 0 0) ∧ w'.cell? ⟨b0, 3, none⟩ = some (.slice none 0 0) ∧ w'.cell? ⟨b0, 4, none⟩ = some (.slice ab 1 1) ∧ w'.cell? ⟨b0, 5, none⟩ = some (.slice none 0 0) ∧ w'.cell? ⟨b0, 6, none⟩ = some (.slice none 0 0) ∧ w'.cell? ⟨b0, 7, none⟩ = some (.slice none 0 0)) ((w5.setCell ⟨b1, 8, none⟩ (.int .i64 0)).setCell ⟨b1, 9, none⟩ (.int .i64 0))) := Lib.hid ⟨x89.cell 0, x89.cell 1, x89.cell 2, x89.cell 3, x89.cell 4, x89.cell 5, x89.cell 6, x89.cell 7⟩; have HS98 : Hid ((fun w' : World => w'.cell? ⟨b0, 0, none⟩ = some (.int .i64 1) ∧ w'.cell? ⟨b0, 1, none⟩ = some (.slice ai 1 1) ∧ w'.cell? ⟨b0, 2, none⟩ = some (.slice none 0 0) ∧ w'.cell? ⟨b0, 3, none⟩ = some (.slice none 0 0) ∧ w'.cell? ⟨b0, 4, none⟩ = some (.slice ab 1 1) ∧ w'.cell? ⟨b0, 5, none⟩ = some (.slice none 0 0) ∧ w'.cell? ⟨b0, 6, none⟩ = some (.slice none 0 0) ∧ w'.cell? ⟨b0, 7, none⟩ = some (.slice none 0 0)) ((w5.setCell ⟨b1, 9, none⟩ (.int .i64 0)).setCell ⟨b1, 8, none⟩ (.int .i64 0))) := Lib.hid ⟨x98.cell 0, x98.cell 1, x98.cell 2, x98.cell 3, x98.cell 4, x98.cell 5, x98.cell 6, x98.cell 7⟩; have HX5 := Lib.hid hx5; have HY5 := Lib.hid hy5; clear x8 x9 x89 x98 hx5 hy5 hb5))
    obtain ⟨wD, hwD⟩ : ∃ wD, wD = (w5.setCell ⟨b1, 8, none⟩ (.int .i64 0)).setCell ⟨b1, 9, none⟩ (.int .i64 0) := ⟨_, rfl⟩
    have hyD : Blk wD b1 32 #[.int .i64 1, .int .i64 0, .int .i64 0, .int .i64 0, .int .i64 0, .int .i64 0, .int .i64 1, .int .i64 0, .int .i64 0, .int .i64 0] := by
      rw [hwD]
      exact (HY5.out.set_ 8 _).set_ 9 _
    have hcD : Chg (fun i => i = b1) w5 wD := by
      rw [hwD]
      exact ((Chg.refl (fun i => i = b1) w5).setCell (p := ⟨b1, 8, none⟩) (.inl rfl) _).setCell (p := ⟨b1, 9, none⟩) (.inl rfl) _
    have hBD : Below w.heap.size w wD := (HBC.out.trans (KB5.out.mono HBC.out.size)).trans (hcD.below (Nat.le_trans HBC.out.size KB5.out.size) fun i hi => by rw [hi, HB1.out, HB0.out]; omega)
    rw [← hwD]
    have HYD := Lib.hid hyD
    have HBD := Lib.hid hBD
    clear HS8 HS9 HS89 HS98 hwD hcD hBD c0 c1 c2 c3 c4 c5 c6 c7 k8 k9 f8 f9
    have m0 : wD.cell? ⟨b1, 0, none⟩ = some (.int .i64 1) := hyD.cell 0
    have m1 : wD.cell? ⟨b1, 1, none⟩ = some (.int .i64 0) := hyD.cell 1
    have m2 : wD.cell? ⟨b1, 2, none⟩ = some (.int .i64 0) := hyD.cell 2
    have m3 : wD.cell? ⟨b1, 3, none⟩ = some (.int .i64 0) := hyD.cell 3
    have m4 : wD.cell? ⟨b1, 4, none⟩ = some (.int .i64 0) := hyD.cell 4
    have m5 : wD.cell? ⟨b1, 5, none⟩ = some (.int .i64 0) := hyD.cell 5
    have m6 : wD.cell? ⟨b1, 6, none⟩ = some (.int .i64 1) := hyD.cell 6
    have m7 : wD.cell? ⟨b1, 7, none⟩ = some (.int .i64 0) := hyD.cell 7
    have m8 : wD.cell? ⟨b1, 8, none⟩ = some (.int .i64 0) := hyD.cell 8
    have m9 : wD.cell? ⟨b1, 9, none⟩ = some (.int .i64 0) := hyD.cell 9
    have g0 : wD.frozen? ⟨b1, 0, none⟩ = false := hyD.frozen 0
    have g1 : wD.frozen? ⟨b1, 1, none⟩ = false := hyD.frozen 1
    have g2 : wD.frozen? ⟨b1, 2, none⟩ = false := hyD.frozen 2
    have g3 : wD.frozen? ⟨b1, 3, none⟩ = false := hyD.frozen 3
    have g4 : wD.frozen? ⟨b1, 4, none⟩ = false := hyD.frozen 4
    have g5 : wD.frozen? ⟨b1, 5, none⟩ = false := hyD.frozen 5
    have g6 : wD.frozen? ⟨b1, 6, none⟩ = false := hyD.frozen 6
    have g7 : wD.frozen? ⟨b1, 7, none⟩ = false := hyD.frozen 7
    have g8 : wD.frozen? ⟨b1, 8, none⟩ = false := hyD.frozen 8
    have g9 : wD.frozen? ⟨b1, 9, none⟩ = false := hyD.frozen 9
    clear hyD
    go_wp2
    obtain ⟨WF, hWF⟩ : ∃ WF, WF = ((((((((((wD.setCell ⟨b1, 0, none⟩ (.int .i64 1)).setCell ⟨b1, 1, none⟩ (.int .i64 0)).setCell ⟨b1, 2, none⟩ (.int .i64 0)).setCell ⟨b1, 3, none⟩ (.int .i64 0)).setCell ⟨b1, 4, none⟩ (.int .i64 0)).setCell ⟨b1, 5, none⟩ (.int .i64 0)).setCell ⟨b1, 6, none⟩ (.int .i64 1)).setCell ⟨b1, 7, none⟩ (.int .i64 0)).setCell ⟨b1, 8, none⟩ (.int .i64 0)).setCell ⟨b1, 9, none⟩ (.int .i64 0)) := ⟨_, rfl⟩
    have hyF : Blk WF b1 32 #[.int .i64 1, .int .i64 0, .int .i64 0, .int .i64 0, .int .i64 0, .int .i64 0, .int .i64 1, .int .i64 0, .int .i64 0, .int .i64 0] := by rw [hWF]; exact ((((((((((HYD.out.set_ 0 _).set_ 1 _).set_ 2 _).set_ 3 _).set_ 4 _).set_ 5 _).set_ 6 _).set_ 7 _).set_ 8 _).set_ 9 _)
    have hcF : Chg (fun i => i = b1) wD WF := by rw [hWF]; exact (((((((((((Chg.refl (fun i => i = b1) wD).setCell (p := ⟨b1, 0, none⟩) (.inl rfl) _).setCell (p := ⟨b1, 1, none⟩) (.inl rfl) _).setCell (p := ⟨b1, 2, none⟩) (.inl rfl) _).setCell (p := ⟨b1, 3, none⟩) (.inl rfl) _).setCell (p := ⟨b1, 4, none⟩) (.inl rfl) _).setCell (p := ⟨b1, 5, none⟩) (.inl rfl) _).setCell (p := ⟨b1, 6, none⟩) (.inl rfl) _).setCell (p := ⟨b1, 7, none⟩) (.inl rfl) _).setCell (p := ⟨b1, 8, none⟩) (.inl rfl) _).setCell (p := ⟨b1, 9, none⟩) (.inl rfl) _)
    have HF : Hid (Below w.heap.size w WF) := Lib.hid (HBD.out.trans (hcF.below HBD.out.size fun i hi => by rw [hi, HB1.out, HB0.out]; omega))
    rw [← hWF]
    clear hWF hcF m0 m1 m2 m3 m4 m5 m6 m7 m8 m9 g0 g1 g2 g3 g4 g5 g6 g7 g8 g9
    have z0 : WF.cell? ⟨b1, 0, none⟩ = some (.int .i64 1) := hyF.cell 0
    have z1 : WF.cell? ⟨b1, 1, none⟩ = some (.int .i64 0) := hyF.cell 1
    have z2 : WF.cell? ⟨b1, 2, none⟩ = some (.int .i64 0) := hyF.cell 2
    have z3 : WF.cell? ⟨b1, 3, none⟩ = some (.int .i64 0) := hyF.cell 3
    have z4 : WF.cell? ⟨b1, 4, none⟩ = some (.int .i64 0) := hyF.cell 4
    have z5 : WF.cell? ⟨b1, 5, none⟩ = some (.int .i64 0) := hyF.cell 5
    have z6 : WF.cell? ⟨b1, 6, none⟩ = some (.int .i64 1) := hyF.cell 6
    have z7 : WF.cell? ⟨b1, 7, none⟩ = some (.int .i64 0) := hyF.cell 7
    have z8 : WF.cell? ⟨b1, 8, none⟩ = some (.int .i64 0) := hyF.cell 8
    have z9 : WF.cell? ⟨b1, 9, none⟩ = some (.int .i64 0) := hyF.cell 9
    refine bodyPost_ret (v := .tuple #[.agg #[.int .i64 1, .int .i64 0, .int .i64 0, .int .i64 0, .int .i64 0, .int .i64 0, .int .i64 1, .int .i64 0, .int .i64 0, .int .i64 0], .int .i64 0]) (by simp [results, Tryd.results18, go_sem, z0, z1, z2, z3, z4, z5, z6, z7, z8, z9]) rfl ⟨rfl, HF.out⟩
end Go.Proofs.YtlahecdpcpejpaaDoor
