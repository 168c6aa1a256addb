/-
  The laws of chapter 11: RamPlays.
-/
import Derived.Test.YtpohekmfdbleeaaRamZ
import Derived.Test.YtpohekmfdbleeaaRegion
import Derived.Deep.DeepCutAuto
import Derived.Deep.DrawnRows
namespace Go.Proofs.Ytpohekmfdbleeaa
open Go.ChangeShapes Go.WideShapes Go.ChangeAt Go.RowKit Go.Maps
set_option linter.unusedVariables false
attribute [local go_sem ↓] Go.wp_at_zero Go.wp_at_succ
structure PlayRel (w wr : World) (r bm : Nat) (aw ww : Int) (u : Value) (cs : CS) (k : Nat) : Prop where
  mem : Mem w.heap.size w wr r bm aw ww cs
  pairs : Pairs wr u cs
  good : Good aw ww cs
  len : cs.length ≤ k
  low : ∀ g, u.ownBlock = some g → w.heap.size ≤ g
theorem PlayRel.below {w wr wx : World} {r bm : Nat} {aw ww : Int} {u : Value} {cs : CS} {k : Nat} (h : PlayRel w wr r bm aw ww u cs k) (hb : Below wr.heap.size wr wx) : PlayRel w wx r bm aw ww u cs k :=
  ⟨h.mem.below hb, h.pairs.below hb, h.good, h.len, h.low⟩
theorem PlayRel.drew {w wr : World} {r bm : Nat} {aw ww : Int} {u : Value} {cs : CS} {k : Nat} (h : PlayRel w wr r bm aw ww u cs k) : PlayRel w wr.drew r bm aw ww u cs k := h.below (Below.refl _ _).drew
theorem PlayRel.next {w wr : World} {r bm : Nat} {aw ww : Int} {u : Value} {cs : CS} {k : Nat} (h : PlayRel w wr r bm aw ww u cs k) : PlayRel w wr r bm aw ww u cs (k + 1) := ⟨h.mem, h.pairs, h.good, by have := h.len; omega, h.low⟩
theorem PlayRel.wrote {w wr wx : World} {r bm : Nat} {aw ww : Int} {u : Value} {cs : CS} {k : Nat} {x v : Int} (h : PlayRel w wr r bm aw ww u cs k) (hp : WrPost wr r bm aw ww (wrI aw ww cs x v) wx) (hno : (fitsB x aw && fitsB v ww) = false) : PlayRel w wx r bm aw ww u cs k := by
  unfold wrI at hp
  rw [hno] at hp
  exact ⟨h.mem.write hp, h.pairs.wrote h.mem.1.2 hp.2, h.good, h.len, h.low⟩
theorem PlayRel.put {w wr wx wy : World} {r bm : Nat} {aw ww : Int} {u u' : Value} {cs : CS} {k : Nat} {x v : Int} (h : PlayRel w wr r bm aw ww u cs k) (hp : WrPost wr r bm aw ww (wrI aw ww cs x v) wx) (hx : wf x) (hv : wf v) (hyes : (fitsB x aw && fitsB v ww) = true) (ho : OwnC wx.drew wy u' (refW cs x v)) : PlayRel w wy r bm aw ww u' (wrC cs x v) (k + 1) := by
  unfold wrI at hp
  rw [hyes, if_pos rfl] at hp
  obtain ⟨h1, h2⟩ := Bool.and_eq_true_iff.1 hyes
  rw [refW_law h.good.1] at ho
  have hg := h.good.wr hx hv h1 h2
  have hm := h.mem.write hp
  exact ⟨hm.below ((Below.refl _ wx).drew.trans ho.2.1), ho.pairs hg.wf, hg, by have := len_wr cs x v; have := h.len; omega, fun g hg' => Nat.le_trans hm.2.2.2.2 (ho.2.2 g hg')⟩
theorem Pairs.form {w : World} {v : Value} {cs : CS} (h : Pairs w v cs) : ∃ a cap, v = .slice a cs.length cap := by
  obtain ⟨a, cap, h, -⟩ := h
  exact ⟨a, cap, h⟩
set_option maxRecDepth 100000 in
theorem plays_off {w : World} {v : Value} {l : AS} (h : Acts w v l) (aw ww x : Int) (hd : (decide (l.length ≤ 60) && dimB aw ww) = false) :
    Calls Try.prog 5 #[.int .i64 aw, .int .i64 ww, v, .int .u64 x] w fun e w' => e = .returned (.bool true) ∧ Below w.heap.size w w' := by
  obtain ⟨a, cap, rfl, -, -, -, -⟩ := h
  have hd' : aw < 1 ∨ 62 < aw ∨ ww < 1 ∨ 64 < ww ∨ (60 : Int) < (l.length : Int) := by
    unfold dimB at hd
    simp only [Bool.and_eq_false_iff, decide_eq_false_iff_not] at hd
    omega
  have HD := Lib.hid hd'
  clear hd hd'
  go_enter Try.func5, Try.ntmps5
  go_wp2_with ((go_at_call 7; refine (alive _).mono ?_; rintro e w' ⟨rfl, hb⟩))
  all_goals first
    | (go_ret; exact ⟨rfl, hb⟩)
    | (exfalso; have := HD.out; omega)
set_option maxHeartbeats 8000000 in
set_option maxRecDepth 100000 in
theorem plays_on {w : World} {v : Value} {l : AS} (h : Acts w v l) (aw ww x : Int) (hx : wf x) (hl : l.length ≤ 60) (hd : dimB aw ww = true) :
    Calls Try.prog 5 #[.int .i64 aw, .int .i64 ww, v, .int .u64 x] w fun e w' => e = .returned (.bool true) ∧ Below w.heap.size w w' := by
  obtain ⟨a, cap, rfl, hc1, hc2, hwf, hcell⟩ := h
  obtain ⟨d1, d2, d3, d4⟩ := of_decide_eq_true hd
  have hr : rightB aw ww [] = true := by unfold rightB; rw [hd]; rfl
  obtain ⟨n, hn⟩ : ∃ n, n = l.length := ⟨_, rfl⟩
  rw [← hn] at hc1 hl ⊢
  have HN := Lib.hid hn
  have HV := Lib.hid hcell
  have HW := Lib.hid hwf
  have HR := Lib.hid hr
  have HX := Lib.hid hx
  clear hcell hn hc1 hc2 hwf hr hd hx
  go_enter Try.func5, Try.ntmps5
  go_wp2_with fail
  refine (ram_Load_yes (pairs_nil w) HR.out).mono ?_
  rintro e w1 ⟨r, bm, rfl, hL⟩
  have H0 : Hid (PlayRel w w1 r bm aw ww (.slice none 0 0) [] 0) := Lib.hid ⟨hL.mem, pairs_nil _, Good.nil _ _, by simp, fun g hg => by simp [Value.ownBlock] at hg⟩
  clear hL
  go_wp2_with fail
  go_loopw [11, 12] (fun u i wr => ∃ k : Nat, k ≤ n ∧ i = .int .i64 k ∧ ∃ cs, PlayRel w wr r bm aw ww u cs k) (fun _ i _ => n - (intOf i).toNat)
  case atStart => exact ⟨0, Nat.zero_le _, rfl, [], H0.out⟩
  case round =>
    obtain ⟨k, hk, rfl, cs, hrel⟩ := hrel
    have HA := Lib.hid hrel
    clear hrel
    by_cases hlt : (k : Int) < (n : Int)
    · have hkn : k < l.length := by have := HN.out; omega
      obtain ⟨b, off, rfl, hbl, hcell⟩ := acts_cells HV.out hkn
      have HC := Lib.hid hcell
      obtain ⟨q0, q1, q2⟩ := hcell wr HA.out.mem.2.2.2.1
      obtain ⟨hy, hz⟩ := wf_acts HW.out k
      obtain ⟨kd, hkd⟩ : ∃ y, y = (l.getD k (0, 0, 0)).1 := ⟨_, rfl⟩
      obtain ⟨y, hye⟩ : ∃ y, y = (l.getD k (0, 0, 0)).2.1 := ⟨_, rfl⟩
      obtain ⟨z, hze⟩ : ∃ y, y = (l.getD k (0, 0, 0)).2.2 := ⟨_, rfl⟩
      rw [← hkd] at q0 HC
      rw [← hye] at q1 HC hy
      rw [← hze] at q2 HC hz
      obtain ⟨y0, y1⟩ := id hy
      obtain ⟨z0, z1⟩ := id hz
      have HY := Lib.hid hy
      have HZ := Lib.hid hz
      have HT : Hid (rising cs ∧ (∀ p ∈ cs, wf p.1 ∧ wf p.2) ∧ cs.length < maxLen ∧ cs.length ≤ 1000000) := Lib.hid ⟨HA.out.good.1, HA.out.good.wf, by have := HA.out.len; unfold maxLen; omega, by have := HA.out.len; omega⟩
      clear hcell hkn hkd hye hze hy hz
      go_upto_if 71 with ((go_at_call 17; refine (r10_Fits _ _ (by assumption) (by assumption) _).mono ?_; rintro e w' ⟨rfl, rfl⟩))
      all_goals
        go_cut [11, 13] (fun s11 s13 wx => ∃ cs', PlayRel w wx r bm aw ww s11 cs' (k + 1))
        case first =>
          cases hg : fitsB z ww
          all_goals
            by_cases hk1 : kd = 1
            · subst hk1
              go_wp2_with fail
              go_region_held3 (fun w' => w'.cell? ⟨b, off + k * 3 + 1, none⟩ = some (.int .u64 y) ∧ w'.cell? ⟨b, off + k * 3 + 2, none⟩ = some (.int .u64 z)) (go_keep) (first
                | (go_at_call 18; refine (ram_Copy (w := wr.drew) HA.out.drew.mem.1).mono ?_; rintro e w2 ⟨r', bm', rfl, hM⟩; obtain ⟨-, c1, c2⟩ := HC.out w2 (HA.out.drew.below hM.2.2.2.1).mem.2.2.2.1; have HM := Lib.hid hM; clear hM)
                | (go_at_call 16; refine (ram_Write_I HM.out.1 y z HY.out HZ.out HT.out.2.2.1).mono ?_; rintro e w3 ⟨rfl, hp⟩; obtain ⟨-, e1, e2⟩ := HC.out w3 (HA.out.drew.below (HM.out.write hp).2.2.2.1).mem.2.2.2.1; have HP := Lib.hid (HA.out.drew.below (HM.out.write hp).2.2.2.1); clear hp))
              all_goals
                go_wp2
                go_meet
                exact ⟨cs, HP.out.next⟩
            · have hb : (kd == 1) = false := by rw [beq_eq_false_iff_ne]; exact hk1
              clear hk1
              go_wp2_with fail
              go_region_held3 (fun w' => w'.cell? ⟨b, off + k * 3 + 1, none⟩ = some (.int .u64 y) ∧ w'.cell? ⟨b, off + k * 3 + 2, none⟩ = some (.int .u64 z)) (go_keep) (first
                | (go_at_call 16; refine (ram_Write_I (w := wr.drew) HA.out.drew.mem.1 y z HY.out HZ.out HT.out.2.2.1).mono ?_; rintro e w2 ⟨rfl, hp⟩; obtain ⟨-, e1, e2⟩ := HC.out w2 (HA.out.drew.mem.write hp).2.2.2.1; have HP := Lib.hid hp; clear hp))
              all_goals
                go_wp2_with fail
                first
                  | (go_meet; exact ⟨cs, (HA.out.drew.wrote HP.out (by simp [*])).next⟩)
                  | skip
              all_goals
                go_region_held3 (fun w' => w'.cell? ⟨b, off + k * 3 + 1, none⟩ = some (.int .u64 y) ∧ w'.cell? ⟨b, off + k * 3 + 2, none⟩ = some (.int .u64 z)) (go_keep) (first
                  | (go_at_call 19; refine (r11_Write (w := w2.drew) ((HA.out.pairs.wrote (w := wr.drew) HA.out.mem.1.2 HP.out.2).below (Below.refl _ _).drew) HT.out.2.2.2 y z HY.out HZ.out).mono ?_; rintro e w3 ⟨u', rfl, ho⟩; have hput := HA.out.drew.put HP.out HY.out HZ.out (by simp [*]) ho; obtain ⟨-, f1, f2⟩ := HC.out w3 hput.mem.2.2.2.1; have HO := Lib.hid hput; clear ho hput))
              all_goals
                go_wp2_with fail
                go_meet
                exact ⟨_, HO.out⟩
        case rest =>
          obtain ⟨cs', hp⟩ := hcut
          obtain ⟨a', cap', rfl⟩ := hp.pairs.form
          have HP := Lib.hid hp
          obtain ⟨-, c1, -⟩ := HC.out wc hp.mem.2.2.2.1
          clear hp
          go_wp2_with fail
          refine wp_region_any (by kernel_rfl) ?_
          change wpAny _ _ _ _ _ _ _ (World.drew _)
          refine wpAny_take (i := 0) (v := ?_) rfl (by kernel_rfl) (by kernel_rfl) (by kernel_rfl) (fun _ _ _ h => h) (Or.inl ⟨by rfl, ?_⟩) ?_
          rotate_left
          · (intro w; go_simp; try with_reducible rfl)
          refine wpAny_take (i := 2) (v := ?_) rfl (by kernel_rfl) (by kernel_rfl) (by kernel_rfl) (fun _ _ _ h => h) (Or.inl ⟨by rfl, ?_⟩) ?_
          rotate_left
          · (intro w; go_simp; try with_reducible rfl)
          refine wpAny_ready (rs := [1]) (by kernel_rfl) (by simp) ?_
          refine AllReady.cons rfl (fun K hK => ?_) AllReady.nil
          go_simp
          go_wp2_with (go_at_call 12; refine (ram_Cells (w := wc.drew) HP.out.drew.mem.1 HP.out.good.1 HP.out.good.wf (by have := HP.out.len; omega)).mono ?_; rintro e w3 ⟨uc, rfl, hC⟩; have HC3 := Lib.hid hC.1; have HP3 := Lib.hid (HP.out.drew.below hC.2.2); clear hC)
          try (refine hK _ _ ?_; clear hK K)
          refine wpAny_ready (rs := [3]) (by kernel_rfl) (by simp) ?_
          refine AllReady.cons rfl (fun K hK => ?_) AllReady.nil
          go_simp
          go_wp2_with (go_at_call 11; refine (r11_Same HC3.out HP3.out.pairs).mono ?_; rintro e w4 ⟨rfl, hq⟩; rw [sameC_self]; have HP4 := Lib.hid (HP3.out.below hq.below); obtain ⟨-, c2, -⟩ := HC.out _ HP4.out.mem.2.2.2.1; clear hq)
          try (refine hK _ _ ?_; clear hK K)
          refine wpAny_take (i := 4) (v := ?_) rfl (by kernel_rfl) (by kernel_rfl) (by kernel_rfl) (fun _ _ _ h => h) (Or.inl ⟨by rfl, ?_⟩) ?_
          rotate_left
          · (intro w; go_simp; try with_reducible rfl)
          refine wpAny_take (i := 5) (v := ?_) rfl (by kernel_rfl) (by kernel_rfl) (by kernel_rfl) (fun _ _ _ h => h) (Or.inl ⟨by rfl, ?_⟩) ?_
          rotate_left
          · (intro w; go_simp; try with_reducible rfl)
          refine wpAny_lexDrawn 6 (by kernel_rfl) (by kernel_rfl) (by kernel_rfl) ?_
          simp only [List.drop_succ_cons, List.drop_zero]
          repeat (quiet_step (first
            | (go_at_call 14; exact Calls.quiet_of_same ((ram_Read (HP4.out.below (below_drewN (Below.refl _ _) _)).mem.1 _ (by first | exact HX.out | exact HY.out)).mono fun _ _ h => ⟨h.1, h.2.symm⟩))
            | (go_at_call 15; exact Calls.quiet_of_same ((r11_Read (HP4.out.below (below_drewN (Below.refl _ _) _)).pairs _).mono fun _ _ h => ⟨h.1, h.2.symm⟩))
            | (go_at_call 13; exact Calls.quiet_of_same ((ram_Len (HP4.out.below (below_drewN (Below.refl _ _) _)).mem.1).mono fun _ _ h => ⟨h.1, h.2.symm⟩))))
          refine wpQuiet_nil ?_
          intro _ hw'
          obtain ⟨nq, hw''⟩ := hw'
          subst hw''
          go_wp2_with fail
          go_roundw
          case rel => exact ⟨k + 1, by omega, by go_num, cs', HP4.out.below (below_drewN (Below.refl _ _) _)⟩
          case measure => simp [intOf]; omega
    · have HB := Lib.hid HA.out.mem.2.2.2.1
      go_wp2_with ((go_at_call 7; refine (alive _).mono ?_; rintro e w' ⟨rfl, hb⟩))
      go_ret
      exact ⟨rfl, HB.out.trans (hb.mono HB.out.size)⟩
theorem plays {w : World} {v : Value} {l : AS} (h : Acts w v l) (aw ww x : Int) (hx : wf x) :
    Calls Try.prog 5 #[.int .i64 aw, .int .i64 ww, v, .int .u64 x] w fun e w' => e = .returned (.bool true) ∧ Below w.heap.size w w' := by
  cases hd : (decide (l.length ≤ 60) && dimB aw ww)
  · exact plays_off h aw ww x hd
  · rw [Bool.and_eq_true] at hd
    exact plays_on h aw ww x hx (of_decide_eq_true hd.1) hd.2
end Go.Proofs.Ytpohekmfdbleeaa
