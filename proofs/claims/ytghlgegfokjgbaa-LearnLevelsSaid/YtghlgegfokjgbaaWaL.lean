/-
  Package watch: visit, walked.
-/
import Derived.Test.YtghlgegfokjgbaaWaI
namespace Go.Proofs.Ytghlgegfokjgbaa
open Go.ChangeShapes Go.WideShapes Go.ChangeAt Go.RowKit
set_option linter.unusedVariables false
set_option linter.unusedSimpArgs false
/-- What visit wants. -/
structure VisOk (S : WS) (id : Nat) (wrong : Int) : Prop where
  sg : Signs S.t
  tb : TB S.t
  hi : id < S.cl.length
  lc : S.cl.length ≤ 1000
  c0 : S.cl.getD id [] ≠ []
  cn : (S.cl.getD id []).length ≤ 1000
  lits : Lits3 (S.cl.getD id [])
  lb : LB 100000 S.ls
  /-- What is watched anew is not what is gone through. -/
  ne : ∀ k, k < (S.cl.getD id []).length → (visC (S.cl.getD id []) wrong).getD k 0 ≠ wrong ∨ S.t.value ((visC (S.cl.getD id []) wrong).getD k 0) < 0
theorem visit_one {B : Nat} {w : World} {r : Nat → Nat} {wb t : Nat} {S : WS} {vl vs vd : Value} {us xs : List Value} (h : WV B w r wb t S vl vs vd us xs) (id : Nat) (wrong : Int) (hi : id < S.cl.length) (h1 : (S.cl.getD id []).length = 1) (s : Nat) :
    Calls Try.prog 37 #[.pointer (some ⟨wb, 0, none⟩), .int .i64 id, .int .i64 wrong] w (VisQ B w r wb t (visitF S id wrong) vl vd us xs s) := by
  have e : visitF S id wrong = (S, true, false) := by unfold visitF; rw [if_pos h1]
  rw [e]
  have HR : Hid (VisP B w r wb t S vl vd us xs s w) := Lib.hid ⟨r, vs, xs, h, Chg.refl _ _, fun _ _ => rfl, rfl⟩
  obtain ⟨c0, c1, c2, c3, c4⟩ := h.cells
  obtain ⟨gc, cap, rfl, x0, -, -, -⟩ := row_at1 h.cl hi
  obtain ⟨gu, hu, -⟩ := h.ui id hi
  obtain ⟨va, vc, hv, -, -⟩ := hu.1.form
  rw [hv, h1] at x0
  obtain ⟨q, hq⟩ : ∃ q, q = S.cl.length := ⟨_, rfl⟩
  rw [← hq] at c1 hi
  have i0 : (0 : Int) ≤ (id : Int) := by omega
  have i1 : (id : Int) < (q : Int) := by omega
  clear e h hu hv hq h1 c2 c3 c4
  go_enter Try.func37, Try.ntmps37
  go_wp2
  go_ret2
  exact ⟨rfl, HR.out⟩
set_option maxHeartbeats 4000000 in
set_option maxRecDepth 100000 in
theorem visit_two {B : Nat} {w : World} {r : Nat → Nat} {wb t : Nat} {S : WS} {vl vs vd : Value} {us xs : List Value} (h : WV B w r wb t S vl vs vd us xs) (hB : B ≤ w.heap.size) (id : Nat) (wrong : Int) (hok : VisOk S id wrong) (hw3 : lit3 wrong) (hsl : slotN wrong < S.ls.length) (h1 : 2 ≤ (S.cl.getD id []).length) :
    Calls Try.prog 37 #[.pointer (some ⟨wb, 0, none⟩), .int .i64 id, .int .i64 wrong] w (VisQ B w r wb t (visitF S id wrong) vl vd us xs (slotN wrong)) := by
  obtain ⟨c0, c1, -, -, -⟩ := h.cells
  have hi := hok.hi
  obtain ⟨gc, cap, rfl, x0, -, -, -⟩ := row_at1 h.cl hi
  obtain ⟨gu, hu, hgu⟩ := h.ui id hi
  obtain ⟨b, vc, hv, hg, -, -⟩ := hu.1.at_ (j := 0) (by omega)
  have hbr := hgu b hg
  obtain ⟨c, hc⟩ : ∃ c, c = S.cl.getD id [] := ⟨_, rfl⟩
  have hcl := hu.1
  rw [hv, hg] at hcl
  rw [hv] at x0
  rw [← hc] at x0 hcl h1
  obtain ⟨n, hn⟩ : ∃ n, n = c.length := ⟨_, rfl⟩
  rw [← hn] at x0 hcl h1
  obtain ⟨b0, c0', hv0, -, y0, f0⟩ := hcl.at_ (j := 0) (by omega)
  obtain ⟨b1, c1', hv1, -, y1, f1⟩ := hcl.at_ (j := 1) (by omega)
  injection hv0 with e1 e2 e3
  injection e1 with e1
  injection e1 with e1
  subst e1
  injection hv1 with e1 e4 e5
  injection e1 with e1
  injection e1 with e1
  subst e1
  obtain ⟨q, hq⟩ : ∃ q, q = S.cl.length := ⟨_, rfl⟩
  have c1q : w.cell? ⟨wb, 1, none⟩ = some (.slice (some ⟨gc, 0, none⟩) q cap) := by rw [hq]; exact c1
  have i0 : (0 : Int) ≤ (id : Int) := by omega
  have i1 : (id : Int) < (q : Int) := by omega
  have hn1 : ((n : Int) == 1) = false := by rw [beq_eq_false_iff_ne]; omega
  have hne : c ≠ [] := fun e => by rw [e] at hn; simp at hn; omega
  obtain ⟨a0, ha0⟩ : ∃ a0, a0 = c.getD 0 0 := ⟨_, rfl⟩
  obtain ⟨a1, ha1⟩ : ∃ a1, a1 = c.getD 1 0 := ⟨_, rfl⟩
  rw [← ha0] at y0
  rw [← ha1] at y1
  have HOK := Lib.hid hok
  have HC := Lib.hid hc
  have HN := Lib.hid hn
  have HV : Hid (us.getD id undef = .slice (some ⟨b, 0, none⟩) n vc) := Lib.hid (by rw [hv, hn, hc])
  have HBR := Lib.hid hbr
  have HI := Lib.hid hi
  have H := Lib.hid h
  have HNE := Lib.hid hne
  have HCL := Lib.hid hcl
  have HA0 := Lib.hid ha0
  have HA1 := Lib.hid ha1
  have h01 : (0 : Int) < (n : Int) := by omega
  have h11 : (1 : Int) < (n : Int) := by omega
  have HSL := Lib.hid hsl
  clear h hok hc hn hv hbr hi hne hcl hu hgu hg e2 e3 e4 e5 ha0 ha1 hq c1 hsl
  obtain ⟨vf, hvf⟩ : ∃ vf, vf = S.t.value := ⟨_, rfl⟩
  have HVF := Lib.hid hvf
  clear hvf
  have HMV : Hid (∀ args w, (callFunc 30 args).run Try.prog w = .ok (.enter 30 args) w) := Lib.hid (enters_of Try.func30 (by kernel_rfl) rfl)
  rcases (show a0 = wrong ∨ a0 ≠ wrong by omega) with hw | hw
  focus
    have hb : (a0 == wrong) = true := by rw [beq_iff_eq]; exact hw
    have HW := Lib.hid hw
    clear hw
    go_enter Try.func37, Try.ntmps37
    go_wp2
    go_region
    go_wp2_with fail
    have H1 : Hid (WV B ((w.setCell ⟨b, 0, none⟩ (.int .i64 a1)).setCell ⟨b, 1, none⟩ (.int .i64 a0)).drew r wb t { S with cl := S.cl.set id (visC c wrong) } (.slice (some ⟨gc, 0, none⟩) S.cl.length cap) vs vd us xs) := Lib.hid (by
      unfold visC
      rw [if_pos (by rw [← HA0.out]; exact HW.out)]
      exact (H.out.swap hB id HI.out c HC.out HV.out HN.out HBR.out 0 1 a0 a1 HA0.out HA1.out HNE.out).chg (T := fun _ => False) ((Chg.refl _ _).drew) (fun _ _ h => h))
    have G1 : Hid (Chg (fun b => r b ≠ 0) w ((w.setCell ⟨b, 0, none⟩ (.int .i64 a1)).setCell ⟨b, 1, none⟩ (.int .i64 a0)).drew) := Lib.hid ((((Chg.refl _ w).setCell (p := ⟨b, 0, none⟩) (.inl (by show r b ≠ 0; rw [HBR.out]; omega)) _).setCell (p := ⟨b, 1, none⟩) (.inl (by show r b ≠ 0; rw [HBR.out]; omega)) _).drew)
    have X1 : Hid (a1 = (visC c wrong).getD 0 0) := Lib.hid (by
      unfold visC
      rw [if_pos (by rw [← HA0.out]; exact HW.out)]
      unfold sw
      rw [getD_set_ne _ _ _ _ _ (by omega), getD_set_self _ _ _ _ (by have := HN.out; omega), HA1.out])
    obtain ⟨x, hx⟩ : ∃ x, x = a1 := ⟨_, rfl⟩
    generalize ((w.setCell ⟨b, 0, none⟩ (.int .i64 a1)).setCell ⟨b, 1, none⟩ (.int .i64 a0)).drew = wz at *
    clear y0 y1 f0 f1
    rw [← hx] at X1 ⊢
    clear hx hb HW
  rotate_left
  focus
    have hb : (a0 == wrong) = false := by rw [beq_eq_false_iff_ne]; exact hw
    have HW := Lib.hid hw
    clear hw
    go_enter Try.func37, Try.ntmps37
    go_wp2_with fail
    have HE : Hid (visC c wrong = c) := Lib.hid (by
      unfold visC
      rw [if_neg (by rw [← HA0.out]; exact HW.out)])
    have H1 : Hid (WV B w r wb t { S with cl := S.cl.set id (visC c wrong) } (.slice (some ⟨gc, 0, none⟩) S.cl.length cap) vs vd us xs) := Lib.hid (by
      have e : S.cl.set id (visC c wrong) = S.cl := by rw [HE.out, HC.out]; exact set_self
      rw [e]; exact H.out)
    have X1 : Hid (a0 = (visC c wrong).getD 0 0) := Lib.hid (by rw [HE.out]; exact HA0.out)
    obtain ⟨x, hx⟩ : ∃ x, x = a0 := ⟨_, rfl⟩
    obtain ⟨wz, hwz⟩ : ∃ wz, wz = w := ⟨_, rfl⟩
    rw [← hwz] at H1
    have G1 : Hid (Chg (fun b => r b ≠ 0) w wz) := Lib.hid (by rw [hwz]; exact Chg.refl _ _)
    clear y0 y1 f0 f1
    rw [← hx] at X1 ⊢
    rw [← hwz]
    clear hx hwz hb HW HE
  all_goals
    have HC1 : Hid ((visC c wrong).length = n) := Lib.hid (by
      unfold visC
      split
      · rw [sw_len]; exact HN.out.symm
      · exact HN.out.symm)
    obtain ⟨d, hd⟩ : ∃ d, d = visC c wrong := ⟨_, rfl⟩
    rw [← hd] at H1 X1 HC1
    have hbz : B ≤ wz.heap.size := Nat.le_trans hB G1.out.size
    have hlr : ∃ g, LR wz (.slice (some ⟨b, 0, none⟩) n vc) d g ∧ g = some b := by
      obtain ⟨g, q1, -⟩ := H1.out.ui id (by simp only [List.length_set]; exact HI.out)
      have q1 : CL wz (us.getD id undef) ((S.cl.set id d).getD id []) g := q1
      rw [getD_set_self _ _ _ _ HI.out, HV.out] at q1
      obtain ⟨b', cap', hv', hg, -, -⟩ := q1.1.at_ (j := 0) (by rw [HC1.out]; omega)
      injection hv' with e1 e2 e3
      injection e1 with e1
      injection e1 with e1
      subst e1
      exact ⟨g, q1.1, hg⟩
    obtain ⟨g, hlr, hg⟩ := hlr
    subst hg
    have HLR := Lib.hid hlr
    have hcell : ∀ j, j < n → wz.cell? ⟨b, j, none⟩ = some (.int .i64 (d.getD j 0)) ∧ wz.frozen? ⟨b, j, none⟩ = false := fun j hj => by
      obtain ⟨b', cap', hv', -, q1, q2⟩ := HLR.out.at_ (j := j) (by rw [HC1.out]; exact hj)
      injection hv' with e1 e2 e3
      injection e1 with e1
      injection e1 with e1
      subst e1
      exact ⟨q1, q2⟩
    have HCE := Lib.hid hcell
    have hn3 : n ≤ 1000 := by have := HOK.out.cn; rw [← HC.out, ← HN.out] at this; exact this
    obtain ⟨z1, fz1⟩ := hcell 1 (by omega)
    obtain ⟨x1, hx1⟩ : ∃ x1, x1 = d.getD 1 0 := ⟨_, rfl⟩
    rw [← hx1] at z1
    have X2 := Lib.hid hx1
    clear hx1
    have z0 : wz.cell? ⟨b, 0, none⟩ = some (.int .i64 x) := by rw [X1.out]; exact (hcell 0 (by omega)).1
    have c0z : wz.cell? ⟨wb, 0, none⟩ = some (.pointer (some ⟨t, 0, none⟩)) := H1.out.cells.c0
    have HVZ : Hid (∀ l, Calls Try.prog 30 #[.pointer (some ⟨t, 0, none⟩), .int .i64 l] wz fun e w' => e = .returned (.int .i64 (vf l)) ∧ wz = w') := Lib.hid fun l => by
      rw [HVF.out]
      obtain ⟨fp, hT, -⟩ := H1.out.tr
      exact trail_Value hT HOK.out.sg l
    have HVI : Hid (visitF S id wrong = if 0 < vf x then ({ S with cl := S.cl.set id d }, true, true) else match fk S.t d with
        | some k => ({ S with cl := S.cl.set id (sw d 1 k), ls := putL S.ls (slotN (d.getD k 0)) id }, false, true)
        | none => if vf x < 0 then ({ S with cl := S.cl.set id d }, true, false) else ({ S with cl := S.cl.set id d, t := impT S.t x id }, true, true)) := Lib.hid (by
      unfold visitF
      rw [if_neg (by rw [← HC.out, ← HN.out]; omega), ← HC.out, ← hd, ← X1.out, ← HVF.out]
      rfl)
    have HD := Lib.hid hd
    clear hd hlr hcell c0 c1q x0
    refine (HVZ.out x).mono ?_
    rintro e w' ⟨rfl, rfl⟩
    by_cases hp : 0 < vf x
    · go_wp2
      go_ret2
      refine ⟨by rw [HVI.out, if_pos hp]; rfl, ?_⟩
      rw [HVI.out, if_pos hp]
      exact ⟨r, vs, xs, H1.out, G1.out, fun _ _ => rfl, rfl⟩
    · go_wp2_with fail
      go_loopw [10] (fun i wr => ∃ k : Nat, 2 ≤ k ∧ k ≤ n ∧ i = .int .i64 k ∧ wr = wz ∧ ∀ j, 2 ≤ j → j < k → S.t.value (d.getD j 0) < 0) (fun i _ => n - (intOf i).toNat)
      case atStart => exact ⟨2, Nat.le_refl _, h1, by go_num, rfl, fun j h2 h3 => absurd h3 (by omega)⟩
      case round =>
        obtain ⟨k, hk2, hkn, rfl, rfl, hbf⟩ := hrel
        have HBF := Lib.hid hbf
        clear hbf
        by_cases hlt : (k : Int) < (n : Int)
        · obtain ⟨zk, zf⟩ := HCE.out k (by omega)
          obtain ⟨y, hy⟩ : ∃ y, y = d.getD k 0 := ⟨_, rfl⟩
          rw [← hy] at zk
          have HY := Lib.hid hy
          have i2 : (0 : Int) ≤ (k : Int) := by omega
          clear hy
          go_wp2_with fail
          refine (HVZ.out y).mono ?_
          rintro e w' ⟨rfl, rfl⟩
          by_cases hy0 : 0 ≤ vf y
          · go_wp2_with fail
            have hk1 : 1 ≠ k := by omega
            go_region
            all_goals
              have h9 := (H1.out.swap hbz id (by simp only [List.length_set]; exact HI.out) d (by show d = (S.cl.set id d).getD id []; rw [getD_set_self _ _ _ _ HI.out]) HV.out HC1.out.symm HBR.out 1 k x1 y X2.out HY.out (fun e => by have := HC1.out; rw [e] at this; simp at this; omega)).chg (T := fun _ => False) ((Chg.refl _ _).drew) (fun _ _ h => h)
              have e9 : (S.cl.set id d).set id (sw d 1 k) = S.cl.set id (sw d 1 k) := List.set_set ..
              have h9 : WV B ((wr.setCell ⟨b, 1, none⟩ (.int .i64 y)).setCell ⟨b, k, none⟩ (.int .i64 x1)).drew r wb t { S with cl := S.cl.set id (sw d 1 k) } (.slice (some ⟨gc, 0, none⟩) S.cl.length cap) vs vd us xs := by rw [← e9]; exact h9
              have g9 : Chg (fun b => r b ≠ 0) wr ((wr.setCell ⟨b, 1, none⟩ (.int .i64 y)).setCell ⟨b, k, none⟩ (.int .i64 x1)).drew := (((Chg.refl _ wr).setCell (p := ⟨b, 1, none⟩) (.inl (by show r b ≠ 0; rw [HBR.out]; omega)) _).setCell (p := ⟨b, k, none⟩) (.inl (by show r b ≠ 0; rw [HBR.out]; omega)) _).drew
              have hly : lit3 y := by
                rw [HY.out, HD.out]
                have hl := HOK.out.lits
                rw [← HC.out] at hl
                unfold visC
                split
                · exact (hl.sw 0 1).at_ k
                · exact hl.at_ k
              have hyw : slotN wrong ≠ slotN y := fun e => by
                have e1 := slotN_inj hw3 hly e
                have h5 := HOK.out.ne k (by rw [← HC.out, ← HN.out]; omega)
                rw [← HC.out, ← HD.out, ← HY.out, ← HVF.out] at h5
                rcases h5 with h5 | h5
                · exact h5 e1.symm
                · omega
              have hput := wputX h9 (Nat.le_trans hB (G1.out.trans g9 (fun i hi => .inl hi)).size) y hly id (fun s _ => HOK.out.lb.2 s) (Nat.le_trans HOK.out.lb.1 (by omega))
              have H9 := Lib.hid h9
              have G9 := Lib.hid g9
              have HP := Lib.hid hput
              have HYW := Lib.hid hyw
              clear h9 g9 e9 hput hyw hly
              go_wp2_with fail
              refine HP.out.mono ?_
              rintro e w8 ⟨rfl, r8, vs8, xs8, q1, q2, q3, q4⟩
              have Q1 := Lib.hid q1
              have Q2 := Lib.hid q2
              have Q3 := Lib.hid q3
              have Q4 := Lib.hid q4
              clear q1 q2 q3 q4
              go_wp2_with fail
              go_ret2
              have e : visitF S id wrong = ({ S with cl := S.cl.set id (sw d 1 k), ls := putL S.ls (slotN y) id }, false, true) := by
                rw [HVI.out, if_neg (by omega : ¬ 0 < vf x), fk_some hk2 (by rw [HC1.out]; omega) (by rw [← HY.out, ← HVF.out]; exact hy0) HBF.out]
                exact congrArg (fun z => (({ S with cl := S.cl.set id (sw d 1 k), ls := putL S.ls (slotN z) id } : WS), false, true)) HY.out.symm
              rw [e]
              exact ⟨rfl, r8, vs8, xs8, Q1.out, (G1.out.trans G9.out (fun i hi => .inl hi)).trans Q2.out (fun i hi => .inl hi), fun b hb => Q3.out b (Nat.lt_of_lt_of_le hb (G1.out.trans G9.out (fun i hi => .inl hi)).size), Q4.out (slotN wrong) (by rw [row_len H9.out.ls]; exact HSL.out) HYW.out⟩
          · go_wp2_with fail
            go_roundw
            case rel =>
              refine ⟨k + 1, by omega, by omega, by go_num, trivial, fun j h2 h3 => ?_⟩
              rcases Nat.lt_or_ge j k with h | h
              · exact HBF.out j h2 h
              · obtain rfl : j = k := by omega
                rw [← HY.out, ← HVF.out]
                omega
            case measure => simp [intOf]; omega
        · have hkn' : k = n := by omega
          have HFK : Hid (fk S.t d = none) := Lib.hid (fk_none fun j h2 h3 => HBF.out j h2 (by rw [hkn', ← HC1.out]; exact h3))
          clear hkn'
          go_wp2_with fail
          refine (HVZ.out x).mono ?_
          rintro e w' ⟨rfl, rfl⟩
          by_cases hx0 : vf x < 0
          · go_wp2_with fail
            go_ret2
            have e : visitF S id wrong = ({ S with cl := S.cl.set id d }, true, false) := by rw [HVI.out, if_neg (by omega : ¬ 0 < vf x), HFK.out]; exact if_pos hx0
            rw [e]
            exact ⟨rfl, r, vs, xs, H1.out, G1.out, fun _ _ => rfl, rfl⟩
          · go_wp2_with fail
            have e : visitF S id wrong = ({ S with cl := S.cl.set id d, t := impT S.t x id }, true, true) := by rw [HVI.out, if_neg (by omega : ¬ 0 < vf x), HFK.out]; exact if_neg (by omega)
            have HE2 := Lib.hid e
            clear e
            go_region_with (go_at_call 31; refine (imply_ (H1.out.chg (T := fun _ => False) ((Chg.refl _ _).drew) (fun _ _ h => h)) hbz HOK.out.tb x id).mono ?_; rintro e w7 ⟨rfl, hT⟩; have HT := Lib.hid hT; clear hT)
            all_goals
              go_wp2_with fail
              go_ret2
              rw [HE2.out]
              obtain ⟨r7, q1, q2, q3⟩ := HT.out
              refine ⟨rfl, r7, vs, xs, q1, G1.out.trans ((Chg.refl _ _).drew.trans q2 (fun i hi => .inl hi)) (fun i hi => .inl hi), fun b hb => q3 b (Nat.lt_of_lt_of_le hb G1.out.size), rfl⟩
end Go.Proofs.Ytghlgegfokjgbaa
