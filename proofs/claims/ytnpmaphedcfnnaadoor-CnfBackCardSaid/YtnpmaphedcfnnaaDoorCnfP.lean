/-
  The law's made, walked where the number of variables is fair.
-/
import Derived.Test.YtnpmaphedcfnnaaDoorCnfM
import Derived.Test.YtnpmaphedcfnnaaDoorOwnB
import Derived.Test.YtnpmaphedcfnnaaDoorRegion
import Derived.Deep.RegionLaw
namespace Go.Proofs.YtnpmaphedcfnnaaDoor
open Go.ChangeShapes Go.WideShapes Go.ChangeAt Go.RowKit
set_option linter.unusedVariables false
/-- A row of slices of the call's own (the call began at w). -/
def OwnV (w wr : World) (out : Value) (us : List Value) : Prop := Row wr 23 1 out us.length us ∧ Below w.heap.size w wr ∧ ∀ g, out.ownBlock = some g → w.heap.size ≤ g
theorem OwnV.new {w wr : World} {g : Nat} (h : wr.heap[g]? = some (.cells #[] 23 (0, 0))) (hb : Below w.heap.size w wr) (hg : w.heap.size ≤ g) : OwnV w wr (.slice (some ⟨g, 0, none⟩) 0 0) [] :=
  ⟨⟨by simp, .inr ⟨g, 0, #[], rfl, Nat.zero_le _, h, Nat.le_refl _, by simp, by simp, by simp⟩⟩, hb, fun k hk => by simp [Value.ownBlock] at hk; omega⟩
theorem OwnV.below {w wr wx : World} {out : Value} {us : List Value} (h : OwnV w wr out us) (hb : Below wr.heap.size wr wx) : OwnV w wx out us :=
  ⟨h.1.chg (S := fun _ => False) (Chg.of_below hb) (fun _ _ h => h), h.2.1.trans (hb.mono h.2.1.size), h.2.2⟩
theorem OwnV.app {w wr w' : World} {v v' : Value} {us vs : List Value} (h : OwnV w wr v us) (hp : AppPost wr 23 1 v (us.length + vs.length) (us ++ vs) v' w') : OwnV w w' v' (us ++ vs) := by
  obtain ⟨p1, p2, p3⟩ := hp
  refine ⟨by rw [List.length_append]; exact p1, h.2.1.trans (p2.below h.2.1.size (fun i hi => h.2.2 i hi)), fun g hg => ?_⟩
  rcases p3 with e | e
  · rw [e] at hg; exact h.2.2 g hg
  · rw [e] at hg; simp at hg; have := h.2.1.size; omega
theorem step_V {w wr : World} {ops : Array Oper} {o : Oper} {a : Act} {K : Act → World → Prop} {Q : Exit → Act → World → Prop} {E : Prop} (hgd : o.guard = none) (s x : Operand)
    (ho : o.op = .call { callee := .builtin .append, args := #[s, x], argTypes := #[29, 29] })
    (v : Value) (us : List Value) (hs : a.eval s = v) (A : Option Addr) (m c : Nat) (vs : List Value) (hx : a.eval x = .slice A m c) (hm : vs.length = m) (h1 : ∀ u ∈ vs, u.oneCell' = true) (hl : us.length + m ≤ 1000000000)
    (hown : OwnV w wr v us) (hsrc : Src wr A 1 m vs)
    (h : ∀ v' w', OwnV w w' v' (us ++ vs) → Chg (fun k => v.ownBlock = some k) wr w' → K (a.put o.dst v') w') :
    if Region.wanted o (yielded ops a.tmps) = true then Oper.wp Tryd.prog o a wr K Q else E := by
  subst hm
  exact step_appS hgd s x 29 ho 23 (.slice none 0 0) 1 24 Tryd.underlying29 infoL rfl (by decide) v us.length us hs hown.1 A _ c vs hx hsrc h1 (by unfold maxLen; omega) (by omega)
    fun v' w' hp => h v' w' (hown.app hp) hp.2.1
theorem MadeW.setV {w0 wr w3 : World} {f rb rz : Nat} {Vf Vr : Int} {Xf Xr : List (List Int)} {fp : Nat → Prop} {out v' u : Value} {us : List Value} {c : List Int} (h : MadeW w0 wr f rb rz Vf Xf Vr Xr fp out us) (ho : OwnV wr w3 v' (us ++ [u])) (hi : Ints w0 u c) :
    MadeW w0 (w3.setCell ⟨rb, 1, none⟩ v') f rb rz Vf Xf Vr (Xr ++ [c]) fp v' (us ++ [u]) := by
  obtain ⟨h1, h2, h3⟩ := ho
  rw [List.length_append, h.len] at h1
  exact h.setL h2 h1 h3 hi
theorem MadeW.told {w0 wr w' : World} {f rb rz : Nat} {Vf Vr : Int} {Xf Xr : List (List Int)} {fp : Nat → Prop} {out : Value} {us : List Value} (h : MadeW w0 wr f rb rz Vf Xf Vr Xr fp out us) (hc : Chg (fun k => k = rz) wr w') (hb : Below w0.heap.size w0 w') :
    FAt w0.heap.size w' f Vf Xf ∧ IntsS w' out Xr := by
  refine ⟨(h.f.chg hc (fun g hg e => h.nz (e ▸ hg))).toF, ?_⟩
  have hrow := h.row.chg hc (fun g hg e => (h.no g hg).2.2.1 e)
  rcases hrow.form with ⟨hn, h0, -⟩ | ⟨g, cap, hv, h1, h2, -, hx⟩
  · rw [hn, List.eq_nil_of_length_eq_zero h0]
    exact intsS_nil w'
  · refine ⟨_, cap, hv, h1, h2, .inr ⟨g, 0, rfl, fun j hj => ⟨us.getD j undef, ?_, (h.cls j hj).below hb⟩⟩⟩
    rw [Nat.zero_add, (hx j (by rw [h.len]; exact hj)).1]
theorem MadeW.end_ {w0 wr : World} {f rb : Nat} {Vf Vr : Int} {Xf Xr : List (List Int)} {fp : Nat → Prop} {out : Value} {us : List Value} (h : MadeW w0 wr f rb w0.heap.size Vf Xf Vr Xr fp out us) (a b : Value) :
    FAt w0.heap.size ((wr.setCell ⟨w0.heap.size, 0, none⟩ a).setCell ⟨w0.heap.size, 1, none⟩ b).drew f Vf Xf ∧ IntsS ((wr.setCell ⟨w0.heap.size, 0, none⟩ a).setCell ⟨w0.heap.size, 1, none⟩ b).drew out Xr ∧ Below w0.heap.size w0 ((wr.setCell ⟨w0.heap.size, 0, none⟩ a).setCell ⟨w0.heap.size, 1, none⟩ b).drew := by
  have hb : Below w0.heap.size w0 ((wr.setCell ⟨w0.heap.size, 0, none⟩ a).setCell ⟨w0.heap.size, 1, none⟩ b).drew := ((h.old.setCell (p := ⟨w0.heap.size, 0, none⟩) (Nat.le_refl _) a).setCell (p := ⟨w0.heap.size, 1, none⟩) (Nat.le_refl _) b).drew
  have hc : Chg (fun k => k = w0.heap.size) wr ((wr.setCell ⟨w0.heap.size, 0, none⟩ a).setCell ⟨w0.heap.size, 1, none⟩ b).drew := (((Chg.refl (fun k => k = w0.heap.size) wr).setCell (p := ⟨w0.heap.size, 0, none⟩) (.inl rfl) a).setCell (p := ⟨w0.heap.size, 1, none⟩) (.inl rfl) b).drew
  obtain ⟨g1, g2⟩ := h.told hc hb
  exact ⟨g1, g2, hb⟩
theorem out_form {w : World} {out : Value} {n : Nat} {us : List Value} (h : Row w 23 1 out n us) : ∃ A c, out = .slice A n c := by
  rcases h.form with ⟨rfl, h0, -⟩ | ⟨g, cap, rfl, -⟩
  · exact ⟨_, _, by rw [h0]⟩
  · exact ⟨_, _, rfl⟩
theorem cls_one {w : World} {us : List Value} {xss : List (List Int)} (hl : us.length = xss.length) (h : ∀ j, j < xss.length → Ints w (us.getD j undef) (xss.getD j [])) : ∀ u ∈ us, u.oneCell' = true := by
  intro u hu
  obtain ⟨j, hj, rfl⟩ := List.getElem_of_mem hu
  have := h j (by omega)
  rw [show us.getD j undef = us[j] by simp [List.getD, hj]] at this
  obtain ⟨a, c, e, -⟩ := this
  rw [e]
  rfl
set_option maxHeartbeats 16000000 in
set_option maxRecDepth 100000 in
theorem made_on {w : World} (v : Int) (h0 : 0 ≤ v) (h1 : v ≤ 65536) {u : Value} {xs : List ActC} (h : ActsC w u xs) (hl : lightB xs = true) :
    Calls Tryd.prog 11 #[.int .i64 v, u] w (MadePost w (playA v xs)) := by
  obtain ⟨hn60, hl60⟩ := lightB_at hl
  obtain ⟨a, cap, hv, k1, k2⟩ := h.form
  obtain ⟨n, hn⟩ : ∃ n, n = xs.length := ⟨_, rfl⟩
  rw [← hn] at hv hn60
  subst hv
  have HX := Lib.hid h
  have HN := Lib.hid hn
  have HL := Lib.hid hl60
  have h2 : Below w.heap.size w (w.alloc (.cells #[.int .i64 0, .slice none 0 0] 31)) := (Below.refl _ w).alloc (Nat.le_refl _) _
  have HNEW := Lib.hid (New_F v h0 h1 (w.alloc (.cells #[.int .i64 0, .slice none 0 0] 31)))
  have HZ := Lib.hid (Blk.new w 31 #[.int .i64 0, .slice none 0 0])
  have hz : (w.alloc (.cells #[.int .i64 0, .slice none 0 0] 31)).heap.size = w.heap.size + 1 := by simp
  rw [hz] at HNEW
  have H2 := Lib.hid h2
  clear h hn hl60 hl k1 k2 h2 hz
  go_enter Tryd.func11, Tryd.ntmps11
  go_wp2_with fail
  refine HNEW.out.mono ?_
  rintro e w1 ⟨rfl, hF, hb, hsz⟩
  have hM : MadeW w (w1.alloc (.cells #[.int .i64 v, .slice none 0 0] 31)) (w.heap.size + 1) (w.heap.size + 1 + 1) w.heap.size v [] v [] (fun g => g = w.heap.size + 1) (.slice none 0 0) [] := by
    have hzz := Blk.new w1 31 #[.int .i64 v, .slice none 0 0]
    rw [hsz] at hzz
    have hA : Below w1.heap.size w1 (w1.alloc (.cells #[.int .i64 v, .slice none 0 0] 31)) := (Below.refl _ _).alloc (Nat.le_refl _) _
    have hb0 : Below (w.alloc (.cells #[.int .i64 0, .slice none 0 0] 31)).heap.size (w.alloc (.cells #[.int .i64 0, .slice none 0 0] 31)) w1 := by simpa using hb
    obtain ⟨q0, vl, us, q1, q2, q3, q4, q5, q6⟩ := hF.below hA
    refine ⟨⟨by omega, vl, us, q1, q2, fun g hg => ⟨by have := (q3 g hg).1; omega, (q3 g hg).2⟩, q4, q5, q6⟩, hzz, (HZ.out.below hb0 HZ.out.lt).below hA (by omega), World.ownsRow_nil _ _ _ _, rfl, fun j hj => by simp at hj, by simp, by simp, fun g hg => by simp [Value.ownBlock] at hg, by omega, Nat.le_refl _, by omega, ?_⟩
    exact (H2.out.trans (hb0.mono H2.out.size)).trans (hA.mono (by omega))
  have HM := Lib.hid hM
  have HM := Lib.hid hM
  clear hM hF hb
  go_wp2_with fail
  go_loopw [9] (fun i wr => ∃ k : Nat, k ≤ n ∧ i = .int .i64 k ∧ ∃ sv sl fp out us, (sv, sl) = playA v (xs.take k) ∧ GoodA (sv, sl) k ∧ MadeW w wr (w.heap.size + 1) (w.heap.size + 1 + 1) w.heap.size sv sl sv sl fp out us) (fun i _ => n - (intOf i).toNat)
  case atStart => exact ⟨0, Nat.zero_le _, rfl, v, [], _, _, _, rfl, GoodA.start h0 h1, HM.out⟩
  case round =>
    obtain ⟨k, hk, rfl, sv, sl, fp, out, us, hs, hg, hm⟩ := hrel
    have HS := Lib.hid hs
    have HG := Lib.hid hg
    have hrb := hm.r.lt
    have c0 : wr.cell? ⟨w.heap.size + 1 + 1, 0, none⟩ = some (.int .i64 sv) := hm.r.cell 0
    have c1 : wr.cell? ⟨w.heap.size + 1 + 1, 1, none⟩ = some out := hm.r.cell 1
    have f0 : wr.frozen? ⟨w.heap.size + 1 + 1, 0, none⟩ = false := hm.r.frozen 0
    have f1 : wr.frozen? ⟨w.heap.size + 1 + 1, 1, none⟩ = false := hm.r.frozen 1
    have z0 : wr.frozen? ⟨w.heap.size, 0, none⟩ = false := hm.z.frozen 0
    have z1 : wr.frozen? ⟨w.heap.size, 1, none⟩ = false := hm.z.frozen 1
    have hrz := hm.z.lt
    have HW := Lib.hid hm
    clear hs hg hm
    by_cases hlt : (k : Int) < (n : Int)
    · have hkn : k < xs.length := by have := HN.out; omega
      obtain ⟨b, off, ua, uc, rfl, hbl, hint, hc⟩ := acts_at HX.out hkn
      obtain ⟨d0, d1, d2⟩ := hc wr HW.out.old
      have hstep : ∀ sv' sl', stepA (sv, sl) (xs.getD k (0, [], 0)) = (sv', sl') → (sv', sl') = playA v (xs.take (k + 1)) ∧ GoodA (sv', sl') (k + 1) := fun sv' sl' e => by
        rw [playA_step v xs k hkn, ← HS.out, ← e]
        exact ⟨rfl, HG.out.step _ (HL.out k hkn)⟩
      have hlen := HL.out k hkn
      have hcl : Hid (∀ W, Below w.heap.size w W → W.cell? ⟨b, off + k * 3 + 1, none⟩ = some (.slice ua (xs.getD k (0, [], 0)).2.1.length uc)) := Lib.hid fun W hW => (hc W hW).2.1
      generalize xs.getD k (0, [], 0) = act at *
      obtain ⟨kd, cl, vs⟩ := act
      have hbw : b < wr.heap.size := Nat.lt_of_lt_of_le hbl HW.out.old.size
      simp only at d0 d1 d2 hint hlen hcl
      obtain ⟨cn, hcn⟩ : ∃ cn, cn = cl.length := ⟨_, rfl⟩
      rw [← hcn] at d1 hint hcl
      have HST := Lib.hid hstep
      have HI := Lib.hid hint
      have HCN := Lib.hid hcn
      have HLN := Lib.hid hlen
      clear hstep hint hcn hlen hc hkn
      by_cases hkd : kd = 1
      · subst hkd
        by_cases hbig : 65536 < vs
        · have HGB := Lib.hid (Grow_big HW.out.f.toF vs hbig)
          have HE := Lib.hid (HST.out sv sl (by unfold stepA; rw [if_pos rfl, if_pos hbig]))
          go_wp2_with fail
          refine HGB.out.mono ?_
          rintro e w3 ⟨rfl, rfl⟩
          go_wp2
          go_roundw
          case rel => exact ⟨k + 1, by omega, by go_num, sv, sl, fp, out, us, HE.out.1, HE.out.2, HW.out⟩
          case measure => simp [intOf]; omega
        · have HE := Lib.hid (HST.out (max sv vs) sl (by unfold stepA; rw [if_pos rfl, if_neg hbig]))
          have HGR := Lib.hid (Grow_ (HW.out.drew.setVars (max sv vs)).f vs (by omega))
          go_wp2_with fail
          go_region
          all_goals
            go_wp2_with fail
            refine HGR.out.mono ?_
            rintro e w3 ⟨rfl, hp⟩
            have HP := Lib.hid ((HW.out.drew.setVars (max sv vs)).fop hp)
            clear hp
            go_wp2
            go_roundw
            case rel =>
              obtain ⟨fp', hM'⟩ := HP.out
              exact ⟨k + 1, by omega, by go_num, max sv vs, sl, fp', out, us, HE.out.1, HE.out.2, hM'⟩
            case measure => simp [intOf]; omega
      · have hr17 : ∀ m : Nat, Calls Tryd.prog 30 #[.slice ua cn uc, .int .i64 sv] (wr.drewN m) fun e w' => e = .returned (.bool (rightB cl sv)) ∧ w' = wr.drewN m := fun m => (r17_Right (HI.out.below (HW.out.old.trans ((below_drewN (Below.refl _ _) m).mono HW.out.old.size))) sv HG.out.v0 HG.out.v1).mono fun e w' ⟨g1, g2⟩ => ⟨g1, g2.symm⟩
        cases hr : rightB cl sv with
        | false =>
          rw [hr] at hr17
          have HR := Lib.hid hr17
          have hno := fun W hW => Add_no (HW.out.below (w' := W) hW).f.toF HG.out.v0 HG.out.v1 (HI.out.below (HW.out.old.trans (hW.mono HW.out.old.size))) hr
          have HNO := Lib.hid hno
          have HE := Lib.hid (HST.out sv sl (by unfold stepA; rw [if_neg hkd, if_neg (by simp [hr])]))
          clear hr17 hno hr
          go_wp2_with fail
          go_quiet ((go_at_call 30; exact Calls.quiet_of_same (HR.out _)))
          go_wp2_with fail
          refine (HNO.out _ (below_drewN (Below.refl _ _) _)).mono ?_
          rintro e w3 ⟨rfl, hp⟩
          have HP := Lib.hid ((HW.out.below (below_drewN (Below.refl _ _) _)).below hp)
          clear hp
          go_wp2
          go_roundw
          case rel => exact ⟨k + 1, by omega, by go_num, sv, sl, fp, out, us, HE.out.1, HE.out.2, HP.out⟩
          case measure => simp [intOf]; omega
        | true =>
          rw [hr] at hr17
          have HR := Lib.hid hr17
          have hyes := fun W vars' X' (hM : MadeW w W (w.heap.size + 1) (w.heap.size + 1 + 1) w.heap.size sv sl vars' X' fp out us) => True.intro
          have HRR := Lib.hid hr
          have HE := Lib.hid (HST.out sv (sl ++ [cl]) (by unfold stepA; rw [if_neg hkd, if_pos (by simp [hr])]))
          clear hr17 hr hyes
          go_wp2_with fail
          go_quiet ((go_at_call 30; exact Calls.quiet_of_same (HR.out _)))
          have hmq := HW.out.below (below_drewN (Below.refl _ _) nq)
          generalize wr.drewN nq = wq at hmq ⊢
          have hrbq := hmq.r.lt
          have fq := hmq.r.frozen 1
          have cq := hmq.r.cell 1
          have dq := hcl.out wq hmq.old
          have hbq : b < wq.heap.size := Nat.lt_of_lt_of_le hbl hmq.old.size
          have hrbq1 : w.heap.size + 1 < wq.heap.size := by omega
          have hrbq2 : w.heap.size + 2 < wq.heap.size := by omega
          have hbq1 : b < wq.heap.size + 1 := by omega
          have hbq2 : b ≤ wq.heap.size := by omega
          have HWQ := Lib.hid hmq
          clear hmq
          obtain ⟨A, oc, hout⟩ := out_form HWQ.out.row
          obtain ⟨ln, hln⟩ : ∃ ln, ln = sl.length := ⟨_, rfl⟩
          rw [← hln] at hout
          have HLL := Lib.hid hln
          have S1 : Hid (∀ W, Below wq.heap.size wq W → Src W A 1 ln us) := Lib.hid fun W hW => by
            have := HWQ.out.row
            rw [hout, ← HLL.out] at this
            exact this.src.below hW
          have HUL : Hid (us.length = ln) := Lib.hid (by rw [HWQ.out.len, HLL.out])
          have HLE : Hid (ln ≤ 60) := Lib.hid (by have := HG.out.n; rw [HLL.out]; simp at this; omega)
          have H1C : Hid (∀ u ∈ us, u.oneCell' = true) := Lib.hid (cls_one HWQ.out.len HWQ.out.cls)
          have HCQ : Hid (∀ W, Below wq.heap.size wq W → W.cell? ⟨b, off + k * 3 + 1, none⟩ = some (.slice ua cn uc)) := Lib.hid fun W hW => hcl.out W (HWQ.out.old.trans (hW.mono HWQ.out.old.size))
          have HFZ : Hid (∀ W, Below wq.heap.size wq W → W.frozen? ⟨w.heap.size + 1 + 1, 1, none⟩ = false) := Lib.hid fun W hW => (HWQ.out.r.below hW HWQ.out.r.lt).frozen 1
          have cq1 : wq.cell? ⟨w.heap.size + 1 + 1, 1, none⟩ = some (.slice A ln oc) := by rw [← hout]; exact cq
          have HCR : Hid (∀ W, Below wq.heap.size wq W → W.cell? ⟨w.heap.size + 1 + 1, 1, none⟩ = some (.slice A ln oc)) := Lib.hid fun W hW => (hW.cell (p := ⟨w.heap.size + 1 + 1, 1, none⟩) HWQ.out.r.lt).trans cq1
          have HOUT := Lib.hid hout
          clear hln hout cq
          go_wp2_with fail
          go_region_law (first
            | (refine step_V (w := wq) rfl (.tmp 72) (.tmp 74) rfl (.slice (some ⟨wq.heap.size, 0, none⟩) 0 0) [] (by simp [Act.eval]) A ln oc us (by simp [Act.eval]) HUL.out H1C.out ?_ ?_ ?_ ?_; (rw [List.length_nil]; have := HLE.out; omega); (first | exact OwnV.new (heap_new1 (wq.drewN _) _) (below_d1 _ _ _) (Nat.le_refl _) | exact OwnV.new (heap_new3 (wq.drewN _) _ _) (below_d2 _ _ _ _) (Nat.le_refl _)); (first | exact S1.out _ (below_d1 _ _ _) | exact S1.out _ (below_d2 _ _ _ _)); intro v1 w1 h1 hc1; have e1 := HCQ.out w1 h1.2.1; have r1 := HCR.out w1 h1.2.1; have H1 := Lib.hid h1; have K1 := Lib.hid hc1; clear h1 hc1)
            | (refine step_V (w := wq) rfl (.tmp 72) (.tmp 74) rfl (.slice (some ⟨wq.heap.size + 1, 0, none⟩) 0 0) [] (by simp [Act.eval]) A ln oc us (by simp [Act.eval]) HUL.out H1C.out ?_ ?_ ?_ ?_; (rw [List.length_nil]; have := HLE.out; omega); (exact OwnV.new (heap_new2 (wq.drewN _) _ _) (below_d2 _ _ _ _) (by omega)); (exact S1.out _ (below_d2 _ _ _ _)); intro v1 w1 h1 hc1; have e1 := HCQ.out w1 h1.2.1; have r1 := HCR.out w1 h1.2.1; have H1 := Lib.hid h1; have K1 := Lib.hid hc1; clear h1 hc1)
            | (refine step_V (w := wq) rfl (.tmp 75) (.tmp 81) rfl v1 us (by simp [Act.eval]) (some ⟨w1.heap.size, 0, none⟩) 1 1 [.slice ua cn uc] (by simp [Act.eval]) rfl (oneCell1 rfl) ?_ ?_ ?_ ?_; (rw [HUL.out]; have := HLE.out; omega); (exact H1.out.below (below_new1 _ _)); (exact Src.one (heap_new1 _ _)); intro v2 w2 h2 hc2; obtain ⟨gb2, cp2, ev2, -, -, -⟩ := h2.1.some_ (by simp); generalize (us ++ [Value.slice ua cn uc]).length = m2 at ev2; subst ev2; have e2 := HCQ.out w2 h2.2.1; have r2 := HCR.out w2 h2.2.1; have g2 := HFZ.out w2 h2.2.1; have H2 := Lib.hid h2; clear h2 hc2)
            | (refine step_V (w := wq) rfl (.tmp 75) (.tmp 81) rfl v1 us (by simp [Act.eval]) (some ⟨wq.heap.size, 0, none⟩) 1 1 [.slice ua cn uc] (by simp [Act.eval]) rfl (oneCell1 rfl) ?_ ?_ ?_ ?_; (rw [HUL.out]; have := HLE.out; omega); (exact H1.out); (exact Src.one (K1.out.at_ (heap_new3 (wq.drewN _) _ _) (by simp [Value.ownBlock]))); intro v2 w2 h2 hc2; obtain ⟨gb2, cp2, ev2, -, -, -⟩ := h2.1.some_ (by simp); generalize (us ++ [Value.slice ua cn uc]).length = m2 at ev2; subst ev2; have e2 := HCQ.out w2 h2.2.1; have r2 := HCR.out w2 h2.2.1; have g2 := HFZ.out w2 h2.2.1; have H2 := Lib.hid h2; clear h2 hc2)
            | (refine step_V (w := wq) rfl (.tmp 75) (.tmp 81) rfl v1 us (by simp [Act.eval]) (some ⟨(wq.heap.size + 1), 0, none⟩) 1 1 [.slice ua cn uc] (by simp [Act.eval]) rfl (oneCell1 rfl) ?_ ?_ ?_ ?_; (rw [HUL.out]; have := HLE.out; omega); (exact H1.out); (exact Src.one (K1.out.at_ (heap_new2 (wq.drewN _) _ _) (by simp [Value.ownBlock]))); intro v2 w2 h2 hc2; obtain ⟨gb2, cp2, ev2, -, -, -⟩ := h2.1.some_ (by simp); generalize (us ++ [Value.slice ua cn uc]).length = m2 at ev2; subst ev2; have e2 := HCQ.out w2 h2.2.1; have r2 := HCR.out w2 h2.2.1; have g2 := HFZ.out w2 h2.2.1; have H2 := Lib.hid h2; clear h2 hc2))
          all_goals
            have hM2 := HWQ.out.setV H2.out HI.out
            have d1' := hcl.out _ hM2.old
            have HAY := Lib.hid (Add_yes hM2.f hM2.old.size HG.out.v0 HG.out.v1 (HI.out.below hM2.old) HRR.out (by have := HLE.out; have := HLL.out; omega) (by have := HLN.out; omega))
            have HM2 := Lib.hid hM2
            clear hM2
            generalize w2.setCell ⟨w.heap.size + 1 + 1, 1, none⟩ (.slice (some ⟨gb2, 0, none⟩) m2 cp2) = W2 at *
            go_wp2_with fail
            refine HAY.out.mono ?_
            rintro e w4 ⟨rfl, hp⟩
            have HP := Lib.hid (HM2.out.fop hp)
            clear hp
            go_wp2
            go_roundw
            case rel =>
              obtain ⟨fp', hM'⟩ := HP.out
              exact ⟨k + 1, by omega, by go_num, sv, sl ++ [cl], fp', _, _, HE.out.1, HE.out.2, hM'⟩
            case measure => simp [intOf]; omega
    · have hkn : k = xs.length := by have := HN.out; omega
      have HKN := Lib.hid hkn
      clear hkn
      have y0 : wr.cell? ⟨w.heap.size, 0, none⟩ = some (.int .i64 0) := HW.out.z.cell 0
      have y1 : wr.cell? ⟨w.heap.size, 1, none⟩ = some (.slice none 0 0) := HW.out.z.cell 1
      obtain ⟨A, oc, hout⟩ := out_form HW.out.row
      subst hout
      go_wp2_with fail
      go_region
      all_goals
        obtain ⟨t1, t2, t3⟩ := HW.out.end_ (.int .i64 sv) (.slice A sl.length oc)
        have HT := Lib.hid t1
        have HT2 := Lib.hid t2
        have HT3 := Lib.hid t3
        have hc := ((HW.out.z.set_ 0 (.int .i64 sv)).set_ 1 (.slice A sl.length oc)).cell 0
        have hc2 := ((HW.out.z.set_ 0 (.int .i64 sv)).set_ 1 (.slice A sl.length oc)).cell 1
        simp at hc hc2
        clear t1 t2 t3 y0 y1 c0 c1
        go_wp2_with fail
        refine bodyPost_ret (v := .tuple #[.pointer (some ⟨w.heap.size + 1, 0, none⟩), .agg #[.int .i64 sv, .slice A sl.length oc], .bool true]) (by simp [results, Tryd.results11, go_sem, hc, hc2]) rfl ?_
        have hpl : playA v xs = (sv, sl) := by
          have := HS.out
          rw [HKN.out, List.take_length] at this
          exact this.symm
        rw [hpl]
        exact ⟨w.heap.size + 1, .slice A sl.length oc, rfl, HT.out, HT2.out, HT3.out⟩
end Go.Proofs.YtnpmaphedcfnnaaDoor
