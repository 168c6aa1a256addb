/-
  GatesMusts: the law.
-/
import Derived.Test.YtkofhilgehhopaaGvK
import Derived.Test.YtkofhilgehhopaaFrameA
import Derived.Test.YtkofhilgehhopaaFrameS
import Derived.Test.YtkofhilgehhopaaCnfJ
namespace Go.Proofs.Ytkofhilgehhopaa
open Go Go.ChangeShapes Go.WideShapes Go.ChangeAt Go.RowKit Go.Maps
set_option linter.unusedVariables false
set_option linter.unusedSimpArgs false
attribute [local go_sem ↓] Go.wp_at_zero Go.wp_at_succ
/-- What the loop over the clauses that must hold has. -/
def MustR (w0 : World) (g f m : Nat) (S : GS) (σ : Nat → Bool) (vl wv : Value) (l : List Int) (ws : List Bool) (i : Nat) (ho : Value) (wr : World) : Prop :=
  ∃ ms fp, ms.length = i ∧ (∀ c ∈ ms, c.length ≤ 8 ∧ ∀ x ∈ c, okL S.n x) ∧ ho = .bool (hA σ ms) ∧ GMem fp w0.heap.size wr g f m ⟨S.n, S.cl ++ ms, S.tab⟩ ∧ RowG fp wr m vl l ∧ Bools wr wv ws ∧ (∀ b, wv.ownBlock = some b → ¬ fp b ∧ b ≠ m ∧ b < wr.heap.size) ∧ Below w0.heap.size w0 wr
theorem MustR.below {w0 : World} {g f m : Nat} {S : GS} {σ : Nat → Bool} {vl wv : Value} {l : List Int} {ws : List Bool} {i : Nat} {ho : Value} {wr wx : World} (h : MustR w0 g f m S σ vl wv l ws i ho wr) (hb : Below wr.heap.size wr wx) : MustR w0 g f m S σ vl wv l ws i ho wx := by
  obtain ⟨ms, fp, h1, h2, h3, h4, h5, h6, h7, h8⟩ := h
  exact ⟨ms, fp, h1, h2, h3, h4.below hb, h5.below hb, h6.below hb, fun b hbk => ⟨(h7 b hbk).1, (h7 b hbk).2.1, Nat.lt_of_lt_of_le (h7 b hbk).2.2 hb.size⟩, h8.trans (hb.mono h8.size)⟩
theorem MustR.must {w0 : World} {g f m : Nat} {S : GS} {σ : Nat → Bool} {vl wv : Value} {l : List Int} {ws : List Bool} {i : Nat} {wr : World} {ms : List (List Int)} {fp : Nat → Prop} (h1 : ms.length = i) (h2 : ∀ c ∈ ms, c.length ≤ 8 ∧ ∀ x ∈ c, okL S.n x)
    (h4 : GMem fp w0.heap.size wr g f m ⟨S.n, S.cl ++ ms, S.tab⟩) (h5 : RowG fp wr m vl l) (h6 : Bools wr wv ws) (h7 : ∀ b, wv.ownBlock = some b → ¬ fp b ∧ b ≠ m ∧ b < wr.heap.size) (h8 : Below w0.heap.size w0 wr) {cs : List Int} (hc : cs.length ≤ 8 ∧ ∀ x ∈ cs, okL S.n x) {w' : World}
    (hL : GLeft fp w0.heap.size wr g f m ⟨S.n, (S.cl ++ ms) ++ [cs], S.tab⟩ w') : MustR w0 g f m S σ vl wv l ws (i + 1) (.bool (hA σ ms && hC σ cs)) w' := by
  obtain ⟨fp', k1, k2, k3, k4⟩ := hL.open_
  refine ⟨ms ++ [cs], fp', by rw [List.length_append, h1]; rfl, fun c hcc => ?_, ?_, by rw [← List.append_assoc]; exact k1, h5.chg k2 k3, h6.chg k2 (fun b hb e => e.elim (h7 b hb).1 (h7 b hb).2.1), fun b hb => ⟨fun e => (k3 b e).elim (h7 b hb).1 (fun e => by have := (h7 b hb).2.2; omega), (h7 b hb).2.1, Nat.lt_of_lt_of_le (h7 b hb).2.2 k2.size⟩, h8.trans k4⟩
  · rcases List.mem_append.1 hcc with e | e
    · exact h2 c e
    · simp at e; subst e; exact hc
  · rw [hA_app]; simp [hA]
theorem clsOk_of {n : Nat} {cls : List (List Int)} (h1 : cls.length ≤ 100000) (h2 : ∀ c ∈ cls, c.length ≤ 20) (h3 : ∀ c ∈ cls, ∀ x ∈ c, okL n x) : ClsOk (n : Int) cls := by
  refine ⟨h1, fun j hj => ?_⟩
  have hm : cls.getD j [] ∈ cls := by simp [List.getD, hj]
  exact ⟨by have := h2 _ hm; omega, rightB_ok (h3 _ hm)⟩
theorem MustR.form {w0 : World} {g f m : Nat} {S : GS} {F : Nat → Prop} {σ : Nat → Bool} {vl wv : Value} {l : List Int} {ws : List Bool} {i : Nat} {ho : Value} {wr : World} (h : MustR w0 g f m S σ vl wv l ws i ho wr) (hi : GI S F) (hC : CB S) (hn : S.n ≤ 541) (hcl : S.cl.length ≤ 2461) (hi9 : i ≤ 20) :
    ∃ ms, ho = .bool (hA σ ms) ∧ (∀ c ∈ ms, c.length ≤ 8 ∧ ∀ x ∈ c, okL S.n x) ∧ ms.length ≤ 20 ∧ Ints wr vl l ∧ Below w0.heap.size w0 wr ∧ (Calls Try.prog 8 #[.pointer (some ⟨g, 0, none⟩)] wr fun e w' => ∃ f', e = .returned (.pointer (some ⟨f', 0, none⟩)) ∧ FAt wr.heap.size w' f' (S.n : Int) (S.cl ++ ms) ∧ Below wr.heap.size wr w') := by
  obtain ⟨ms, fp, h1, h2, h3, h4, h5, h6, h7, h8⟩ := h
  obtain ⟨D, -, hG⟩ := h4
  refine ⟨ms, h3, h2, by omega, h5.r.ints, h8, Formula_ hG (by show (0 : Int) ≤ (S.n : Int); omega) (by show (S.n : Int) ≤ 65536; omega) (clsOk_of (by show (S.cl ++ ms).length ≤ 100000; rw [List.length_append]; omega) (fun c hc => ?_) (fun c hc => ?_))⟩
  · rcases List.mem_append.1 hc with e | e
    · exact hC c e
    · have := (h2 c e).1; omega
  · rcases List.mem_append.1 hc with e | e
    · exact hi.lit c e
    · exact (h2 c e).2
theorem hC_snoc (σ : Nat → Bool) (cs : List Int) (x : Int) : hC σ (cs ++ [x]) = (hC σ cs || lvl σ x) := by unfold hC; rw [List.any_append]; simp
end Go.Proofs.Ytkofhilgehhopaa
/-
  GatesMusts, walked.
-/
namespace Go.Proofs.Ytkofhilgehhopaa
open Go Go.ChangeShapes Go.WideShapes Go.ChangeAt Go.RowKit Go.Maps
set_option linter.unusedVariables false
set_option linter.unusedSimpArgs false
attribute [local go_sem ↓] Go.wp_at_zero Go.wp_at_succ
set_option maxHeartbeats 8000000 in
set_option maxRecDepth 100000 in
theorem claw_gmusts {w : World} {v mv : Value} {xs : List ActD} {must : List (List Int)} (hv : ActsS w v xs) (hm : IntsS w mv must) (neg : Bool) : Calls Try.prog 5 #[v, mv, .bool neg] w fun e w' => e = .returned (.bool true) ∧ Below w.heap.size w w' := by
  have HV := Lib.hid hv
  have HMU := Lib.hid hm
  obtain ⟨aa, ac, rfl, hq1, hq2⟩ := hv.form
  obtain ⟨ma, mc, rfl, hm1, hm2⟩ := hm.form
  have HN := Lib.hid (gates_New w)
  have HAL : Hid (∀ W, Below w.heap.size w W → Calls Try.prog 20 #[] W fun e w' => e = .returned (.bool true) ∧ Below w.heap.size w w') := Lib.hid fun W hW => (alive27 W).mono fun e w' ⟨q1, q2⟩ => ⟨q1, hW.trans (q2.mono hW.size)⟩
  obtain ⟨q, hq⟩ : ∃ q, q = xs.length := ⟨_, rfl⟩
  rw [← hq]
  have HQ := Lib.hid hq
  obtain ⟨mn, hmn⟩ : ∃ mn, mn = must.length := ⟨_, rfl⟩
  rw [← hmn] at hm1 ⊢
  have HMN := Lib.hid hmn
  have mn9 : (mn : Int) ≤ 9223372036854775807 := by have : mn ≤ maxLen := Nat.le_trans hm1 hm2; unfold maxLen at this; omega
  clear hv hm hq hmn hq1 hq2 hm1 hm2
  go_enter Try.func5, Try.ntmps5
  go_wp2_with fail
  refine HN.out.mono ?_
  rintro e w1 ⟨g, f, m, fp, rfl, hG, hb1⟩
  have HM := made_ ⟨_, Rep.nil, hG⟩ hb1 HV.out
  rw [← HQ.out] at HM
  have HMD := Lib.hid HM
  clear HM hG
  go_wp2_with fail
  refine HMD.out.mono ?_
  rintro e w2 hMQ
  rcases hMQ with ⟨rfl, fp2, S2, hG2, hb2⟩ | ⟨vl, rfl, hq6, l, S, F, fp2, hM, hCB, hG2, hR, ho, hb2, hF⟩
  · have HB2 := Lib.hid hb2
    clear hG2
    by_cases hbig : (20 : Int) < (mn : Int)
    · go_wp2_with ((go_at_call 20; refine (HAL.out _ HB2.out).mono ?_; rintro e w3 ⟨rfl, hb3⟩))
      go_ret
      exact ⟨rfl, hb3⟩
    · go_wp2_with ((go_at_call 20; refine (HAL.out _ HB2.out).mono ?_; rintro e w3 ⟨rfl, hb3⟩))
      go_ret
      exact ⟨rfl, hb3⟩
  · rw [List.take_length] at hM
    have hlen : l.length = q + 1 := by rw [hM.len, HQ.out]
    have hrr := hR.r
    rw [hlen] at hrr
    rcases hrr.form with ⟨-, h0, -⟩ | ⟨gl, lc, rfl, -, -, -, -⟩
    · omega
    have hq60 : q ≤ 60 := by rw [HQ.out]; exact hq6
    have hn541 : S.n ≤ 541 := by have := hM.nb; omega
    have hc2461 : S.cl.length ≤ 2461 := by have := hM.cb; omega
    have HTB : Hid (S.tab.length ≤ 540) := Lib.hid (by have := hM.tb; omega)
    have HM := Lib.hid hM
    have HCB := Lib.hid hCB
    have HG2 := Lib.hid hG2
    have HR2 := Lib.hid hR
    have HB2 := Lib.hid hb2
    have HLEN := Lib.hid hlen
    have HF := Lib.hid hF
    clear hM hCB hG2 hR ho hb2 hF hrr hq6
    by_cases hbig : (20 : Int) < (mn : Int)
    · go_wp2_with ((go_at_call 20; refine (HAL.out _ HB2.out).mono ?_; rintro e w3 ⟨rfl, hb3⟩))
      go_ret
      exact ⟨rfl, hb3⟩
    have hme := Meanings_ (HV.out.below' HB2.out) (by rw [← HQ.out]; omega) HF.out
    rw [← HQ.out] at hme
    go_wp2_with fail
    with_reducible refine hme.mono ?_
    rintro e w3 ⟨u2, rfl, hO3⟩
    have hwl : (meansA xs).length = q + 1 := by rw [meansA_len, HQ.out]
    obtain ⟨k0, hk0, hmean, hlaw⟩ := HM.out.law
    have HMEAN := Lib.hid hmean
    have HLAW := Lib.hid hlaw
    obtain ⟨σ, hσ⟩ : ∃ σ, σ = sgm S.n k0 := ⟨_, rfl⟩
    have HST : Hid (MustR w g f m S σ (.slice (some ⟨gl, 0, none⟩) (q + 1) lc) u2 l (meansA xs) 0 (.bool true) w3) := Lib.hid (by
      have hgb := HG2.out.bd
      refine ⟨[], fp2, rfl, fun c hc => by simp at hc, rfl, ?_, HR2.out.below hO3.2.1, hO3.1.bools, fun b hb => ⟨fun e => ?_, ?_, hO3.1.lt b hb⟩, HB2.out.trans (hO3.2.1.mono HB2.out.size)⟩
      · rw [List.append_nil]; exact HG2.out.below hO3.2.1
      · have := hO3.2.2 b hb; have := hgb.1 b e; omega
      · have := hO3.2.2 b hb; have := hgb.2; omega)
    obtain ⟨wa, wc, rfl, -, -, hw3⟩ := hO3.1.bools
    rcases hw3 with e | ⟨bw, ow, rfl, -⟩
    · rw [e] at hwl; simp at hwl
    rw [hwl] at HST ⊢
    have HSG := Lib.hid hσ
    have HWL := Lib.hid hwl
    have q9 : (q : Int) ≤ 60 := by omega
    have mn20 : (mn : Int) ≤ 20 := by omega
    clear hme hO3 hmean hlaw hσ hwl hlen hbig
    go_wp2_with fail
    go_loopw [12, 13, 14, 15, 16, 17] (fun ho i _ _ _ _ wr => ∃ j : Nat, j ≤ mn ∧ i = .int .i64 j ∧ MustR w g f m S σ (.slice (some ⟨gl, 0, none⟩) (q + 1) lc) (.slice (some ⟨bw, ow, none⟩) (q + 1) wc) l (meansA xs) j ho wr) (fun _ i _ _ _ _ _ => mn - (intOf i).toNat)
    case atStart => exact ⟨0, Nat.zero_le _, rfl, HST.out⟩
    case round =>
      obtain ⟨j, hj, rfl, hMR⟩ := hrel
      by_cases hlt : (j : Int) < (mn : Int)
      · rename World => wo
        obtain ⟨ms, fp3, h1, h2, rfl, h4, h5, h6, h7, h8⟩ := hMR
        obtain ⟨b, off, cap, mu, he, hcu, hmu⟩ := HMU.out.at_ (j := j) (by rw [← HMN.out]; omega)
        rw [← HMN.out] at he
        injection he with e1 e2 e3
        subst e1 e3
        clear e2
        obtain ⟨cl, hcl⟩ : ∃ cl, cl = must.getD j [] := ⟨_, rfl⟩
        rw [← hcl] at hmu
        obtain ⟨xa, xc, rfl, -, hx1, hx2, -⟩ := id hmu
        have HMUI := Lib.hid hmu
        obtain ⟨cn, hcn⟩ : ∃ cn, cn = cl.length := ⟨_, rfl⟩
        rw [← hcn] at HMUI hcu hx1
        have HCN := Lib.hid hcn
        have cn9 : (cn : Int) ≤ 9223372036854775807 := by have : cn ≤ maxLen := Nat.le_trans hx1 hx2; unfold maxLen at this; omega
        have HCU : Hid (∀ X, Below w.heap.size w X → X.cell? ⟨b, off + j, none⟩ = some (.slice xa cn xc)) := Lib.hid fun X hX => (hX.cell (World.block_lt_of_cell? w _ hcu)).trans hcu
        have z0 := HCU.out _ h8
        have H1 := Lib.hid h1
        have H2 := Lib.hid h2
        have H4 := Lib.hid h4
        have H5 := Lib.hid h5
        have H6 := Lib.hid h6
        have H7 := Lib.hid h7
        have H8 := Lib.hid h8
        clear h1 h2 h4 h5 h6 h7 h8 hcu hmu hcl hcn hx1 hx2
        by_cases hc8 : (8 : Int) < (cn : Int)
        · go_wp2_with ((go_at_call 20; refine (HAL.out _ H8.out).mono ?_; rintro e w4 ⟨rfl, hb4⟩))
          go_ret
          exact ⟨rfl, hb4⟩
        have hc8' : (cn : Int) ≤ 8 := by omega
        clear hc8
        have HOS := Lib.hid (OwnI.start wo)
        go_wp2_with fail
        go_loopw [14, 15, 16, 17] (fun vc so i _ wr => ∃ k : Nat, k ≤ cn ∧ i = .int .i64 k ∧ ∃ cs, cs.length = k ∧ (∀ x ∈ cs, okL S.n x) ∧ so = .bool (hC σ cs) ∧ OwnI wo wr vc cs) (fun _ _ i _ _ => cn - (intOf i).toNat)
        case atStart => exact ⟨0, Nat.zero_le _, rfl, [], rfl, (fun x hx => by simp at hx), rfl, HOS.out⟩
        case round =>
          obtain ⟨k, hk, rfl, cs, hcs1, hcs2, rfl, hO⟩ := hrel
          have HBX := Lib.hid (H8.out.trans (hO.2.1.mono H8.out.size))
          have z1 := HCU.out _ HBX.out
          have HO := Lib.hid hO
          have HCS1 := Lib.hid hcs1
          have HCS2 := Lib.hid hcs2
          clear z0
          by_cases hlt2 : (k : Int) < (cn : Int)
          · obtain ⟨bx, ox, cx, e, k1⟩ := ints_at' HMUI.out (j := k) (by rw [← HCN.out]; omega)
            rw [← HCN.out] at e
            injection e with e1 e2 e3
            subst e1 e3
            clear e2
            have z2 := k1 _ HBX.out
            generalize cl.getD k 0 = x at *
            clear hO hcs1 hcs2 k1
            rcases (show x < 0 ∨ (¬ x < 0 ∧ (q : Int) + 1 ≤ x) ∨ (¬ x < 0 ∧ ¬ (q : Int) + 1 ≤ x) by omega) with hx | ⟨hx, hx'⟩ | ⟨hx, hx'⟩
            · go_wp2_with ((go_at_call 20; refine (HAL.out _ HBX.out).mono ?_; rintro e w4 ⟨rfl, hb4⟩))
              go_ret
              exact ⟨rfl, hb4⟩
            · go_wp2_with ((go_at_call 20; refine (HAL.out _ HBX.out).mono ?_; rintro e w4 ⟨rfl, hb4⟩))
              go_ret
              exact ⟨rfl, hb4⟩
            · obtain ⟨t, rfl⟩ : ∃ t : Nat, x = (t : Int) := ⟨x.toNat, by omega⟩
              have htq : t < q + 1 := by omega
              have htl : t < l.length := by rw [HLEN.out]; exact htq
              have HLV := Lib.hid (lits_at HMEAN.out htl)
              rw [← HSG.out] at HLV
              have HOK := Lib.hid (HM.out.ok (l.getD t 0) (by simp [List.getD, htl]))
              obtain ⟨b1, o1, c1, e, k1⟩ := ints_at' H5.out.r.ints htl
              rw [HLEN.out] at e
              injection e with e1 e6 e7
              injection e1 with e1
              injection e1 with e4 e5
              subst e4 e5 e7
              clear e6
              have z3 := k1 wr HO.out.2.1
              rw [Nat.zero_add] at z3
              obtain ⟨b1, o1, c1, e, k2⟩ := bools_at2 H6.out (j := t) (by rw [HWL.out]; exact htq)
              rw [HWL.out] at e
              injection e with e1 e6 e7
              injection e1 with e1
              injection e1 with e4 e5
              subst e4 e5 e7
              clear e6
              have HCY : Hid (∀ X, Below wo.heap.size wo X → X.cell? ⟨bw, ow + t, none⟩ = some (.bool ((meansA xs).getD t false))) := Lib.hid k2
              obtain ⟨y, hy⟩ : ∃ y, y = (meansA xs).getD t false := ⟨_, rfl⟩
              obtain ⟨r, hr⟩ : ∃ r, r = l.getD t 0 := ⟨_, rfl⟩
              rw [← hy] at HLV HCY
              rw [← hr] at HLV HOK z3
              have r0 : -541 ≤ r := by have := HOK.out.2.1; omega
              have r1 : r ≤ 541 := by have := HOK.out.2.2; omega
              obtain ⟨sv, hsv⟩ : ∃ sv, sv = hC σ cs := ⟨_, rfl⟩
              rw [← hsv]
              have HSV := Lib.hid hsv.symm
              clear k1 k2 hy hr hsv htl htq
              cases neg <;> cases sv
              · -- neg = false, some = false
                have HS2 : Hid (hC σ (cs ++ [r]) = y) := Lib.hid (by rw [hC_snoc, HSV.out, HLV.out]; cases y <;> rfl)
                go_wp2_with (at_builtin; refine wpList_I (w := wo) rfl _ _ rfl _ cs rfl (some ⟨wr.heap.size, 0, none⟩) 1 1 [r] rfl rfl (by have := HCS1.out; simp; omega) (HO.out.below (below_new1 wr (.cells #[.int .i64 (r)] 3))) (Src.one (heap_new1 _ _)) ?_; intro v4 w4 h4; have H4' := Lib.hid h4; have cy := HCY.out w4 h4.2.1; clear h4)
                go_roundw
                case rel => exact ⟨k + 1, by omega, by go_num, cs ++ [r], by rw [List.length_append, HCS1.out]; rfl, fun x hx => by
                    rcases List.mem_append.1 hx with e | e
                    · exact HCS2.out x e
                    · simp at e; rw [e]; exact HOK.out, by rw [HS2.out], H4'.out⟩
                case measure => simp [intOf]; omega
              · -- neg = false, some = true
                have HS2 : Hid (hC σ (cs ++ [r]) = true) := Lib.hid (by rw [hC_snoc, HSV.out, HLV.out]; cases y <;> rfl)
                go_wp2_with (at_builtin; refine wpList_I (w := wo) rfl _ _ rfl _ cs rfl (some ⟨wr.heap.size, 0, none⟩) 1 1 [r] rfl rfl (by have := HCS1.out; simp; omega) (HO.out.below (below_new1 wr (.cells #[.int .i64 (r)] 3))) (Src.one (heap_new1 _ _)) ?_; intro v4 w4 h4; have H4' := Lib.hid h4; have cy := HCY.out w4 h4.2.1; clear h4)
                go_roundw
                case rel => exact ⟨k + 1, by omega, by go_num, cs ++ [r], by rw [List.length_append, HCS1.out]; rfl, fun x hx => by
                    rcases List.mem_append.1 hx with e | e
                    · exact HCS2.out x e
                    · simp at e; rw [e]; exact HOK.out, by rw [HS2.out], H4'.out⟩
                case measure => simp [intOf]; omega
              · -- neg = true, some = false
                have HS2 : Hid (hC σ (cs ++ [-r]) = !y) := Lib.hid (by rw [hC_snoc, HSV.out, lvl_neg HOK.out.1, HLV.out]; cases y <;> rfl)
                go_wp2_with (at_builtin; refine wpList_I (w := wo) rfl _ _ rfl _ cs rfl (some ⟨wr.heap.size, 0, none⟩) 1 1 [-r] rfl rfl (by have := HCS1.out; simp; omega) (HO.out.below (below_new1 wr (.cells #[.int .i64 (-r)] 3))) (Src.one (heap_new1 _ _)) ?_; intro v4 w4 h4; have H4' := Lib.hid h4; have cy := HCY.out w4 h4.2.1; clear h4)
                go_roundw
                case rel => exact ⟨k + 1, by omega, by go_num, cs ++ [-r], by rw [List.length_append, HCS1.out]; rfl, fun x hx => by
                    rcases List.mem_append.1 hx with e | e
                    · exact HCS2.out x e
                    · simp at e; rw [e]; exact HOK.out.neg, by rw [HS2.out], H4'.out⟩
                case measure => simp [intOf]; omega
              · -- neg = true, some = true
                have HS2 : Hid (hC σ (cs ++ [-r]) = true) := Lib.hid (by rw [hC_snoc, HSV.out, lvl_neg HOK.out.1, HLV.out]; cases y <;> rfl)
                go_wp2_with (at_builtin; refine wpList_I (w := wo) rfl _ _ rfl _ cs rfl (some ⟨wr.heap.size, 0, none⟩) 1 1 [-r] rfl rfl (by have := HCS1.out; simp; omega) (HO.out.below (below_new1 wr (.cells #[.int .i64 (-r)] 3))) (Src.one (heap_new1 _ _)) ?_; intro v4 w4 h4; have H4' := Lib.hid h4; have cy := HCY.out w4 h4.2.1; clear h4)
                go_roundw
                case rel => exact ⟨k + 1, by omega, by go_num, cs ++ [-r], by rw [List.length_append, HCS1.out]; rfl, fun x hx => by
                    rcases List.mem_append.1 hx with e | e
                    · exact HCS2.out x e
                    · simp at e; rw [e]; exact HOK.out.neg, by rw [HS2.out], H4'.out⟩
                case measure => simp [intOf]; omega
          · have hkn : k = cn := by omega
            have hmu := Must_ (H4.out.below HO.out.2.1) HBX.out.size (S := ⟨S.n, S.cl ++ ms, S.tab⟩) ⟨by show S.n < 60000; omega, by show (S.cl ++ ms).length ≤ 97000; rw [List.length_append, H1.out]; omega, by show S.tab.length ≤ 1000000; have := HTB.out; omega⟩ HO.out.ints HCS2.out (by rw [HCS1.out]; omega)
            have HMUST := Lib.hid hmu
            have hln : cs.length ≤ 8 := by rw [HCS1.out]; omega
            have HFIN : Hid (∀ w', GLeft fp3 w.heap.size wr g f m ⟨S.n, (S.cl ++ ms) ++ [cs], S.tab⟩ w' → MustR w g f m S σ (.slice (some ⟨gl, 0, none⟩) (q + 1) lc) (.slice (some ⟨bw, ow, none⟩) (q + 1) wc) l (meansA xs) (j + 1) (.bool (hA σ ms && hC σ cs)) w') := Lib.hid fun w' hL =>
              MustR.must H1.out H2.out (H4.out.below HO.out.2.1) (H5.out.below HO.out.2.1) (H6.out.below HO.out.2.1) (fun b hb => ⟨(H7.out b hb).1, (H7.out b hb).2.1, Nat.lt_of_lt_of_le (H7.out b hb).2.2 HO.out.2.1.size⟩) HBX.out ⟨hln, HCS2.out⟩ hL
            obtain ⟨A, cc, rfl, -, -⟩ := HO.out.form
            generalize hA σ ms = ha at *
            generalize hC σ cs = hc at *
            clear hmu hO hcs1 hcs2 hln
            go_wp2_with fail
            refine HMUST.out.mono ?_
            rintro e w4 ⟨rfl, hL⟩
            have HF4 := Lib.hid (HFIN.out w4 hL)
            clear hL
            cases ha
            all_goals
              go_wp2_with fail
              go_roundw
              case rel => exact ⟨j + 1, by omega, by go_num, by simpa using HF4.out⟩
              case measure => simp [intOf]; omega
      · have hjn : j = mn := by omega
        obtain ⟨ms, rfl, h2, h20, hvl, hB, hFO⟩ := hMR.form HM.out.gi HCB.out hn541 hc2461 (by omega)
        have H2 := Lib.hid h2
        have H20 := Lib.hid h20
        have HVL := Lib.hid hvl
        have HB := Lib.hid hB
        have HFO := Lib.hid hFO
        clear hMR h2 h20 hvl hB hFO
        go_wp2_with fail
        refine HFO.out.mono ?_
        rintro e w4 ⟨f1, rfl, hF1, hb4⟩
        have HF1 := Lib.hid hF1
        have HV1 := Lib.hid (FBlk.of hF1).Vars
        have HB4 := Lib.hid (HB.out.trans (hb4.mono HB.out.size))
        have HVL4 := Lib.hid (HVL.out.below hb4)
        have hclen : (S.cl ++ ms).length ≤ 3000 := by rw [List.length_append]; have := H20.out; omega
        have hcok : ∀ c ∈ S.cl ++ ms, c.length ≤ 20 ∧ ∀ x ∈ c, okL S.n x := fun c hc => by
          rcases List.mem_append.1 hc with e | e
          · exact ⟨HCB.out c e, HM.out.gi.lit c e⟩
          · exact ⟨by have := (H2.out c e).1; omega, (H2.out c e).2⟩
        have hCL := Clauses_ hF1 (by omega) (fun i hi => by
          have := (hcok ((S.cl ++ ms).getD i []) (by simp only [List.getD, List.getElem?_eq_getElem hi, Option.getD_some]; exact List.getElem_mem hi)).1
          omega)
        have HCL := Lib.hid hCL
        have HCOK := Lib.hid hcok
        have hl1 := (HLAW.out ms (fun c hc => (H2.out c hc).2)).1
        rw [← HQ.out, ← HSG.out] at hl1
        have HL1 := Lib.hid hl1
        have hn9 : (S.n : Int) ≤ 541 := by omega
        generalize hxs : S.cl ++ ms = xss at *
        generalize hA σ ms = ha at *
        generalize hnn : S.n = n at *
        clear hF1 hb4 hCL hcok hl1 hclen
        by_cases hbig : (12 : Int) < (n : Int)
        · go_wp2_with (first | (go_at_call 9; with_reducible refine HV1.out.mono ?_; rintro e wv ⟨rfl, rfl⟩) | (go_at_call 20; refine (HAL.out _ HB4.out).mono ?_; rintro e wz ⟨rfl, hbz⟩))
          go_ret
          exact ⟨rfl, hbz⟩
        have hn12 : n ≤ 12 := by omega
        go_wp2_with (first | (go_at_call 9; with_reducible refine HV1.out.mono ?_; rintro e wv ⟨rfl, rfl⟩))
        refine HCL.out.mono ?_
        rintro e w5 ⟨u5, rfl, hOS⟩
        obtain ⟨la, lcap, rfl, -, -⟩ := hOS.intsS.form
        have HLS := Lib.hid hOS.intsS
        have HB5 := Lib.hid (HB4.out.trans (hOS.old.mono HB4.out.size))
        have HVL5 := Lib.hid (HVL4.out.below hOS.old)
        clear hOS
        have hfr := free_ (HV.out.below' HB5.out) HVL5.out (by rw [HLEN.out, HQ.out]) (by rw [← HQ.out]; omega) (fun x hx => by have := HM.out.ok x hx; rw [hnn] at this; unfold okL at this; omega)
        rw [← HQ.out] at hfr
        go_wp2_with fail
        refine hfr.mono ?_
        rintro e w6 ⟨fs, rfl, hO6⟩
        have HO6 := Lib.hid hO6
        clear hfr hO6
        obtain ⟨fa, fc, rfl, -, -⟩ := HO6.out.form
        have hcn := r18_Count (HLS.out.below HO6.out.2.1) hn12 (fun c hc => clauseL_ok (n := n) (by omega) (HCOK.out c hc).2) HO6.out.ints (clauseL_ok (n := n) (by omega) (by have := HM.out.free_ok; rw [← HQ.out, hnn] at this; exact this))
        obtain ⟨cnt, hcnt⟩ : ∃ cnt : Nat, cnt = if ha = true then 1 else 0 := ⟨_, rfl⟩
        rw [HL1.out, ← hcnt] at hcn
        have HCN := Lib.hid hcn
        clear hcn
        go_wp2_with fail
        refine HCN.out.mono ?_
        rintro e w7 ⟨u7, rfl, hFR, hb7⟩
        obtain ⟨ra, rm, rc, rfl⟩ := hFR.form
        have HB7 := Lib.hid (HB5.out.trans ((HO6.out.2.1.trans (hb7.mono HO6.out.2.1.size)).mono HB5.out.size))
        clear hFR hb7
        cases ha with
        | true =>
          have hc1 : cnt = 1 := by simpa using hcnt
          clear hcnt
          subst hc1
          go_wp2_with ((go_at_call 20; refine (HAL.out _ HB7.out).mono ?_; rintro e wz ⟨rfl, hbz⟩))
          go_ret
          exact ⟨rfl, hbz⟩
        | false =>
          have hc1 : cnt = 0 := by simpa using hcnt
          clear hcnt
          subst hc1
          go_wp2_with ((go_at_call 20; refine (HAL.out _ HB7.out).mono ?_; rintro e wz ⟨rfl, hbz⟩))
          go_ret
          exact ⟨rfl, hbz⟩
end Go.Proofs.Ytkofhilgehhopaa
