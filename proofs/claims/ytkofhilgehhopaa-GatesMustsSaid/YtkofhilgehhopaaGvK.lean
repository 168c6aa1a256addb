/-
  GatesMeans: the law.
-/
import Derived.Test.YtkofhilgehhopaaGvJ
import Derived.Test.YtkofhilgehhopaaGvM
import Derived.Test.YtkofhilgehhopaaFrameA
import Derived.Test.YtkofhilgehhopaaGtF
namespace Go.Proofs.Ytkofhilgehhopaa
open Go Go.ChangeShapes Go.WideShapes Go.ChangeAt Go.RowKit Go.Maps
set_option linter.unusedVariables false
set_option linter.unusedSimpArgs false
attribute [local go_sem ↓] Go.wp_at_zero Go.wp_at_succ
theorem clauseL_ok {n : Nat} (hn : n ≤ 1000) {l : List Int} (h : ∀ x ∈ l, okL n x) : ClauseL l := fun x hx => by
  have := h x hx
  unfold okL at this
  exact ⟨this.1, by omega, by omega⟩
theorem lits_at {acts : List ActD} {l : List Int} {σ : Nat → Bool} (h : l.map (lvl σ) = meansA acts) {i : Nat} (hi : i < l.length) : lvl σ (l.getD i 0) = (meansA acts).getD i false := by
  rw [← h]
  simp [List.getD, hi]
theorem ActsS.below' {w w' : World} {v : Value} {xs : List ActD} (h : ActsS w v xs) (hb : Below w.heap.size w w') : ActsS w' v xs := by
  obtain ⟨a, cap, rfl, h1, h2, h3⟩ := h
  refine ⟨a, cap, rfl, h1, h2, ?_⟩
  rcases h3 with h3 | ⟨b, off, rfl, hc⟩
  · exact .inl h3
  refine .inr ⟨b, off, rfl, fun j hj => ?_⟩
  obtain ⟨c0, ⟨va, c1, d1⟩, ⟨vn, c2, d2⟩, c3⟩ := hc j hj
  exact ⟨(hb.cell (World.block_lt_of_cell? w _ c0)).trans c0, ⟨va, (hb.cell (World.block_lt_of_cell? w _ c1)).trans c1, d1.below hb⟩, ⟨vn, (hb.cell (World.block_lt_of_cell? w _ c2)).trans c2, d2.below hb⟩, (hb.cell (World.block_lt_of_cell? w _ c3)).trans c3⟩
set_option maxHeartbeats 8000000 in
set_option maxRecDepth 100000 in
theorem claw_gmeans {w : World} {v : Value} {xs : List ActD} (hv : ActsS w v xs) : Calls Try.prog 4 #[v] w fun e w' => e = .returned (.bool true) ∧ Below w.heap.size w w' := by
  have HV := Lib.hid hv
  obtain ⟨aa, ac, rfl, hq1, hq2⟩ := hv.form
  have HN := Lib.hid (gates_New w)
  have HAL : Hid (∀ W, Below w.heap.size w W → Calls Try.prog 20 #[] W fun e w' => e = .returned (.bool true) ∧ Below w.heap.size w w') := Lib.hid fun W hW => (alive27 W).mono fun e w' ⟨q1, q2⟩ => ⟨q1, hW.trans (q2.mono hW.size)⟩
  obtain ⟨q, hq⟩ : ∃ q, q = xs.length := ⟨_, rfl⟩
  rw [← hq]
  have HQ := Lib.hid hq
  clear hv hq hq1 hq2
  go_enter Try.func4, Try.ntmps4
  go_wp2_with fail
  refine HN.out.mono ?_
  rintro e w1 ⟨g, f, m, fp, rfl, hG, hb1⟩
  have HM := made_ ⟨_, Rep.nil, hG⟩ hb1 HV.out
  rw [← HQ.out] at HM
  have HMD := Lib.hid HM
  clear HM hG
  go_wp2_with fail
  refine HMD.out.mono ?_
  rintro e w2 hMQ
  rcases hMQ with ⟨rfl, fp2, S2, hG2, hb2⟩ | ⟨vl, rfl, hq6, l, S, F, fp2, hM, hCB, hG2, hR, ho, hb2, hF⟩
  · have HB2 := Lib.hid hb2
    have HT : Hid (Calls Try.prog 15 #[.pointer (some ⟨g, 0, none⟩)] w2 fun e w' => e = .returned (.int .i64 1) ∧ w2 = w') := Lib.hid (by obtain ⟨D, -, h2⟩ := hG2; exact True_ h2)
    clear hG2
    go_wp2_with (first | (go_at_call 15; refine (HT.out).mono ?_; rintro e w' ⟨rfl, rfl⟩) | (go_at_call 20; refine (HAL.out _ HB2.out).mono ?_; rintro e w3 ⟨rfl, hb3⟩))
    go_ret
    exact ⟨rfl, hb3⟩
  · rw [List.take_length] at hM
    have hlen : l.length = q + 1 := by rw [hM.len, HQ.out]
    have hrr := hR.r
    rw [hlen] at hrr
    rcases hrr.form with ⟨-, h0, -⟩ | ⟨gl, lc, rfl, -, -, -, -⟩
    · omega
    have hq60 : q ≤ 60 := by rw [HQ.out]; exact hq6
    have hn541 : S.n ≤ 541 := by have := hM.nb; omega
    have hc2461 : S.cl.length ≤ 2461 := by have := hM.cb; omega
    have HM := Lib.hid hM
    have HCB := Lib.hid hCB
    have HG2 := Lib.hid hG2
    have HLI := Lib.hid hR.r.ints
    have HB2 := Lib.hid hb2
    have HLEN := Lib.hid hlen
    have HF := Lib.hid hF
    have HT : Hid (Calls Try.prog 15 #[.pointer (some ⟨g, 0, none⟩)] w2 fun e w' => e = .returned (.int .i64 1) ∧ w2 = w') := Lib.hid (by obtain ⟨D, -, h2⟩ := hG2; exact True_ h2)
    clear hM hCB hG2 hR ho hb2 hF hrr hq6
    go_wp2_with ((go_at_call 15; refine (HT.out).mono ?_; rintro e w' ⟨rfl, rfl⟩))
    refine (form_M HG2.out HM.out.gi HCB.out hn541 hc2461).mono ?_
    rintro e w3 ⟨f1, rfl, hF1, hb3⟩
    have HF1 := Lib.hid hF1
    have HV1 := Lib.hid (FBlk.of hF1).Vars
    have HB3 := Lib.hid (HB2.out.trans (hb3.mono HB2.out.size))
    have HLI3 := Lib.hid (HLI.out.below hb3)
    obtain ⟨n, hn⟩ : ∃ n, n = S.n := ⟨_, rfl⟩
    rw [← hn] at HV1 HF1
    have HN := Lib.hid hn
    have hn9 : (n : Int) ≤ 541 := by omega
    clear hF1 hb3 hn
    by_cases hbig : (12 : Int) < (n : Int)
    · go_wp2_with (first | (go_at_call 9; with_reducible refine HV1.out.mono ?_; rintro e wv ⟨rfl, rfl⟩) | (go_at_call 20; refine (HAL.out _ HB3.out).mono ?_; rintro e w4 ⟨rfl, hb4⟩))
      go_ret
      exact ⟨rfl, hb4⟩
    have hn12 : n ≤ 12 := by omega
    have hfr := free_ (HV.out.below' HB3.out) HLI3.out (by rw [HLEN.out, HQ.out]) (by rw [← HQ.out]; omega) (fun x hx => by have := HM.out.ok x hx; unfold okL at this; omega)
    rw [← HQ.out] at hfr
    go_wp2_with (first | (go_at_call 9; with_reducible refine HV1.out.mono ?_; rintro e wv ⟨rfl, rfl⟩))
    refine hfr.mono ?_
    rintro e w4 ⟨fs, rfl, hO4⟩
    have HO4 := Lib.hid hO4
    clear hfr hO4
    obtain ⟨k0, hk0, hmean, hlaw⟩ := HM.out.law
    obtain ⟨hl1, hl2⟩ := hlaw [] (fun c hc => by simp at hc)
    rw [List.append_nil, ← HN.out, ← HQ.out, show hA (sgm n k0) [] = true from rfl, if_pos rfl] at hl1 hl2
    rw [← HN.out] at hmean
    have hcn := Count_ (HF1.out.below HO4.out.2.1) hn12 (fun c hc => clauseL_ok (n := S.n) (by omega) (HM.out.gi.lit c hc)) HO4.out.ints (clauseL_ok (n := S.n) (by omega) (by have := HM.out.free_ok; rw [← HQ.out] at this; exact this))
    rw [hl1, hl2] at hcn
    have HCN := Lib.hid hcn
    have HMEAN := Lib.hid hmean
    clear hcn hl1 hl2 hlaw hmean
    obtain ⟨fa, fc, rfl, -, -⟩ := HO4.out.form
    go_wp2_with fail
    refine HCN.out.mono ?_
    rintro e w5 ⟨u, rfl, hFV, hb5⟩
    obtain ⟨hMB, -, ua, um, uc, rfl⟩ := hFV
    have HMB := Lib.hid hMB
    have HB5 := Lib.hid (HB3.out.trans ((HO4.out.2.1.trans (hb5.mono HO4.out.2.1.size)).mono HB3.out.size))
    have HLI5 := Lib.hid (HLI3.out.below (HO4.out.2.1.trans (hb5.mono HO4.out.2.1.size)))
    clear hMB hb5
    have hme := Meanings_ (HV.out.below' HB5.out) (by rw [← HQ.out]; omega) HF.out
    rw [← HQ.out] at hme
    go_wp2_with fail
    with_reducible refine hme.mono ?_
    rintro e w6 ⟨u2, rfl, hO6⟩
    have HMB6 := Lib.hid (HMB.out.below hO6.2.1)
    have HLI6 := Lib.hid (HLI5.out.below hO6.2.1)
    have HB6 := Lib.hid (HB5.out.trans (hO6.2.1.mono HB5.out.size))
    have HWB := Lib.hid hO6.1.bools
    clear hme hO6
    have hwl : (meansA xs).length = q + 1 := by rw [meansA_len, HQ.out]
    obtain ⟨wa, wc, rfl, -, -, hw3⟩ := id HWB.out
    rcases hw3 with e | ⟨bw, ow, rfl, hcw⟩
    · rw [e] at hwl; simp at hwl
    rw [hwl] at HWB hcw ⊢
    have HCE : Hid (∀ j, j < q + 1 → ∀ X, Below w6.heap.size w6 X → X.cell? ⟨gl, j, none⟩ = some (.int .i64 (l.getD j 0)) ∧ X.cell? ⟨bw, ow + j, none⟩ = some (.bool ((meansA xs).getD j false))) := Lib.hid fun j hj X hX => by
      obtain ⟨b, off, c, e, k1⟩ := ints_at' HLI6.out (j := j) (by rw [HLEN.out]; exact hj)
      injection e with e1
      injection e1 with e1
      injection e1 with e2 e3
      subst e2 e3
      have h1 := k1 X hX
      rw [Nat.zero_add] at h1
      exact ⟨h1, (hX.cell (World.block_lt_of_cell? w6 _ (hcw j hj))).trans (hcw j hj)⟩
    have HEQ : Hid (∀ j, j < q + 1 → ∀ X, Below w6.heap.size w6 X → Calls Try.prog 25 #[.int .i64 (l.getD j 0), .slice ua um uc] X fun e w' => e = .returned (.bool ((meansA xs).getD j false)) ∧ X = w') := Lib.hid fun j hj X hX => by
      have hj' : j < l.length := by rw [HLEN.out]; exact hj
      have hok := HM.out.ok (l.getD j 0) (by simp [List.getD, hj'])
      have h1 := r17_Lit (HMB6.out.below hX) (l.getD j 0) (by unfold okL at hok; unfold small; omega)
      rw [litB_lvl (by rw [HN.out]; exact hok), lits_at HMEAN.out hj'] at h1
      exact h1
    have q9 : (q : Int) ≤ 60 := by omega
    have B6 : Below w6.heap.size w6 w6 := Below.refl _ _
    clear hcw hwl HMB HMB6 HLI HLI3 HLI5 HLI6 HWB HCN HO4
    go_wp2_with fail
    go_loopw [11] (fun i wr => ∃ j : Nat, j ≤ q + 1 ∧ i = .int .i64 j ∧ Below w6.heap.size w6 wr) (fun i _ => q + 1 - (intOf i).toNat)
    case atStart => exact ⟨0, Nat.zero_le _, rfl, B6⟩
    case round =>
      obtain ⟨j, hj, rfl, bR⟩ := hrel
      by_cases hlt : (j : Int) < (q : Int) + 1
      · obtain ⟨z1, z2⟩ := HCE.out j (by omega) _ bR.drew
        have hli := HEQ.out j (by omega) _ bR.drew
        generalize l.getD j 0 = x at *
        generalize (meansA xs).getD j false = y at *
        have HLI := Lib.hid hli
        have hyy : (y != y) = false := by cases y <;> rfl
        clear hli
        go_wp2_with fail
        go_region_law (go_simp; go_at_call 25; refine HLI.out.mono ?_; rintro e wx ⟨rfl, rfl⟩)
        all_goals
          go_wp2_with fail
          go_roundw
          case rel => exact ⟨j + 1, by omega, by go_num, bR.drew⟩
          case measure => simp [intOf]; omega
      · have HB7 := Lib.hid (HB6.out.trans (bR.mono HB6.out.size))
        go_wp2_with ((go_at_call 20; refine (HAL.out _ HB7.out).mono ?_; rintro e wz ⟨rfl, hbz⟩))
        go_ret
        exact ⟨rfl, hbz⟩
end Go.Proofs.Ytkofhilgehhopaa
