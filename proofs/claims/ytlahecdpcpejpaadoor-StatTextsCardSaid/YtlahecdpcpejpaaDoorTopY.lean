/-
  Package topo: visit, walked.
-/
import Derived.Test.YtlahecdpcpejpaaDoorTopW
namespace Go.Proofs.YtlahecdpcpejpaaDoor
open Go.ChangeShapes Go.WideShapes Go.ChangeAt Go.RowKit
set_option linter.unusedVariables false
set_option linter.unusedSimpArgs false
attribute [local go_sem ↓] Go.wp_at_zero Go.wp_at_succ
theorem ints_keep {w w' : World} {v : Value} {xs : List Int} {S : Nat → Prop} (h : Ints w v xs) (hc : Chg S w w') (hn : xs ≠ [] → ∀ b, v.ownBlock = some b → ¬ S b) : Ints w' v xs := by
  by_cases h0 : xs = []
  · obtain ⟨a, cap, e, h1, h2, h3, -⟩ := h
    exact ⟨a, cap, e, h1, h2, h3, .inl h0⟩
  · exact h.chg hc (hn h0)
/-- What a visit tells. -/
def VisQ (w0 : World) (d : NetD) (V : Nat) (vi vl vo vb vc vm va : Value) (bw bo bm bl : Nat) (nv : Value) (ls : List NodeD) (m : Int → Nat) (v : Int) (W : World) (e : Ending) (w' : World) : Prop :=
  ∃ b, e = .returned (.bool b) ∧ Chg (fun k => k = bm ∨ k = bl) W w' ∧
    ((b = true ∧ ∃ m' lv', VYes ls V m v m' lv' ∧ Wk w0 d V vi vl vo vb vc vm va bw bo bm bl nv ls (fun i => ofN ls i) (fun i => m' i) (fun i => lv' i) w') ∨ (b = false ∧ ∀ k, ¬ Lev ls v k))
set_option maxHeartbeats 16000000 in
set_option maxRecDepth 100000 in
theorem visit_ {w0 : World} {d : NetD} {V : Nat} {vi vl vo vb vc vm va : Value} {bw bo bm bl : Nat} {nv : Value} (hl0 : lightN d = true) (hs : SoundD d V) :
    ∀ (N : Nat) (m lv : Int → Nat) (v : Nat) (W : World), cnt V m < N → v ≤ V → Wk w0 d V vi vl vo vb vc vm va bw bo bm bl nv (nodesN d) (fun i => ofN (nodesN d) i) (fun i => m i) (fun i => lv i) W → VS (nodesN d) V m lv → Under (nodesN d) V m v →
      Calls Tryd.prog 75 #[.pointer (some ⟨bw, 0, none⟩), .int .i64 v] W (VisQ w0 d V vi vl vo vb vc vm va bw bo bm bl nv (nodesN d) m v W) := by
  obtain ⟨ls, hls⟩ : ∃ ls, ls = nodesN d := ⟨_, rfl⟩
  have ok := hs.nodes
  have hlen := nodes_len hs
  have hV := hs.lim
  rw [← hls] at ok hlen ⊢
  have HS := Lib.hid hs
  have HL0 := Lib.hid hl0
  have HOK := Lib.hid ok
  have HLS := Lib.hid hls
  have HLEN := Lib.hid hlen
  clear hl0 hs ok hls hlen
  intro N
  induction N with
  | zero => intro m lv v W h; exact absurd h (by omega)
  | succ N ih =>
    intro m lv v W hcn hvV hW hvs hU
    have HIH := Lib.hid ih
    have HW := Lib.hid hW
    have HVS := Lib.hid hvs
    have HU := Lib.hid hU
    have HCN := Lib.hid hcn
    obtain ⟨W1, hW1⟩ : ∃ W1, W1 = W.alloc (.cells #[.pointer (some ⟨bw, 0, none⟩)] 87) := ⟨_, rfl⟩
    obtain ⟨b2, hb2⟩ : ∃ b2, b2 = W.heap.size := ⟨_, rfl⟩
    have HB1 : Hid (Below W.heap.size W W1) := Lib.hid (by rw [hW1]; exact below_new1 W _)
    have HX2 : Hid (Blk W1 b2 87 #[.pointer (some ⟨bw, 0, none⟩)]) := Lib.hid (by rw [hW1, hb2]; exact Blk.new _ _ _)
    have HWa := Lib.hid (HW.out.below HB1.out)
    obtain ⟨c8, c9, c10, c11, -, -⟩ := HWa.out.c
    have hvV1 : v < V + 1 := by omega
    have cof := HWa.out.of_.cell hvV1
    have cmk := HWa.out.mks.cell hvV1
    have hle2 := hvs.le2 (v : Int)
    have hv0 : (v : Int) < (V : Int) + 1 := by omega
    have HE1 := Lib.hid hW1
    have HE2 := Lib.hid hb2
    have hof : Hid (ofN ls (v : Int) = 0 ∨ m v = 2 → VisQ w0 d V vi vl vo vb vc vm va bw bo bm bl nv ls m v W (.returned (.bool true)) W1) := Lib.hid fun h =>
      ⟨true, rfl, Chg.of_below HB1.out, .inl ⟨rfl, m, lv, VYes.trivial HVS.out (by omega) (by omega) h, HWa.out⟩⟩
    have hno : Hid (m v = 1 → VisQ w0 d V vi vl vo vb vc vm va bw bo bm bl nv ls m v W (.returned (.bool false)) W1) := Lib.hid fun h =>
      ⟨false, rfl, Chg.of_below HB1.out, .inr ⟨rfl, under_no HOK.out HU.out (by omega) (by omega) h⟩⟩
    rw [hb2] at HX2
    have k2 : W1.cell? ⟨W.heap.size, 0, none⟩ = some (.pointer (some ⟨bw, 0, none⟩)) := HX2.out.cell 0
    rw [hW1] at k2 c8 c9 c10 c11 cof cmk
    clear ih hW hvs hU hcn hW1 hb2
    obtain ⟨o9, ho9⟩ : ∃ o9, o9 = ofN ls (v : Int) := ⟨_, rfl⟩
    obtain ⟨m9, hm9⟩ : ∃ m9, m9 = m (v : Int) := ⟨_, rfl⟩
    rw [← ho9] at cof hof
    rw [← hm9] at cmk hof hno hle2
    have HO9 := Lib.hid ho9
    have HM9 := Lib.hid hm9
    clear ho9 hm9
    by_cases hA : o9 = 0
    · have hb : (((o9 : Nat) : Int) == 0) = true := by rw [hA]; rfl
      have HF := Lib.hid (hof.out (.inl hA))
      rw [HE1.out] at HF
      clear hA
      go_enter Tryd.func75, Tryd.ntmps75
      go_wp2
      go_ret
      exact HF.out
    · have hb : (((o9 : Nat) : Int) == 0) = false := by rw [beq_eq_false_iff_ne]; omega
      have HA := Lib.hid hA
      clear hA
      rcases (show m9 = 0 ∨ m9 = 1 ∨ m9 = 2 by omega) with hm | hm | hm
      · subst hm
        obtain ⟨i, rfl⟩ : ∃ i, o9 = i + 1 := ⟨o9 - 1, by have := HA.out; omega⟩
        have hnode : i < ls.length ∧ (v : Int) ∈ (ls.getD i node0).vars := ofK_some HO9.out.symm
        obtain ⟨hil, hvi⟩ := hnode
        have hil2 : (i : Int) ≤ 3000 := by have := HLEN.out; omega
        rw [show (((i + 1 : Nat)) : Int) = (i : Int) + 1 by omega] at cof hb
        obtain ⟨g, cap, hnv, z1, z2, q0, q1, q2⟩ := HWa.out.node hil
        subst hnv
        have hxn : isNode d (ls.getD i node0) := by have := HLS.out; subst this; exact isNode_at hil
        obtain ⟨n9, hn9⟩ : ∃ n, n = ls.length := ⟨_, rfl⟩
        have hin9 : (i : Int) < (n9 : Int) := by omega
        rw [← hn9] at z1 c9 HWa HW hof hno HIH ⊢
        rw [HE1.out] at q0 q1 q2
        obtain ⟨x, hx⟩ : ∃ x, x = ls.getD i node0 := ⟨_, rfl⟩
        rw [← hx] at q0 q1 q2 hxn hvi
        obtain ⟨rd, hrd⟩ : ∃ r, r = x.read := ⟨_, rfl⟩
        obtain ⟨xm, hxm⟩ : ∃ r, r = x.mem := ⟨_, rfl⟩
        obtain ⟨xp, hxp⟩ : ∃ r, r = x.pos := ⟨_, rfl⟩
        rw [← hrd] at q0
        rw [← hxm] at q1
        rw [← hxp] at q2
        have hnV : nodeV x = .agg #[.bool rd, .int .i64 xm, .int .i64 xp] := by rw [hrd, hxm, hxp]; rfl
        have e2 := below_new1 (W.alloc (.cells #[.pointer (some ⟨bw, 0, none⟩)] 87)) (.cells #[.bool false, .int .i64 0, .int .i64 0] 117)
        have k2' := cell_below k2 e2
        have c8' := cell_below c8 e2
        have c9' := cell_below c9 e2
        have cof' := cell_below cof e2
        have q0' := cell_below q0 e2
        have q1' := cell_below q1 e2
        have q2' := cell_below q2 e2
        have HX := Lib.hid hx
        have HXN := Lib.hid hxn
        have HVI := Lib.hid hvi
        have HN9 := Lib.hid hn9
        have HIL := Lib.hid hil
        have HNV := Lib.hid hnV
        clear hx hxn hvi hn9 hil hnV hrd hxm hxp e2 hof hno
        go_enter Tryd.func75, Tryd.ntmps75
        go_wp2
        go_region
        clear k2' c8' c9' cof' q0' q1' q2' q0 q1 q2 cof cmk c8 c9 c10 c11
        obtain ⟨b5, hb5⟩ : ∃ b, b = W.heap.size + 1 := ⟨_, rfl⟩
        obtain ⟨W2, hW2⟩ : ∃ W2 : World, W2 = ((W.alloc (.cells #[.pointer (some ⟨bw, 0, none⟩)] 87)).alloc (.cells #[.bool rd, .int .i64 xm, .int .i64 xp] 117)).drew := ⟨_, rfl⟩
        rw [← hW2, ← hb5, ← HE2.out]
        have hB2 : Below W1.heap.size W1 W2 := by rw [hW2, ← HE1.out]; exact (below_new1 W1 _).drew
        have HBW2 := Lib.hid (HB1.out.trans (hB2.mono HB1.out.size))
        have HWK2 := Lib.hid (HWa.out.below hB2)
        have HX22 : Hid (Blk W2 b2 87 #[.pointer (some ⟨bw, 0, none⟩)]) := Lib.hid (by have h1 := HX2.out; rw [← HE2.out] at h1; exact h1.below hB2 h1.lt)
        have HX52 : Hid (Blk W2 b5 117 #[.bool rd, .int .i64 xm, .int .i64 xp]) := Lib.hid (by
          have h1 := (Blk.new (W.alloc (.cells #[.pointer (some ⟨bw, 0, none⟩)] 87)) 117 #[.bool rd, .int .i64 xm, .int .i64 xp]).drew
          rw [hW2, hb5]; simpa using h1)
        have k2 : W2.cell? ⟨b2, 0, none⟩ = some (.pointer (some ⟨bw, 0, none⟩)) := HX22.out.cell 0
        have k50 : W2.cell? ⟨b5, 0, none⟩ = some (.bool rd) := HX52.out.cell 0
        have k51 : W2.cell? ⟨b5, 1, none⟩ = some (.int .i64 xm) := HX52.out.cell 1
        have k52 : W2.cell? ⟨b5, 2, none⟩ = some (.int .i64 xp) := HX52.out.cell 2
        have hto := topo_to HWK2.out HL0.out HS.out HXN.out
        rw [HNV.out] at hto
        have HTO := Lib.hid hto
        have HE5 := Lib.hid hb5
        clear hW2 hb5 hB2 hto
        go_wp2_with fail
        refine HTO.out.mono ?_
        rintro e w5 ⟨u5, rfl, ho5⟩
        obtain ⟨A5, cc5, rfl, z5, z6⟩ := ho5.form
        obtain ⟨xv, hxv⟩ : ∃ xv, xv = x.vars := ⟨_, rfl⟩
        obtain ⟨nx, hnx⟩ : ∃ nx, nx = xv.length := ⟨_, rfl⟩
        rw [← hxv] at ho5 z5
        rw [← hnx] at ho5 z5
        rw [← hxv, ← hnx]
        unfold maxLen at z6
        obtain ⟨b6, hb6⟩ : ∃ b, b = w5.heap.size := ⟨_, rfl⟩
        obtain ⟨W6, hW6⟩ : ∃ W6 : World, W6 = w5.alloc (.cells #[.slice A5 nx cc5] 23) := ⟨_, rfl⟩
        have hB6 : Below W2.heap.size W2 W6 := by rw [hW6]; exact ho5.2.1.alloc ho5.2.1.size _
        have HB6 := Lib.hid hB6
        have HBW6 := Lib.hid (HBW2.out.trans (hB6.mono HBW2.out.size))
        have HWK6 := Lib.hid (HWK2.out.below hB6)
        have HX26 := Lib.hid (HX22.out.below hB6 HX22.out.lt)
        have HX56 := Lib.hid (HX52.out.below hB6 HX52.out.lt)
        have HX66 : Hid (Blk W6 b6 23 #[.slice A5 nx cc5]) := Lib.hid (by rw [hW6, hb6]; exact Blk.new _ _ _)
        have HI6 : Hid (Ints W6 (.slice A5 nx cc5) xv) := Lib.hid (by rw [hW6]; exact ho5.ints.below (below_new1 _ _))
        have hbmW : bm < W2.heap.size := HWK2.out.mks.lt
        have hblW : bl < W2.heap.size := HWK2.out.lv.lt
        have hnb : b2 ≠ bm ∧ b2 ≠ bl ∧ b5 ≠ bm ∧ b5 ≠ bl ∧ b6 ≠ bm ∧ b6 ≠ bl := by
          have l1 := HW.out.mks.lt
          have l2 := HW.out.lv.lt
          have l3 := HE2.out
          have l4 := HE5.out
          have l5 := ho5.2.1.size
          omega
        have HNB := Lib.hid hnb
        have HNI : Hid (∀ k, (Value.slice A5 nx cc5).ownBlock = some k → k ≠ bm ∧ k ≠ bl) := Lib.hid fun k hk => by
          have := ho5.2.2 k hk
          omega
        have HVR : Hid (∀ v ∈ xv, 1 ≤ v ∧ v ≤ (V : Int)) := Lib.hid (by rw [hxv, HX.out]; exact HOK.out.vrng i HIL.out)
        have HXV := Lib.hid hxv
        have HNX := Lib.hid hnx
        have hmark := mark_ HWK6.out HX66.out HX26.out HI6.out HVR.out HNB.out.2.2.2.2.1 HNB.out.1 (fun k hk => (HNI.out k hk).1) hV 1 (by omega)
        have HMARK := Lib.hid hmark
        have HE6 := Lib.hid hW6
        have HE66 := Lib.hid hb6
        clear ho5 hxv hnx hb6 hW6 hB6 hbmW hblW hnb hmark k2 k50 k51 k52
        go_wp2_with fail
        rw [← HE6.out, ← HE66.out]
        refine HMARK.out.mono ?_
        rintro e w7 ⟨rfl, hk7, hc7⟩
        obtain ⟨S, hSd⟩ : ∃ S : Nat → Prop, S = fun k => k = bm ∨ k = bl := ⟨_, rfl⟩
        have HSD := Lib.hid hSd
        have HC7 : Hid (Chg S W6 w7) := Lib.hid (hc7.mono (fun k hk => by rw [hSd]; exact .inl hk))
        have HKB : Hid (∀ W', Chg S W6 W' → Blk W' b2 87 #[.pointer (some ⟨bw, 0, none⟩)] ∧ Blk W' b5 117 #[.bool rd, .int .i64 xm, .int .i64 xp] ∧ Blk W' b6 23 #[.slice A5 nx cc5] ∧ Ints W' (.slice A5 nx cc5) xv) := Lib.hid fun W' hc => by
          rw [hSd] at hc
          have hh := HNB.out
          exact ⟨HX26.out.chg hc (by omega), HX56.out.chg hc (by omega), HX66.out.chg hc (by omega), HI6.out.chg hc (fun k hk => by have := HNI.out k hk; omega)⟩
        have HWK7 : Hid (Wk w0 d V vi vl vo vb vc vm va bw bo bm bl (.slice (some ⟨g, 0, none⟩) n9 cap) ls (fun i => ofN ls i) (fun i => putM xv 1 m i) (fun i => lv i) w7) := Lib.hid hk7
        have hfr := topo_from HWK7.out HL0.out HS.out HXN.out
        rw [HNV.out] at hfr
        have HFR := Lib.hid hfr
        obtain ⟨kb2, kb5, -, -⟩ := HKB.out w7 HC7.out
        have k2 : w7.cell? ⟨b2, 0, none⟩ = some (.pointer (some ⟨bw, 0, none⟩)) := kb2.cell 0
        have k50 : w7.cell? ⟨b5, 0, none⟩ = some (.bool rd) := kb5.cell 0
        have k51 : w7.cell? ⟨b5, 1, none⟩ = some (.int .i64 xm) := kb5.cell 1
        have k52 : w7.cell? ⟨b5, 2, none⟩ = some (.int .i64 xp) := kb5.cell 2
        clear hk7 hc7 hSd hfr kb2 kb5 HMARK HTO
        go_wp2_with fail
        refine HFR.out.mono ?_
        rintro e w8 ⟨u8, rfl, hi8, hb8, hp8⟩
        obtain ⟨A8, cc8, rfl, -, z8, z9, -⟩ := id hi8
        obtain ⟨fs, hfs⟩ : ∃ fs, fs = x.frm := ⟨_, rfl⟩
        obtain ⟨nf, hnf⟩ : ∃ nf, nf = fs.length := ⟨_, rfl⟩
        rw [← hfs] at hi8 z8 hp8
        rw [← hnf] at hi8 z8 hp8
        rw [← hfs, ← hnf]
        unfold maxLen at z9
        have HI8 := Lib.hid hi8
        have HC8 : Hid (Chg S W6 w8) := Lib.hid (HC7.out.trans (Chg.of_below (S := S) hb8) (fun i hi => .inl hi))
        have HWK8 := Lib.hid (HWK7.out.below hb8)
        have HNF := Lib.hid hnf
        have HP8 : Hid (fs ≠ [] → ∀ k, (Value.slice A8 nf cc8).ownBlock = some k → ¬ S k) := Lib.hid fun hne k hk hS => by
          have h1 := hp8 hne k hk
          rw [HSD.out] at hS
          have h2 := HWK7.out.pw
          have h3 := HWK7.out.mks.lt
          have h4 := HWK7.out.lv.lt
          omega
        have HFS : Hid (fs = (ls.getD i node0).frm) := Lib.hid (by rw [hfs, HX.out])
        have HXS : Hid (xv = (ls.getD i node0).vars) := Lib.hid (by rw [HXV.out, HX.out])
        have HCW : Hid (∀ W', Chg S w8 W' → Chg S W W') := Lib.hid fun W' hc => ((Chg.of_below (S := S) HBW6.out).trans HC8.out (fun i hi => .inl hi)).trans hc (fun i hi => .inl hi)
        have HVS1 : Hid (VS ls V (putM xv 1 m) lv) := Lib.hid (by rw [HXS.out]; exact HVS.out.same1 HOK.out (Nat.le_refl _) HIL.out)
        have HUN : Hid (∀ y ∈ fs, Under ls V (putM xv 1 m) (y / 2)) := Lib.hid (by rw [HXS.out, HFS.out]; exact fun y hy => HU.out.enter HOK.out HIL.out (by rw [← HX.out]; exact HVI.out) hy)
        have HCNT : Hid (cnt V (putM xv 1 m) < N) := Lib.hid (by
          have h1 : cnt V (putM xv 1 m) < cnt V m := cnt_lt (v := v) (fun u hu => by unfold putM; split; omega; exact hu) hvV HM9.out.symm (by unfold putM; rw [if_pos (by rw [HXV.out]; exact HVI.out)]; omega)
          have := HCN.out
          omega)
        have HFN : Hid (∀ y ∈ fs, 0 ≤ y ∧ y ≤ 2 * (V : Int) + 1) := Lib.hid (by rw [HFS.out]; exact HOK.out.frng i HIL.out)
        clear k2 k50 k51 k52 hi8 hb8 hp8 hfs hnf HFR
        go_wp2
        go_loopw [8, 10, 11, 66] (fun lvl _ _ c wr => ∃ j : Nat, ∃ m2 lv2, j ≤ nf ∧ c = .int .i64 j ∧ lvl = .int .i64 (mx (fs.take j) (fun y => levOf ls (y / 2)) : Nat) ∧ (∀ y ∈ fs.take j, Lev ls (y / 2) (levOf ls (y / 2))) ∧ VS ls V m2 lv2 ∧ (∀ u, putM xv 1 m u ≠ 0 → m2 u = putM xv 1 m u) ∧ (∀ u, m2 u = 1 → putM xv 1 m u = 1) ∧
          Wk w0 d V vi vl vo vb vc vm va bw bo bm bl (.slice (some ⟨g, 0, none⟩) n9 cap) ls (fun i => ofN ls i) (fun i => m2 i) (fun i => lv2 i) wr ∧ Chg S w8 wr) (fun _ _ _ c _ => nf - (intOf c).toNat)
        case atStart => exact ⟨0, _, _, Nat.zero_le _, rfl, rfl, (fun y hy => by simp at hy), HVS1.out, (fun _ _ => rfl), (fun _ h => h), HWK8.out, Chg.refl _ _⟩
        case round =>
          obtain ⟨j, m2, lv2, hj, rfl, rfl, hlev, hvs2, hk2, ho2, hWk, hC⟩ := hrel
          have HLEV := Lib.hid hlev
          have HVS2 := Lib.hid hvs2
          have HK2 := Lib.hid hk2
          have HO2 := Lib.hid ho2
          have HWK := Lib.hid hWk
          have HC := Lib.hid hC
          have hC6 : Chg S W6 wr := HC8.out.trans hC (fun i hi => .inl hi)
          obtain ⟨kb2, -, kb6, -⟩ := HKB.out wr hC6
          have k2 : wr.cell? ⟨b2, 0, none⟩ = some (.pointer (some ⟨bw, 0, none⟩)) := kb2.cell 0
          have k6 : wr.cell? ⟨b6, 0, none⟩ = some (.slice A5 nx cc5) := kb6.cell 0
          obtain ⟨mm, hmm⟩ : ∃ q, q = mx (fs.take j) (fun y => levOf ls (y / 2)) := ⟨_, rfl⟩
          rw [← hmm]
          have hmm9 : mm ≤ 2016 := by
            rw [hmm]
            rcases mx_hit (fs.take j) (fun y => levOf ls (y / 2)) with h | ⟨y, hy, he⟩
            · omega
            · have := (hlev y hy).bound HOK.out
              have := HLEN.out
              omega
          have HMX := Lib.hid hmm
          clear hlev hvs2 hk2 ho2 hWk hC kb2 kb6 hmm
          by_cases hlt : (j : Int) < (nf : Int)
          · have hjn : j < fs.length := by have := HNF.out; omega
            have hI2 := ints_keep HI8.out HC.out HP8.out
            obtain ⟨-, hii⟩ := ints_hii hI2
            obtain ⟨b, off, rfl, hcs⟩ := hii.resolve_left (fun e => by rw [e] at hjn; simp at hjn)
            have q := hcs j hjn
            have hyr := HFN.out (fs.getD j 0) (mem_getD 0 hjn)
            have hyu := HUN.out (fs.getD j 0) (mem_getD 0 hjn)
            have hym := mem_getD 0 hjn
            have hts := take_snocI hjn
            obtain ⟨y, hy⟩ : ∃ y, y = fs.getD j 0 := ⟨_, rfl⟩
            rw [← hy] at q hyr hyu hts hym
            obtain ⟨kn, hkn⟩ : ∃ kn : Nat, y / 2 = (kn : Int) := ⟨(y / 2).toNat, by omega⟩
            rw [hkn] at hyu
            have hknV : kn ≤ V := by omega
            have hvar := litsVar y wr
            rw [hkn] at hvar
            have hIH := HIH.out m2 lv2 kn wr (Nat.lt_of_le_of_lt (cnt_le (fun u hu => by rw [HK2.out u hu]; exact hu)) HCNT.out) hknV HWK.out HVS2.out (hyu.mono HO2.out)
            have HVAR := Lib.hid hvar
            have HREC := Lib.hid hIH
            have HTS := Lib.hid hts
            have HKN := Lib.hid hkn
            have HYM := Lib.hid hym
            have HY0 := Lib.hid hyr
            clear hcs hii hts hy hjn hyr hyu hvar hIH hkn hI2 hym
            go_wp2_with (go_at_call 29; refine HVAR.out.mono ?_; rintro e w' ⟨rfl, rfl⟩)
            refine HREC.out.mono ?_
            rintro e w9 ⟨bb, rfl, hc9, hcase⟩
            have hc9' : Chg S wr w9 := by rw [HSD.out]; exact hc9
            have HC9 := Lib.hid (HC.out.trans hc9' (fun i hi => .inl hi))
            clear hc9
            rcases hcase with ⟨rfl, m3, lv3, hy3, hk3⟩ | ⟨rfl, hn3⟩
            · have HY3 := Lib.hid hy3
              have HK3 := Lib.hid hk3
              have hlv3 := levOf_eq HOK.out hy3.lev
              have HLV3 := Lib.hid hlv3
              obtain ⟨kb2, -, -, -⟩ := HKB.out w9 (HC8.out.trans HC9.out (fun i hi => .inl hi))
              have k29 : w9.cell? ⟨b2, 0, none⟩ = some (.pointer (some ⟨bw, 0, none⟩)) := kb2.cell 0
              obtain ⟨-, -, -, c11, -, -⟩ := hk3.c
              have clv := hk3.lv.cell (i := kn) (by omega)
              have hl9 : lv3 (kn : Int) ≤ 2016 := by have := hy3.lev.bound HOK.out; have := HLEN.out; omega
              obtain ⟨q9, hq9⟩ : ∃ q, q = lv3 (kn : Int) := ⟨_, rfl⟩
              rw [← hq9] at clv hl9
              have HQ9 := Lib.hid hq9
              have hkn1 : (kn : Int) < (V : Int) + 1 := by omega
              clear hy3 hk3 hlv3 hq9 kb2 hc9' k2 k6 q
              go_wp2
              go_roundw
              case rel =>
                have e : mx (fs.take (j + 1)) (fun y => levOf ls (y / 2)) = max mm q9 := by
                  rw [HTS.out, mx_snoc, ← HMX.out]
                  show max mm (levOf ls (y / 2)) = _
                  rw [HKN.out, HLV3.out, HQ9.out]
                refine ⟨j + 1, m3, lv3, by omega, by go_num, by rw [e]; congr 1; omega, fun z hz => ?_, HY3.out.vs, fun u hu => (HY3.out.keep u (by rw [HK2.out u hu]; exact hu)).trans (HK2.out u hu), fun u hu => HO2.out u (HY3.out.one u hu), HK3.out, HC9.out⟩
                rw [HTS.out] at hz
                rcases List.mem_append.1 hz with hz | hz
                · exact HLEV.out z hz
                · simp at hz
                  subst hz
                  rw [HKN.out, HLV3.out]
                  exact HY3.out.lev
              case measure => simp [intOf]; omega
            · have HF : Hid (VisQ w0 d V vi vl vo vb vc vm va bw bo bm bl (.slice (some ⟨g, 0, none⟩) n9 cap) ls m v W (.returned (.bool false)) w9) := Lib.hid (by
                refine ⟨false, rfl, ?_, .inr ⟨rfl, ?_⟩⟩
                · have := HCW.out w9 HC9.out
                  rwa [HSD.out] at this
                · exact from_no HOK.out HIL.out (by rw [← HX.out]; exact HVI.out) (by rw [← HFS.out]; exact HYM.out) (by rw [HKN.out]; exact hn3))
              clear hn3 k2 k6 q hc9'
              go_wp2
              repeat rw [Exit.noGoto_ret]
              go_ret
              exact HF.out
          · obtain rfl : j = nf := by omega
            have hfull : fs.take j = fs := List.take_of_length_le (by have := HNF.out; omega)
            have HLA : Hid (∀ y ∈ (ls.getD i node0).frm, Lev ls (y / 2) (levOf ls (y / 2))) := Lib.hid (by rw [← HFS.out]; have := HLEV.out; rw [hfull] at this; exact this)
            have HMM : Hid (mm = mx (ls.getD i node0).frm (fun y => levOf ls (y / 2))) := Lib.hid (by rw [← HFS.out, HMX.out, hfull])
            have HWA : Hid (Wk w0 d V vi vl vo vb vc vm va bw bo bm bl (.slice (some ⟨g, 0, none⟩) n9 cap) ls (fun i => ofN ls i) (fun i => m2 i) (fun i => if (i : Int) ∈ xv.take 0 then mm + 1 else lv2 i) wr) := Lib.hid (by simpa using HWK.out)
            obtain ⟨wq, rfl⟩ : ∃ wq : World, wq = wr := ⟨_, rfl⟩
            clear k2 hfull
            go_wp2
            clear k6
            go_loopw [13, 88] (fun _ c wr => ∃ t : Nat, t ≤ nx ∧ c = .int .i64 t ∧ Wk w0 d V vi vl vo vb vc vm va bw bo bm bl (.slice (some ⟨g, 0, none⟩) n9 cap) ls (fun i => ofN ls i) (fun i => m2 i) (fun i => if (i : Int) ∈ xv.take t then mm + 1 else lv2 i) wr ∧ Chg S wq wr) (fun _ c _ => nx - (intOf c).toNat)
            case atStart => exact ⟨0, Nat.zero_le _, rfl, HWA.out, Chg.refl _ _⟩
            case round =>
              obtain ⟨t, ht, rfl, hW, hCq⟩ := hrel
              have HWt := Lib.hid hW
              have HCt := Lib.hid (HC.out.trans hCq (fun i hi => .inl hi))
              have HCq := Lib.hid hCq
              obtain ⟨kb2, -, kb6, hI2⟩ := HKB.out wr (HC8.out.trans HCt.out (fun i hi => .inl hi))
              have k2 : wr.cell? ⟨b2, 0, none⟩ = some (.pointer (some ⟨bw, 0, none⟩)) := kb2.cell 0
              clear hW hCq
              by_cases hltt : (t : Int) < (nx : Int)
              · have htn : t < xv.length := by have := HNX.out; omega
                obtain ⟨-, hii⟩ := ints_hii hI2
                obtain ⟨b, off, rfl, hcs⟩ := hii.resolve_left (fun e => by rw [e] at htn; simp at htn)
                have q := hcs t htn
                have hv := HVR.out (xv.getD t 0) (mem_getD 0 htn)
                have hts := take_snocI htn
                obtain ⟨u, hu9⟩ : ∃ u, u = xv.getD t 0 := ⟨_, rfl⟩
                rw [← hu9] at q hv hts
                obtain ⟨un, rfl⟩ : ∃ un : Nat, u = un := ⟨u.toNat, by omega⟩
                have huV : un < V + 1 := by omega
                obtain ⟨-, -, -, c11, -⟩ := HWt.out.c
                have cl' := HWt.out.lv.cell huV
                have fl' := HWt.out.lv.frozen un
                generalize (Value.int .i64 ((if ((un : Nat) : Int) ∈ xv.take t then mm + 1 else lv2 un : Nat) : Int)) = old at cl'
                have HTS := Lib.hid hts
                have hu1 : 0 ≤ (un : Int) := by omega
                have hu2 : (un : Int) < (V : Int) + 1 := by omega
                clear hcs hii hts hu9 htn hv kb2 kb6 hI2
                go_wp2
                go_roundw
                case rel =>
                  refine ⟨t + 1, by omega, by go_num, ?_, ?_⟩
                  · have h1 := HWt.out.setLv un (mm + 1)
                    have h2 := h1.ext (fo' := fun i => ofN ls i) (fm' := fun i => m2 i) (fl' := fun i => if (i : Int) ∈ xv.take (t + 1) then mm + 1 else lv2 i) (fun _ _ => rfl) (fun _ _ => rfl) (fun i _ => by
                      rw [HTS.out]
                      by_cases e : i = un
                      · subst e; simp
                      · have e2 : (i : Int) ≠ (un : Int) := by omega
                        simp [e, e2])
                    simpa using h2
                  · exact HCq.out.setCell (p := ⟨bl, un, none⟩) (.inl (by rw [HSD.out]; exact .inr rfl)) _
                case measure => simp [intOf]; omega
              · obtain rfl : t = nx := by omega
                have hfl : xv.take t = xv := List.take_of_length_le (by have := HNX.out; omega)
                have hmk := mark_ HWt.out kb6 kb2 hI2 HVR.out HNB.out.2.2.2.2.1 HNB.out.1 (fun k hk => (HNI.out k hk).1) hV 2 (by omega)
                rw [hfl] at hmk
                have HMK := Lib.hid hmk
                clear hfl hmk kb2 kb6 hI2 k2
                go_wp2_with fail
                refine HMK.out.mono ?_
                rintro e w10 ⟨rfl, hk10, hc10⟩
                have HF : Hid (VisQ w0 d V vi vl vo vb vc vm va bw bo bm bl (.slice (some ⟨g, 0, none⟩) n9 cap) ls m v W (.returned (.bool true)) w10) := Lib.hid (by
                  refine ⟨true, rfl, ?_, .inl ⟨rfl, putM xv 2 m2, putM xv (mm + 1) lv2, ?_, hk10⟩⟩
                  · have h1 := (HCW.out wr HCt.out).trans (S' := fun k => k = bm) hc10 (fun k hk => .inl (by rw [HSD.out]; exact .inl hk))
                    rwa [HSD.out] at h1
                  · have h1 := VYes.leave HOK.out HIL.out (by rw [← HX.out]; exact HVI.out) HVS.out HM9.out.symm HVS2.out (by rw [← HXS.out]; exact HK2.out) (by rw [← HXS.out]; exact HO2.out) (fun y => levOf ls (y / 2)) HLA.out
                    rw [← HXS.out, ← HMM.out] at h1
                    exact h1)
                clear hk10 hc10
                go_wp2
                go_ret
                exact HF.out
      · have HF := Lib.hid (hno.out hm)
        rw [HE1.out] at HF
        subst hm
        go_enter Tryd.func75, Tryd.ntmps75
        go_wp2
        go_ret
        exact HF.out
      · have HF := Lib.hid (hof.out (.inr hm))
        rw [HE1.out] at HF
        subst hm
        go_enter Tryd.func75, Tryd.ntmps75
        go_wp2
        go_ret
        exact HF.out
end Go.Proofs.YtlahecdpcpejpaaDoor
/-
  Package topo: all, told, Check, Levels, walked.
-/
namespace Go.Proofs.YtlahecdpcpejpaaDoor
open Go.ChangeShapes Go.WideShapes Go.ChangeAt Go.RowKit
set_option linter.unusedVariables false
set_option linter.unusedSimpArgs false
attribute [local go_sem ↓] Go.wp_at_zero Go.wp_at_succ
/-- What all tells. -/
def AllQ (w0 : World) (d : NetD) (V : Nat) (vi vl vo vb vc vm va : Value) (bw bo bm bl : Nat) (nv : Value) (W : World) (e : Ending) (w' : World) : Prop :=
  ∃ b, e = .returned (.bool b) ∧ Chg (fun k => k = bm ∨ k = bl) W w' ∧
    ((b = true ∧ ∃ m' lv' : Int → Nat, (∀ v : Int, 0 ≤ v → v ≤ V → Lev (nodesN d) v (lv' v)) ∧ Wk w0 d V vi vl vo vb vc vm va bw bo bm bl nv (nodesN d) (fun i => ofN (nodesN d) i) (fun i => m' i) (fun i => lv' i) w') ∨ (b = false ∧ ¬ Acyc (nodesN d) V))
set_option maxHeartbeats 4000000 in
set_option maxRecDepth 100000 in
theorem topo_all {w0 W : World} {d : NetD} {V : Nat} {vi vl vo vb vc vm va : Value} {bw bo bm bl : Nat} {nv : Value} (hl0 : lightN d = true) (hs : SoundD d V)
    (h : Wk w0 d V vi vl vo vb vc vm va bw bo bm bl nv (nodesN d) (fun i => ofN (nodesN d) i) (fun _ => 0) (fun _ => 0) W) :
    Calls Tryd.prog 60 #[.pointer (some ⟨bw, 0, none⟩)] W (AllQ w0 d V vi vl vo vb vc vm va bw bo bm bl nv W) := by
  have HVIS := Lib.hid (visit_ (w0 := w0) (vi := vi) (vl := vl) (vo := vo) (vb := vb) (vc := vc) (vm := vm) (va := va) (bw := bw) (bo := bo) (bm := bm) (bl := bl) (nv := nv) hl0 hs (V + 2))
  have HH := Lib.hid h
  have HOK := Lib.hid hs.nodes
  have hV := hs.lim
  obtain ⟨c8, -⟩ := h.c
  clear h hl0 hs
  go_enter Tryd.func60, Tryd.ntmps60
  go_wp2
  clear c8
  go_loopw [4, 12] (fun _ c wr => ∃ v : Nat, ∃ m lv : Int → Nat, v ≤ V + 1 ∧ c = .int .i64 v ∧ VS (nodesN d) V m lv ∧ (∀ u, m u ≠ 1) ∧ (∀ u : Int, 0 ≤ u → u < v → ofN (nodesN d) u = 0 ∨ m u = 2) ∧ Wk w0 d V vi vl vo vb vc vm va bw bo bm bl nv (nodesN d) (fun i => ofN (nodesN d) i) (fun i => m i) (fun i => lv i) wr ∧ Chg (fun k => k = bm ∨ k = bl) W wr) (fun _ c _ => V + 1 - (intOf c).toNat)
  case atStart => exact ⟨0, (fun _ => 0), (fun _ => 0), Nat.zero_le _, rfl, VS.start _ _, (fun _ h => by cases h), (fun u h0 h1 => by omega), HH.out, Chg.refl _ _⟩
  case round =>
    obtain ⟨v, m, lv, hv, rfl, hvs, hm1, htd, hW, hC⟩ := hrel
    by_cases hlt : (v : Int) < (V : Int) + 1
    · have hvV : v ≤ V := by omega
      have hcnt : cnt V m < V + 2 := by
        have : cnt V m ≤ (List.range (V + 1)).length := List.countP_le_length
        rw [List.length_range] at this
        omega
      have hvis := HVIS.out m lv v wr hcnt hvV hW hvs (fun u _ _ h1 => absurd h1 (hm1 u))
      have HV := Lib.hid hvis
      have HVS := Lib.hid hvs
      have HM1 := Lib.hid hm1
      have HTD := Lib.hid htd
      have HC := Lib.hid hC
      clear hvis hvs hm1 htd hC hW hcnt
      go_wp2_with fail
      refine HV.out.mono ?_
      rintro e w9 ⟨b, rfl, hc9, hcase⟩
      have HC9 := Lib.hid (HC.out.trans hc9 (fun i hi => .inl hi))
      clear hc9
      rcases hcase with ⟨rfl, m3, lv3, hy3, hk3⟩ | ⟨rfl, hn3⟩
      · have HY3 := Lib.hid hy3
        have HK3 := Lib.hid hk3
        clear hy3 hk3
        go_wp2
        go_roundw
        case rel =>
          refine ⟨v + 1, m3, lv3, by omega, by go_num, HY3.out.vs, fun u h => HM1.out u (HY3.out.one u h), fun u h0 h1 => ?_, HK3.out, HC9.out⟩
          rcases Int.lt_or_le u v with h2 | h2
          · rcases HTD.out u h0 h2 with h3 | h3
            · exact .inl h3
            · exact .inr ((HY3.out.keep u (by omega)).trans h3)
          · obtain rfl : u = v := by omega
            exact HY3.out.told
        case measure => simp [intOf]; omega
      · have HF : Hid (AllQ w0 d V vi vl vo vb vc vm va bw bo bm bl nv W (.returned (.bool false)) w9) := Lib.hid ⟨false, rfl, HC9.out, .inr ⟨rfl, fun hA => by
          obtain ⟨k, hk⟩ := hA v (by omega) (by omega)
          exact hn3 k hk⟩⟩
        clear hn3
        go_wp2
        repeat rw [Exit.noGoto_ret]
        go_ret
        exact HF.out
    · obtain rfl : v = V + 1 := by omega
      have HF : Hid (AllQ w0 d V vi vl vo vb vc vm va bw bo bm bl nv W (.returned (.bool true)) wr) := Lib.hid ⟨true, rfl, hC, .inl ⟨rfl, m, lv, fun u h0 h1 => by
        rcases htd u h0 (by omega) with h | h
        · rw [(hvs.leaf u h).2]; exact ofN_leaf h
        · exact hvs.done u h0 h1 h, hW⟩⟩
      clear hvs hm1 htd hW hC
      go_wp2
      go_ret
      exact HF.out
/-- What told tells. -/
def ToldQ (w : World) (d : NetD) (vi vl vo vb vc vm va : Value) (e : Ending) (w' : World) : Prop :=
  Below w.heap.size w w' ∧
  ((soundN d ≠ 0 ∧ e = .returned (.tuple #[.pointer none, .int .i64 (soundN d)])) ∨
   (soundN d = 0 ∧ ∃ V, SoundD d V ∧ ((¬ Acyc (nodesN d) V ∧ e = .returned (.tuple #[.pointer none, .int .i64 8])) ∨
     ∃ bw bo bm bl nv, ∃ m lv : Int → Nat, e = .returned (.tuple #[.pointer (some ⟨bw, 0, none⟩), .int .i64 0]) ∧ (∀ v : Int, 0 ≤ v → v ≤ V → Lev (nodesN d) v (lv v)) ∧
       Wk w d V vi vl vo vb vc vm va bw bo bm bl nv (nodesN d) (fun i => ofN (nodesN d) i) (fun i => m i) (fun i => lv i) w')))
set_option maxHeartbeats 4000000 in
set_option maxRecDepth 100000 in
theorem topo_told {w : World} {d : NetD} {vi vl vo vb vc vm va : Value} (h : NetP w d vi vl vo vb vc vm va) (hl0 : lightN d = true) :
    Calls Tryd.prog 47 #[netV d vi vl vo vb vc vm va] w (ToldQ w d vi vl vo vb vc vm va) := by
  obtain ⟨ai, ci, ni, al, cl, nl, ao, co, no, ab, cb, nb, ac, cc, nc, am, cm, nm, aa, ca, na, rfl, rfl, rfl, rfl, rfl, rfl, rfl, -, -⟩ := h.open_ (lightN_iff hl0).1
  obtain ⟨wb, hwb⟩ : ∃ wb, wb = w.alloc (.cells #[.int .i64 d.vars, .slice ai ni ci, .slice al nl cl, .slice ao no co, .slice ab nb cb, .slice ac nc cc, .slice am nm cm, .slice aa na ca] 28) := ⟨_, rfl⟩
  obtain ⟨bx, hbx⟩ : ∃ bx, bx = w.heap.size := ⟨_, rfl⟩
  have HB1 : Hid (Below w.heap.size w wb) := Lib.hid (by rw [hwb]; exact below_new1 w _)
  have HBX : Hid (NBox wb bx d (.slice ai ni ci) (.slice al nl cl) (.slice ao no co) (.slice ab nb cb) (.slice ac nc cc) (.slice am nm cm) (.slice aa na ca)) := Lib.hid (by rw [hwb, hbx]; exact NBox.new w _ _ _ _ _ _ _ _)
  have HP := Lib.hid (h.below HB1.out)
  have HP0 := Lib.hid h
  have hso := net_Sound HP.out hl0
  unfold netV at hso ⊢
  rw [hwb] at hso
  have HSO := Lib.hid hso
  have HW1 := Lib.hid hwb
  have HBE := Lib.hid hbx
  have HL := Lib.hid hl0
  obtain ⟨f, hf⟩ : ∃ f, f = soundN d := ⟨_, rfl⟩
  rw [← hf] at HSO
  have HF0 := Lib.hid hf
  clear h hl0 hwb hbx hso hf
  by_cases hf0 : f = 0
  · have hb0 : (f != 0) = false := by rw [bne_eq_false_iff_eq]; exact hf0
    have HS0 : Hid (soundN d = 0) := Lib.hid (by rw [← HF0.out]; exact hf0)
    obtain ⟨V, hs⟩ := soundN_ok HS0.out
    have HS := Lib.hid hs
    clear hs hf0
    go_enter Tryd.func47, Tryd.ntmps47
    go_wp2_with fail
    refine HSO.out.mono ?_
    rintro e w2 ⟨rfl, hb⟩
    rw [← HW1.out] at hb
    have HB2 := Lib.hid hb
    obtain ⟨c0, c1, c2, c3, c4, c5, c6, c7⟩ := (HBX.out.later hb).all
    rw [HBE.out] at c0 c1 c2 c3 c4 c5 c6 c7
    have hwk := topo_walk (HP.out.below hb) HL.out HS.out
    unfold netV at hwk
    have HWK := Lib.hid hwk
    clear hb hwk HSO
    go_wp2_with fail
    refine HWK.out.mono ?_
    rintro e w3 ⟨bw, bo, bm, bl, nv, rfl, hk⟩
    have HK := Lib.hid hk
    have hal := topo_all HL.out HS.out hk
    have HAL := Lib.hid hal
    clear hk hal c0 c1 c2 c3 c4 c5 c6 c7 HWK
    go_wp2_with fail
    refine HAL.out.mono ?_
    rintro e w4 ⟨b, rfl, hc, hcase⟩
    have hB34 : Below w2.heap.size w2 w4 := HK.out.low.trans (hc.below HK.out.low.size (fun i hi => by have := HK.out.pw; omega))
    have HB4 := Lib.hid (HB1.out.trans ((HB2.out.trans (hB34.mono HB2.out.size)).mono HB1.out.size))
    have HB02 := Lib.hid (HB1.out.trans (HB2.out.mono HB1.out.size))
    clear hc hB34
    rcases hcase with ⟨rfl, m, lv, hlv, hk4⟩ | ⟨rfl, hna⟩
    · have HF : Hid (ToldQ w d (.slice ai ni ci) (.slice al nl cl) (.slice ao no co) (.slice ab nb cb) (.slice ac nc cc) (.slice am nm cm) (.slice aa na ca) (.returned (.tuple #[.pointer (some ⟨bw, 0, none⟩), .int .i64 0])) w4) :=
        Lib.hid ⟨HB4.out, .inr ⟨HS0.out, V, HS.out, .inr ⟨bw, bo, bm, bl, nv, m, lv, rfl, hlv, hk4.rebase HP0.out HB02.out⟩⟩⟩
      clear hlv hk4
      go_wp2
      go_ret2
      exact HF.out
    · have HF : Hid (ToldQ w d (.slice ai ni ci) (.slice al nl cl) (.slice ao no co) (.slice ab nb cb) (.slice ac nc cc) (.slice am nm cm) (.slice aa na ca) (.returned (.tuple #[.pointer none, .int .i64 8])) w4) :=
        Lib.hid ⟨HB4.out, .inr ⟨HS0.out, V, HS.out, .inl ⟨hna, rfl⟩⟩⟩
      clear hna
      go_wp2
      go_ret2
      exact HF.out
  · have hb0 : (f != 0) = true := by rw [bne_iff_ne]; exact hf0
    have HNE : Hid (soundN d ≠ 0) := Lib.hid (by rw [← HF0.out]; exact hf0)
    clear hf0
    go_enter Tryd.func47, Tryd.ntmps47
    go_wp2_with fail
    refine HSO.out.mono ?_
    rintro e w2 ⟨rfl, hb⟩
    rw [← HW1.out] at hb
    have HF : Hid (ToldQ w d (.slice ai ni ci) (.slice al nl cl) (.slice ao no co) (.slice ab nb cb) (.slice ac nc cc) (.slice am nm cm) (.slice aa na ca) (.returned (.tuple #[.pointer none, .int .i64 f])) w2) :=
      Lib.hid ⟨HB1.out.trans (hb.mono HB1.out.size), .inl ⟨HNE.out, by rw [HF0.out]⟩⟩
    clear hb
    go_wp2
    go_ret2
    exact HF.out
end Go.Proofs.YtlahecdpcpejpaaDoor
