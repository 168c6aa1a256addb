/-
  Chapter 40: both Widths, walked.
-/
import Derived.Test.YtlahecdpcpejpaaDoorFkD
namespace Go.Proofs.YtlahecdpcpejpaaDoor
open Go Go.ChangeShapes Go.WideShapes Go.ChangeAt Go.RowKit
set_option linter.unusedVariables false
set_option linter.unusedSimpArgs false
attribute [local go_sem ↓] Go.wp_at_zero Go.wp_at_succ
theorem levL_facts {d : NetD} {V : Nat} (hc : checkN d = 0) (hs : SoundD d V) : (levL d).length = V + 1 ∧ (∀ i, i < V + 1 → 0 ≤ (levL d).getD i 0 ∧ (levL d).getD i 0 ≤ 4000) := by
  obtain ⟨h0, V', hs', hA⟩ := good_iff.1 hc
  have hVV : V' = V := by have := hs.vars; have := hs'.vars; omega
  subst hVV
  have hv : d.vars.toNat = V' := by have := hs.vars; omega
  have hn := nodes_len hs
  unfold levL
  rw [if_pos hc, hv]
  refine ⟨by rw [List.length_map, List.length_range], fun i hi => ?_⟩
  rw [List.getD_eq_getElem?_getD, List.getElem?_map, List.getElem?_range hi]
  show 0 ≤ ((levF d (i : Int) : Nat) : Int) ∧ ((levF d (i : Int) : Nat) : Int) ≤ 4000
  obtain ⟨k, hk⟩ := hA (i : Int) (by omega) (by omega)
  have hb := hk.bound hs.nodes
  rw [levF_eq hs hk]
  omega
/-- How many variables each level has. -/
def idI (l : Int) : Int := l
noncomputable def widL (d : NetD) : List Int := nums ((mxI (levL d)).toNat + 1) (cntF idI ((levL d).drop 1))
def dropI (al : Option Addr) (cl s : Nat) : Option Addr := if cl = s then al else al.map fun x => x.add s
set_option maxRecDepth 100000 in
theorem cutI_ (al : Option Addr) (N cl s : Nat) (hs : s ≤ N) (W : World) : (Instr.sliceAt 23 (.slice al N cl) (some (.int .i64 (s : Nat))) none none).run Tryd.prog W = .ok (.slice (dropI al cl s) (N - s) (cl - s)) W := by
  have hsN : (s : Int) ≤ (N : Int) := by omega
  rw [run_sliceAt_slice (P := Tryd.prog) W 23 _ _ _ _ Tryd.underlying23]
  have h1 : (0 : Int) ≤ (s : Int) := by omega
  rw [run_slice_l (P := Tryd.prog) W 23 al N cl Tryd.underlying23 .i64 (s : Int) h1 hsN]
  have hsz : ((sizeOf (Tryd.prog.elem 23)).run Tryd.prog W) = .ok 1 W := by kernel_rfl
  rw [hsz]
  simp only [Result.andThen, sliced, Nat.mul_one, Int.toNat_natCast]
  rfl
set_option maxRecDepth 100000 in
/-- All but the first. -/
theorem cut1 {w : World} {A : Option Addr} {n cap : Nat} {xs : List Int} (h : Ints w (.slice A n cap) xs) (hn : n = xs.length) (h1 : 1 ≤ n) :
    ∃ A2, (∀ W, (Instr.sliceAt 23 (.slice A n cap) (some (.int .i64 1)) none none).run Tryd.prog W = .ok (.slice A2 (n - 1) (cap - 1)) W) ∧ (∀ W, (Instr.slice 23 (.slice A n cap) (some (.int .i64 1)) none none).run Tryd.prog W = .ok (.slice A2 (n - 1) (cap - 1)) W) ∧ Ints w (.slice A2 (n - 1) (cap - 1)) (xs.drop 1) := by
  have hc := cutI_ A n cap 1 h1
  refine ⟨dropI A cap 1, hc, fun W => ?_, ?_⟩
  · rw [← run_sliceAt_slice (P := Tryd.prog) W 23 _ _ _ _ Tryd.underlying23]
    exact hc W
  · obtain ⟨a, c, e, h0, h2, h3, h4⟩ := h
    injection e with e1 e2 e3
    subst e1 e3
    obtain ⟨b, off, rfl, hcell⟩ := h4.resolve_left (fun e => by rw [e] at hn; simp at hn; omega)
    refine ⟨dropI (some ⟨b, off, none⟩) cap 1, cap - 1, by rw [List.length_drop, ← hn], fun e => ?_, by rw [List.length_drop]; omega, by omega, ?_⟩
    · unfold dropI at e
      split at e <;> cases e
    · by_cases hx : xs.drop 1 = []
      · exact .inl hx
      · have hl : 1 < xs.length := by
          rcases Nat.lt_or_ge 1 xs.length with g | g
          · exact g
          · exact absurd (List.drop_eq_nil_of_le g) hx
        refine .inr ⟨b, off + 1, by unfold dropI; rw [if_neg (by omega)]; rfl, fun j hj => ?_⟩
        rw [List.length_drop] at hj
        have h5 := hcell (1 + j) (by omega)
        rw [← Nat.add_assoc] at h5
        rw [h5, show (xs.drop 1).getD j 0 = xs.getD (1 + j) 0 from by rw [List.getD_eq_getElem?_getD, List.getElem?_drop, List.getD_eq_getElem?_getD]]
theorem mxI_bound {d : NetD} {V : Nat} (hc : checkN d = 0) (hs : SoundD d V) : 0 ≤ mxI (levL d) ∧ mxI (levL d) ≤ 4000 ∧ ∀ i, i < V + 1 → (levL d).getD i 0 ≤ mxI (levL d) := by
  obtain ⟨h1, h2⟩ := levL_facts hc hs
  unfold mxI
  rw [h1]
  have h3 : ∀ i, i < V + 1 → (levL d).getD i 0 ≤ mxK (levL d) (V + 1 - 1) := fun i hi => mxK_ge (by omega)
  exact ⟨Int.le_trans (h2 0 (by omega)).1 (h3 0 (by omega)), mxK_le fun i hi => (h2 i (by omega)).2, h3⟩
set_option maxHeartbeats 4000000 in
set_option maxRecDepth 100000 in
theorem stat_Widths {w : World} {d : NetD} {vi vl vo vb vc vm va : Value} (h : NetP w d vi vl vo vb vc vm va) (hl0 : lightN d = true) :
    Calls Tryd.prog 13 #[netV d vi vl vo vb vc vm va] w (FanQ w d (widL d)) := by
  obtain ⟨ai, ci, ni, al, cl, nl, ao, co, no, ab, cb, nb, ac, cc, nc, am, cm, nm, aa, ca, na, rfl, rfl, rfl, rfl, rfl, rfl, rfl, -, -⟩ := h.open_ (lightN_iff hl0).1
  obtain ⟨wb, hwb⟩ : ∃ wb, wb = w.alloc (.cells #[.int .i64 d.vars, .slice ai ni ci, .slice al nl cl, .slice ao no co, .slice ab nb cb, .slice ac nc cc, .slice am nm cm, .slice aa na ca] 28) := ⟨_, rfl⟩
  obtain ⟨bx, hbx⟩ : ∃ bx, bx = w.heap.size := ⟨_, rfl⟩
  have HB1 : Hid (Below w.heap.size w wb) := Lib.hid (by rw [hwb]; exact below_new1 w _)
  have HBX : Hid (NBox wb bx d (.slice ai ni ci) (.slice al nl cl) (.slice ao no co) (.slice ab nb cb) (.slice ac nc cc) (.slice am nm cm) (.slice aa na ca)) := Lib.hid (by rw [hwb, hbx]; exact NBox.new w _ _ _ _ _ _ _ _)
  have HP := Lib.hid (h.below HB1.out)
  have hlev := (topo_Levels HP.out hl0).mono (fun e w' h => LevQ.u h)
  have hck : ∀ W, Below wb.heap.size wb W → _ := fun W hW => topo_Check (HP.out.below hW) hl0
  unfold netV at hlev hck ⊢
  rw [hwb] at hlev
  have HLEV := Lib.hid hlev
  have HCK := Lib.hid hck
  have HWB := Lib.hid hwb
  have HBE := Lib.hid hbx
  clear h hl0 hwb hbx hlev hck
  go_enter Tryd.func13, Tryd.ntmps13
  go_wp2_with fail
  refine HLEV.out.mono ?_
  rintro e w2 ⟨u, rfl, hi2, hb2⟩
  rw [← HWB.out] at hb2
  rw [← HBE.out]
  have hx2 := HBX.out.later hb2
  obtain ⟨c0, c1, c2, c3, c4, c5, c6, c7⟩ := hx2.all
  have HB2 := Lib.hid (HB1.out.trans (hb2.mono HB1.out.size))
  by_cases hc : checkN d = 0
  · obtain ⟨h0, V, hs, hA⟩ := good_iff.1 hc
    obtain ⟨hll, hlf⟩ := levL_facts hc hs
    obtain ⟨hm0, hm1, hm2⟩ := mxI_bound hc hs
    have hV2 := hs.lim
    rw [goodB_yes hc]
    obtain ⟨L, hL⟩ : ∃ L, L = levL d := ⟨_, rfl⟩
    rw [← hL] at hi2 hll hlf hm0 hm1 hm2
    have HL := Lib.hid hL
    have HC := Lib.hid hc
    obtain ⟨ua, uc, hue, u1, u2⟩ := hi2.form2
    rw [hll] at hue u1
    subst hue
    obtain ⟨A2, k1, k2, hi3⟩ := cut1 hi2 hll.symm (by omega)
    rw [Nat.add_sub_cancel] at k1 k2 hi3
    have HMX := Lib.hid (slices_Max hi2 (by omega))
    obtain ⟨M, hM⟩ : ∃ M : Nat, mxI L = (M : Int) := ⟨(mxI L).toNat, by omega⟩
    rw [hM] at HMX
    have HM := Lib.hid hM
    have hM2 : M ≤ 4000 := by omega
    have hmk := fun W => run_makeN (P := Tryd.prog) 23 3 (.int .i64 0) 1 8 Tryd.underlying23 infoI .i64 .i64 (M + 1) (M + 1) (Nat.le_refl _) (by omega) (by omega) W
    rw [show ((M + 1 : Nat) : Int) = (M : Int) + 1 by omega] at hmk
    have HLF : Hid (∀ i, i < V → 0 ≤ (L.drop 1).getD i 0 ∧ (L.drop 1).getD i 0 ≤ (M : Int)) := Lib.hid fun i hi => by
      have e : (L.drop 1).getD i 0 = L.getD (1 + i) 0 := by rw [List.getD_eq_getElem?_getD, List.getElem?_drop, List.getD_eq_getElem?_getD]
      rw [e, ← hM]
      exact ⟨(hlf (1 + i) (by omega)).1, hm2 (1 + i) (by omega)⟩
    obtain ⟨ls, hls⟩ : ∃ ls, ls = L.drop 1 := ⟨_, rfl⟩
    have HLN : Hid (ls.length = V) := Lib.hid (by rw [hls, List.length_drop, hll]; rfl)
    rw [← hls] at HLF hi3
    have HLS := Lib.hid hls
    have HI3 := Lib.hid hi3
    obtain ⟨wc, hwc⟩ : ∃ wc, wc = w2.alloc (.cells (madeCells #[.int .i64 0] (M + 1)) 3) := ⟨_, rfl⟩
    have hbc : Below w2.heap.size w2 wc := by rw [hwc]; exact below_new1 w2 _
    obtain ⟨g, hg⟩ : ∃ g, g = w2.heap.size := ⟨_, rfl⟩
    have HCB : Hid (CBlk wc g (M + 1) idI []) := Lib.hid (by rw [hwc, hg]; exact CBlk.start w2 (M + 1) idI)
    have HBC := Lib.hid (HB2.out.trans (hbc.mono HB2.out.size))
    have HIC := Lib.hid (hi3.below hbc)
    have HST : Hid (CntR wc g (M + 1) idI ls 0 wc) := Lib.hid ⟨HCB.out, Chg.refl _ _⟩
    have HNG : Hid (∀ b, (Value.slice A2 V (uc - 1)).ownBlock = some b → 0 < V → b ≠ g) := Lib.hid fun b hb h0 e => by
      obtain ⟨b2, off2, cap2, e2, q⟩ := hi3.at2 (k := 0) (by rw [HLN.out]; exact h0)
      injection e2 with e2
      rw [e2] at hb
      simp [Value.ownBlock] at hb
      have := World.block_lt_of_cell? _ _ q
      have hlt : b2 < w2.heap.size := this
      omega
    have HWC := Lib.hid hwc
    have HG := Lib.hid hg
    clear hc h0 hs hA hll hlf hm0 hm1 hm2 hL hi2 hb2 hx2 u1 u2 hM hls hi3 hwc hbc hg
    go_wp2_with fail
    refine HMX.out.mono ?_
    rintro e wq ⟨rfl, rfl⟩
    go_wp2
    rw [← HWC.out, ← HG.out]
    clear hmk c0 c1 c2 c3 c4 c5 c6 c7
    go_loopw [25] (fun i wr => ∃ k : Nat, k ≤ V ∧ i = .int .i64 (k : Nat) ∧ CntR wc g (M + 1) idI ls k wr) (fun i _ => V - (intOf i).toNat)
    case atStart => exact ⟨0, Nat.zero_le _, rfl, HST.out⟩
    case round =>
      obtain ⟨k, hk, rfl, hR⟩ := hrel
      by_cases hlt : (k : Int) < (V : Int)
      · have hkl : k < ls.length := by have := HLN.out; omega
        obtain ⟨b, off, cap', he, q0⟩ := HIC.out.at2 hkl
        injection he with e1 e2 e3
        subst e1
        obtain ⟨x0, x1⟩ := HLF.out k (by omega)
        obtain ⟨x, hx⟩ : ∃ x, x = ls.getD k 0 := ⟨_, rfl⟩
        rw [← hx] at q0 x0 x1
        have q0 := chg_cellv hR.2 q0 (HNG.out b rfl (by omega))
        obtain ⟨v, hv⟩ : ∃ v : Nat, x = (v : Int) := ⟨x.toNat, by omega⟩
        have hvV : v < M + 1 := by omega
        obtain ⟨c, hcc⟩ : ∃ c : Nat, c = cntF idI (ls.take k) (v : Int) := ⟨_, rfl⟩
        have hcm : c ≤ 100000000 := by
          have h1 := cntF_le idI (ls.take k) (v : Int)
          rw [List.length_take] at h1
          omega
        have q1 : wr.cell? ⟨g, v, none⟩ = some (.int .i64 (c : Nat)) := by rw [hcc]; exact VBlk.cell hR.1 hvV
        have q2 : wr.frozen? ⟨g, v, none⟩ = false := VBlk.frozen hR.1 v
        have HNX : Hid (CntR wc g (M + 1) idI ls (k + 1) (wr.setCell ⟨g, v, none⟩ (.int .i64 ((c : Int) + 1)))) := Lib.hid (hR.step hkl (by rw [← hx]; exact hv) (by rw [hcc]))
        have hvn : (v : Int) < (M : Int) + 1 := by omega
        subst hv
        clear hR hx x0 x1 hcc e2 e3 hkl
        go_wp2
        go_roundw
        case rel => exact ⟨k + 1, by omega, by go_num, HNX.out⟩
        case measure => simp [intOf]; omega
      · have hkm : k = V := by omega
        have HF : Hid (FanQ w d (widL d) (.returned (.tuple #[.slice (some ⟨g, 0, none⟩) (M + 1) (M + 1), .int .i64 0])) wr) := Lib.hid (by
          have h1 := hR.1
          rw [hkm, ← HLN.out, List.take_length] at h1
          refine ⟨_, by rw [HC.out], HBC.out.trans (hR.2.below HBC.out.size fun i hi => by rw [hi, HG.out]; exact HB2.out.size), fun _ => ?_, fun e => absurd HC.out e⟩
          unfold widL
          rw [← HL.out, ← HLS.out, HM.out]
          exact CBlk.ints h1 (by omega))
        clear hR hkm
        go_wp2
        go_ret2
        exact HF.out
  · rw [goodB_no hc]
    have hu : levL d = [] := by unfold levL; rw [if_neg hc]
    have HCK2 := Lib.hid (HCK.out w2 hb2)
    obtain ⟨ua, uc, hue, u1, u2⟩ := hi2.form2
    generalize (levL d).length = ul at hue
    subst hue
    have HN := Lib.hid hc
    clear hi2 hx2 hb2 hc hu u1 u2
    go_wp2_with fail
    refine HCK2.out.mono ?_
    rintro e w3 ⟨rfl, hb3⟩
    have HF : Hid (FanQ w d (widL d) (.returned (.tuple #[.slice none 0 0, .int .i64 (checkN d)])) w3) := Lib.hid ⟨_, rfl, HB2.out.trans (hb3.mono HB2.out.size), fun e => absurd e HN.out, fun _ => rfl⟩
    obtain ⟨c, hcc⟩ : ∃ c, c = checkN d := ⟨_, rfl⟩
    rw [← hcc] at HF ⊢
    clear hb3 hcc c0 c1 c2 c3 c4 c5 c6 c7
    go_wp2
    go_ret2
    exact HF.out
set_option maxHeartbeats 4000000 in
set_option maxRecDepth 100000 in
theorem r40_Widths {w : World} {d : NetD} {vi vl vo vb vc vm va : Value} (h : NetP w d vi vl vo vb vc vm va) (hl0 : lightN d = true) (hc0 : checkN d = 0) :
    Calls Tryd.prog 16 #[netV d vi vl vo vb vc vm va] w fun e w' => ∃ u, e = .returned u ∧ Ints w' u (widL d) ∧ Below w.heap.size w w' := by
  obtain ⟨ai, ci, ni, al, cl, nl, ao, co, no, ab, cb, nb, ac, cc, nc, am, cm, nm, aa, ca, na, rfl, rfl, rfl, rfl, rfl, rfl, rfl, -, -⟩ := h.open_ (lightN_iff hl0).1
  obtain ⟨wb, hwb⟩ : ∃ wb, wb = w.alloc (.cells #[.int .i64 d.vars, .slice ai ni ci, .slice al nl cl, .slice ao no co, .slice ab nb cb, .slice ac nc cc, .slice am nm cm, .slice aa na ca] 28) := ⟨_, rfl⟩
  obtain ⟨bx, hbx⟩ : ∃ bx, bx = w.heap.size := ⟨_, rfl⟩
  have HB1 : Hid (Below w.heap.size w wb) := Lib.hid (by rw [hwb]; exact below_new1 w _)
  have HBX : Hid (NBox wb bx d (.slice ai ni ci) (.slice al nl cl) (.slice ao no co) (.slice ab nb cb) (.slice ac nc cc) (.slice am nm cm) (.slice aa na ca)) := Lib.hid (by rw [hwb, hbx]; exact NBox.new w _ _ _ _ _ _ _ _)
  have HP := Lib.hid (h.below HB1.out)
  have hlev := (r06_Levels HP.out hl0).mono (fun e w' h => LvQ.u h)
  have hnum : ∀ W, Below wb.heap.size wb W → _ := fun W hW => r40_Numbers (HP.out.below hW) hl0 hc0
  unfold netV at hlev hnum ⊢
  rw [hwb] at hlev
  have HLEV := Lib.hid hlev
  have HNUM := Lib.hid hnum
  have HWB := Lib.hid hwb
  have HBE := Lib.hid hbx
  obtain ⟨h0, V, hs, hA⟩ := good_iff.1 hc0
  obtain ⟨hll, hlf⟩ := levL_facts hc0 hs
  obtain ⟨hm0, hm1, hm2⟩ := mxI_bound hc0 hs
  have hV2 := hs.lim
  have hv := hs.vars
  have HG : Hid (goodB d = true) := Lib.hid (goodB_yes hc0)
  have hmx : mx0 (levL d) (levL d).length = mxI (levL d) := by
    unfold mxI
    rw [hll, Nat.add_sub_cancel]
    exact mx0_eq (hlf 0 (by omega)).1 V
  have HMX := Lib.hid hmx
  obtain ⟨L, hL⟩ : ∃ L, L = levL d := ⟨_, rfl⟩
  rw [← hL] at hll hlf hm0 hm1 hm2 HMX
  have HL := Lib.hid hL
  obtain ⟨M, hM⟩ : ∃ M : Nat, mxI L = (M : Int) := ⟨(mxI L).toNat, by omega⟩
  rw [hM] at HMX
  have HM := Lib.hid hM
  have hM2 : M ≤ 4000 := by omega
  have hmk := fun W => run_makeN (P := Tryd.prog) 23 3 (.int .i64 0) 1 8 Tryd.underlying23 infoI .i64 .i64 (M + 1) (M + 1) (Nat.le_refl _) (by omega) (by omega) W
  rw [show ((M + 1 : Nat) : Int) = (M : Int) + 1 by omega] at hmk
  have HLF : Hid (∀ i, i < V + 1 → 0 ≤ L.getD i 0 ∧ L.getD i 0 ≤ (M : Int)) := Lib.hid fun i hi => by
    rw [← hM]
    exact ⟨(hlf i hi).1, hm2 i hi⟩
  have HLL := Lib.hid hll
  have HVV := Lib.hid hv
  obtain ⟨ls, hls⟩ : ∃ ls, ls = L.drop 1 := ⟨_, rfl⟩
  have HLS := Lib.hid hls
  have HLN : Hid (ls.length = V) := Lib.hid (by rw [hls, List.length_drop, hll]; rfl)
  clear h hl0 hc0 h0 hs hA hwb hbx hlev hnum hll hlf hm0 hm1 hm2 hL hM hls hmx hv
  go_enter Tryd.func16, Tryd.ntmps16
  go_wp2_with fail
  refine HLEV.out.mono ?_
  rintro e w2 ⟨u, rfl, hi2, hb2⟩
  rw [← HWB.out] at hb2
  rw [← HBE.out, HG.out]
  rw [← HL.out] at hi2
  have hx2 := HBX.out.later hb2
  obtain ⟨c0, c1, c2, c3, c4, c5, c6, c7⟩ := hx2.all
  have HB2 := Lib.hid (HB1.out.trans (hb2.mono HB1.out.size))
  obtain ⟨ua, uc, hue, u1, u2⟩ := hi2.form2
  rw [HLL.out] at hue u1
  subst hue
  have HI2 := Lib.hid hi2
  have HX2 := Lib.hid hx2
  have HNM2 := Lib.hid (HNUM.out w2 hb2)
  clear hi2 hb2 hx2 u1 u2
  go_wp2_with fail
  refine HNM2.out.mono ?_
  rintro e w3 ⟨a0, a1, a2, a3, a4, a5, a6, a7, a9, rfl, hb3⟩
  rw [← HL.out, HMX.out]
  clear c0 c1 c2 c3 c4 c5 c6 c7
  obtain ⟨wc, hwc⟩ : ∃ wc, wc = w3.alloc (.cells (madeCells #[.int .i64 0] (M + 1)) 3) := ⟨_, rfl⟩
  have hbc : Below w3.heap.size w3 wc := by rw [hwc]; exact below_new1 w3 _
  obtain ⟨g, hg⟩ : ∃ g, g = w3.heap.size := ⟨_, rfl⟩
  have HCB : Hid (CBlk wc g (M + 1) idI []) := Lib.hid (by rw [hwc, hg]; exact CBlk.start w3 (M + 1) idI)
  have HB3 := Lib.hid (HB2.out.trans (hb3.mono HB2.out.size))
  have HBC := Lib.hid (HB3.out.trans (hbc.mono HB3.out.size))
  have HIC := Lib.hid ((HI2.out.below hb3).below hbc)
  have HXC := Lib.hid ((HX2.out.later hb3).later hbc)
  have HST : Hid (CntR wc g (M + 1) idI ls 0 wc) := Lib.hid ⟨HCB.out, Chg.refl _ _⟩
  have HNG : Hid (∀ b, (Value.slice ua (V + 1) uc).ownBlock = some b → b ≠ g) := Lib.hid fun b hb e => by
    obtain ⟨b2, off2, cap2, e2, q⟩ := HI2.out.at2 (k := 0) (by rw [HLL.out]; omega)
    injection e2 with e2
    rw [e2] at hb
    simp [Value.ownBlock] at hb
    have hlt : b2 < w2.heap.size := World.block_lt_of_cell? _ _ q
    have := hb3.size
    omega
  have HNX : Hid (bx ≠ g) := Lib.hid fun e => by
    have h1 : bx < w2.heap.size := HX2.out.lt
    have := hb3.size
    omega
  have HWC := Lib.hid hwc
  have HGE := Lib.hid hg
  clear hb3 hwc hbc hg
  have hix : ∀ W, (Instr.index 22 (.agg #[.int .i64 a0, .int .i64 a1, .int .i64 a2, .int .i64 a3, .int .i64 a4, .int .i64 a5, .int .i64 a6, .int .i64 a7, .int .i64 (M : Int), .int .i64 a9]) (.int .i64 8)).run Tryd.prog W = .ok (.int .i64 (M : Int)) W := fun W => by kernel_rfl
  go_wp2
  rw [← HWC.out, ← HGE.out]
  clear hmk hix
  go_loopw [6] (fun i wr => ∃ k : Nat, k ≤ V ∧ i = .int .i64 ((k : Int) + 1) ∧ CntR wc g (M + 1) idI ls k wr) (fun i _ => V + 1 - (intOf i).toNat)
  case atStart => exact ⟨0, Nat.zero_le _, rfl, HST.out⟩
  case round =>
    obtain ⟨k, hk, rfl, hR⟩ := hrel
    have d0 : wr.cell? ⟨bx, 0, none⟩ = some (.int .i64 (V : Nat)) := by
      have := chg_cellv hR.2 HXC.out.c0 HNX.out
      rw [HVV.out] at this
      exact this
    by_cases hlt : (k : Int) + 1 ≤ (V : Int)
    · have hkl : k < ls.length := by have := HLN.out; omega
      obtain ⟨b, off, cap', he, q0⟩ := HIC.out.at2 (k := k + 1) (by rw [HLL.out]; omega)
      injection he with e1 e2 e3
      subst e1
      obtain ⟨x0, x1⟩ := HLF.out (k + 1) (by omega)
      obtain ⟨x, hx⟩ : ∃ x, x = L.getD (k + 1) 0 := ⟨_, rfl⟩
      have hx2 : ls.getD k 0 = x := by
        rw [HLS.out, hx, List.getD_eq_getElem?_getD, List.getElem?_drop, List.getD_eq_getElem?_getD, Nat.add_comm]
      rw [← hx] at q0 x0 x1
      have q0 : wr.cell? ⟨b, off + (k + 1), none⟩ = some (.int .i64 x) := chg_cellv hR.2 q0 (HNG.out b rfl)
      obtain ⟨v, hv⟩ : ∃ v : Nat, x = (v : Int) := ⟨x.toNat, by omega⟩
      have hvV : v < M + 1 := by omega
      obtain ⟨c, hcc⟩ : ∃ c : Nat, c = cntF idI (ls.take k) (v : Int) := ⟨_, rfl⟩
      have hcm : c ≤ 100000000 := by
        have h1 := cntF_le idI (ls.take k) (v : Int)
        rw [List.length_take] at h1
        omega
      have q1 : wr.cell? ⟨g, v, none⟩ = some (.int .i64 (c : Nat)) := by rw [hcc]; exact VBlk.cell hR.1 hvV
      have q2 : wr.frozen? ⟨g, v, none⟩ = false := VBlk.frozen hR.1 v
      have HNX2 : Hid (CntR wc g (M + 1) idI ls (k + 1) (wr.setCell ⟨g, v, none⟩ (.int .i64 ((c : Int) + 1)))) := Lib.hid (hR.step hkl (by rw [hx2]; exact hv) (by rw [hcc]))
      have hvn : (v : Int) < (M : Int) + 1 := by omega
      have hkv : (k : Int) + 1 < (V : Int) + 1 := by omega
      have hk1 : IntKind.i64.wrap ((k : Int) + 1 + 1) = (k : Int) + 1 + 1 := IntWalk.i64_in _ (by omega)
      have hkt : ((k : Int) + 1).toNat = k + 1 := by omega
      subst hv
      clear hR hx x0 x1 hcc e2 e3 hkl hx2
      go_wp2
      go_roundw
      case rel => exact ⟨k + 1, by omega, by go_num, HNX2.out⟩
      case measure => simp [intOf]; omega
    · have hkm : k = V := by omega
      have HF1 : Hid (Ints wr (.slice (some ⟨g, 0, none⟩) (M + 1) (M + 1)) (widL d)) := Lib.hid (by
        have h1 := hR.1
        rw [hkm, ← HLN.out, List.take_length] at h1
        unfold widL
        rw [← HL.out, ← HLS.out, HM.out]
        exact CBlk.ints h1 (by omega))
      have HF2 : Hid (Below w.heap.size w wr) := Lib.hid (HBC.out.trans (hR.2.below HBC.out.size fun i hi => by rw [hi, HGE.out]; exact HB3.out.size))
      clear hR hkm
      go_wp2
      go_ret
      exact ⟨_, rfl, HF1.out, HF2.out⟩
end Go.Proofs.YtlahecdpcpejpaaDoor
