/-
  Chapter 40: levels as plain data; both Fanouts, walked.
-/
import Derived.Test.YtlahecdpcpejpaaDoorFkB
import Derived.Test.YtlahecdpcpejpaaDoorTopC
import Derived.Test.YtlahecdpcpejpaaDoorR6A
namespace Go.Proofs.YtlahecdpcpejpaaDoor
open Go Go.ChangeShapes Go.WideShapes Go.ChangeAt Go.RowKit
set_option linter.unusedVariables false
set_option linter.unusedSimpArgs false
attribute [local go_sem ↓] Go.wp_at_zero Go.wp_at_succ
open Classical in
/-- A variable's level. -/
noncomputable def levF (d : NetD) (v : Int) : Nat := if h : ∃ k, Lev (nodesN d) v k then Classical.choose h else 0
theorem levF_eq {d : NetD} {V : Nat} (hs : SoundD d V) {v : Int} {k : Nat} (h : Lev (nodesN d) v k) : levF d v = k := by
  have hx : ∃ k, Lev (nodesN d) v k := ⟨k, h⟩
  unfold levF
  rw [dif_pos hx]
  exact (Classical.choose_spec hx).uniq hs.nodes h
/-- The levels, and the order, as lists. -/
noncomputable def levL (d : NetD) : List Int := if checkN d = 0 then (List.range (d.vars.toNat + 1)).map (fun v : Nat => ((levF d v : Nat) : Int)) else []
noncomputable def goodB (d : NetD) : Bool := decide (checkN d = 0)
theorem goodB_yes {d : NetD} (h : checkN d = 0) : goodB d = true := by unfold goodB; simp [h]
theorem goodB_no {d : NetD} (h : checkN d ≠ 0) : goodB d = false := by unfold goodB; simp [h]
theorem ints_vblk {w : World} {bl n : Nat} {f : Nat → Int} (h : VBlk w bl 3 n (fun i => .int .i64 (f i))) (hn : n ≤ 9223372036854775807) : Ints w (.slice (some ⟨bl, 0, none⟩) n n) ((List.range n).map f) := by
  refine ⟨some ⟨bl, 0, none⟩, n, by simp, fun e => (by cases e), by simp, by simpa [maxLen] using hn, .inr ⟨bl, 0, rfl, fun j hj => ?_⟩⟩
  rw [List.length_map, List.length_range] at hj
  rw [Nat.zero_add, h.cell hj]
  simp [List.getD, hj]
def LevU (w : World) (d : NetD) (e : Ending) (w' : World) : Prop := ∃ u, e = .returned (.tuple #[u, .bool (goodB d)]) ∧ Ints w' u (levL d) ∧ Below w.heap.size w w'
theorem levL_of {d : NetD} {V : Nat} (hs : SoundD d V) (hc : checkN d = 0) {lv : Int → Int} (h : ∀ v : Int, 0 ≤ v → v ≤ V → 0 ≤ lv v ∧ Lev (nodesN d) v (lv v).toNat) : levL d = (List.range (V + 1)).map (fun v : Nat => lv v) := by
  have hV : d.vars.toNat = V := by have := hs.vars; omega
  unfold levL
  rw [if_pos hc, hV]
  refine List.map_congr_left fun v hv => ?_
  rw [List.mem_range] at hv
  obtain ⟨h0, h1⟩ := h v (by omega) (by omega)
  rw [levF_eq hs h1]
  omega
theorem LevQ.u {w : World} {d : NetD} {e : Ending} {w' : World} (h : LevQ w d e w') : LevU w d e w' := by
  obtain ⟨hb, ⟨hc, rfl⟩ | ⟨hc, V, hs, bl, lv, rfl, hv, -, hl⟩⟩ := h
  · exact ⟨_, by rw [goodB_no hc], by unfold levL; rw [if_neg hc]; exact ints_nil _, hb⟩
  · refine ⟨_, by rw [goodB_yes hc], ?_, hb⟩
    rw [levL_of hs hc (lv := fun v => (lv v : Int)) (fun v a b => ⟨by omega, by simpa using hl v a b⟩)]
    exact ints_vblk (f := fun i => ((lv i : Nat) : Int)) hv (by have := hs.lim; omega)
theorem LvQ.u {w : World} {d : NetD} {e : Ending} {w' : World} (h : LvQ w d e w') : LevU w d e w' := by
  obtain ⟨hb, ⟨h1, rfl⟩ | ⟨h0, V, hs, ⟨hn, rfl⟩ | ⟨bl, o, rfl, hv, -, hl⟩⟩⟩ := h
  · have hc : checkN d ≠ 0 := by rw [checkN_bad h1]; exact h1
    exact ⟨_, by rw [goodB_no hc], by unfold levL; rw [if_neg hc]; exact ints_nil _, hb⟩
  · have hc : checkN d ≠ 0 := by rw [checkN_no h0 hs hn]; decide
    exact ⟨_, by rw [goodB_no hc], by unfold levL; rw [if_neg hc]; exact ints_nil _, hb⟩
  · have hc : checkN d = 0 := checkN_yes h0 hs fun v a b => ⟨_, (hl v a b).2⟩
    refine ⟨_, by rw [goodB_yes hc], ?_, hb⟩
    rw [levL_of hs hc hl]
    exact ints_vblk (f := fun i => o (i : Int)) hv (by have := hs.lim; omega)
/-! ### Fanouts -/
def half (l : Int) : Int := l / 2
/-- How often each variable is used. -/
def fanL (d : NetD) : List Int := nums (d.vars.toNat + 1) (cntF half (literalsN d))
theorem flatMap_le {α β : Type} {f : α → List β} {B : Nat} : ∀ {l : List α}, (∀ x ∈ l, (f x).length ≤ B) → (l.flatMap f).length ≤ l.length * B
  | [], _ => by simp
  | x :: l, h => by
    rw [List.flatMap_cons, List.length_append, List.length_cons, Nat.add_mul, Nat.one_mul]
    have h1 := h x (by simp)
    have h2 := flatMap_le (l := l) (fun y hy => h y (by simp [hy]))
    omega
theorem literals_len {d : NetD} (hl0 : lightN d = true) : (literalsN d).length ≤ 100000000 := by
  unfold lightN at hl0
  rw [Bool.and_eq_true, List.all_eq_true] at hl0
  obtain ⟨h1, h2⟩ := hl0
  obtain ⟨-, a2, a3, a4, a5, a6, a7⟩ := of_decide_eq_true h1
  have hm : ∀ x ∈ d.mems, (memLit x).length ≤ 2000 := fun x hx => by
    have hx2 := h2 x hx
    unfold liM at hx2
    rw [Bool.and_eq_true, Bool.and_eq_true, List.all_eq_true, List.all_eq_true] at hx2
    obtain ⟨⟨b1, b2⟩, b3⟩ := hx2
    obtain ⟨c1, c2, -⟩ := of_decide_eq_true b1
    have d1 : (x.rd.flatMap fun r => r.2).length ≤ x.rd.length * 100 := flatMap_le fun r hr => (of_decide_eq_true (b2 r hr)).1
    have d2 : (x.wr.flatMap fun r => r.1 :: (r.2.1 ++ r.2.2)).length ≤ x.wr.length * 201 := flatMap_le fun r hr => by
      obtain ⟨e1, e2⟩ := of_decide_eq_true (b3 r hr)
      rw [List.length_cons, List.length_append]; omega
    unfold memLit
    rw [List.length_append]
    omega
  have d1 : (d.mems.flatMap memLit).length ≤ d.mems.length * 2000 := flatMap_le hm
  have d2 : (d.ands.flatMap fun a => [a.2.1, a.2.2]).length ≤ d.ands.length * 2 := flatMap_le fun a _ => by simp
  unfold literalsN
  simp only [List.length_append, List.length_map]
  omega
theorem chg_cellv {S : Nat → Prop} {a b : World} (h : Chg S a b) {p : Addr} {v : Value} (hv : a.cell? p = some v) (hn : ¬ S p.block) : b.cell? p = some v := by
  rw [World.cell?_of_block (w := a) (h.block p.block (World.block_lt_of_cell? _ _ hv) hn)]; exact hv
/-- Counts as they come, behind a world. -/
def CntR (w9 : World) (g n : Nat) (f : Int → Int) (ls : List Int) (k : Nat) (wr : World) : Prop := CBlk wr g n f (ls.take k) ∧ Chg (fun i => i = g) w9 wr
theorem CntR.step {w9 wr : World} {g n : Nat} {f : Int → Int} {ls : List Int} {k : Nat} (h : CntR w9 g n f ls k wr) (hk : k < ls.length) {v : Nat} (hv : f (ls.getD k 0) = (v : Int)) {c : Int} (hc : c = (cntF f (ls.take k) (v : Int) : Nat)) : CntR w9 g n f ls (k + 1) (wr.setCell ⟨g, v, none⟩ (.int .i64 (c + 1))) := by
  refine ⟨?_, h.2.setCell (p := ⟨g, v, none⟩) (.inl rfl) _⟩
  rw [take_snocI hk, hc]
  exact h.1.set_ hv
/-- What stat.Fanouts tells. -/
def FanQ (w : World) (d : NetD) (xs : List Int) (e : Ending) (w' : World) : Prop :=
  ∃ u, e = .returned (.tuple #[u, .int .i64 (checkN d)]) ∧ Below w.heap.size w w' ∧ (checkN d = 0 → Ints w' u xs) ∧ (checkN d ≠ 0 → u = .slice none 0 0)
set_option maxHeartbeats 4000000 in
set_option maxRecDepth 100000 in
theorem stat_Fanouts {w : World} {d : NetD} {vi vl vo vb vc vm va : Value} (h : NetP w d vi vl vo vb vc vm va) (hl0 : lightN d = true) :
    Calls Tryd.prog 12 #[netV d vi vl vo vb vc vm va] w (FanQ w d (fanL d)) := by
  obtain ⟨ai, ci, ni, al, cl, nl, ao, co, no, ab, cb, nb, ac, cc, nc, am, cm, nm, aa, ca, na, rfl, rfl, rfl, rfl, rfl, rfl, rfl, -, -⟩ := h.open_ (lightN_iff hl0).1
  obtain ⟨wb, hwb⟩ : ∃ wb, wb = w.alloc (.cells #[.int .i64 d.vars, .slice ai ni ci, .slice al nl cl, .slice ao no co, .slice ab nb cb, .slice ac nc cc, .slice am nm cm, .slice aa na ca] 28) := ⟨_, rfl⟩
  obtain ⟨bx, hbx⟩ : ∃ bx, bx = w.heap.size := ⟨_, rfl⟩
  have HB1 : Hid (Below w.heap.size w wb) := Lib.hid (by rw [hwb]; exact below_new1 w _)
  have HBX : Hid (NBox wb bx d (.slice ai ni ci) (.slice al nl cl) (.slice ao no co) (.slice ab nb cb) (.slice ac nc cc) (.slice am nm cm) (.slice aa na ca)) := Lib.hid (by rw [hwb, hbx]; exact NBox.new w _ _ _ _ _ _ _ _)
  have HP := Lib.hid (h.below HB1.out)
  have hck := topo_Check HP.out hl0
  unfold netV at hck ⊢
  rw [hwb] at hck
  have HCK := Lib.hid hck
  have HL0 := Lib.hid hl0
  have HWB := Lib.hid hwb
  have HBE := Lib.hid hbx
  clear h hl0 hwb hbx hck
  go_enter Tryd.func12, Tryd.ntmps12
  go_wp2
  go_step3
  go_wp2_with fail
  refine HCK.out.mono ?_
  rintro e w2 ⟨rfl, hb2⟩
  rw [← HWB.out] at hb2
  rw [← HBE.out]
  have HB2 := Lib.hid (HB1.out.trans (hb2.mono HB1.out.size))
  have hx2 := HBX.out.later hb2
  have HX2 := Lib.hid hx2
  by_cases hc : checkN d = 0
  · obtain ⟨h0, V, hs, hA⟩ := good_iff.1 hc
    have hV : d.vars = (V : Int) := hs.vars
    have hV2 := hs.lim
    obtain ⟨ls, hls⟩ : ∃ ls, ls = literalsN d := ⟨_, rfl⟩
    have HLB : Hid (∀ x ∈ ls, 0 ≤ x ∧ x ≤ 2 * (V : Int) + 1) := Lib.hid (by rw [hls]; exact hs.lits)
    have HLS := Lib.hid hls
    have HC := Lib.hid hc
    have HVV := Lib.hid hV
    obtain ⟨c0, c1, c2, c3, c4, c5, c6, c7⟩ := hx2.all
    rw [hV] at c0
    rw [hc]
    obtain ⟨wc, hwc⟩ : ∃ wc, wc = w2.alloc (.cells (madeCells #[.int .i64 0] (V + 1)) 3) := ⟨_, rfl⟩
    have hbc : Below w2.heap.size w2 wc := by rw [hwc]; exact below_new1 w2 _
    obtain ⟨g, hg⟩ : ∃ g, g = w2.heap.size := ⟨_, rfl⟩
    have hcb : CBlk wc g (V + 1) half [] := by rw [hwc, hg]; exact CBlk.start w2 (V + 1) half
    have HCB := Lib.hid hcb
    have hli := net_Literals (HP.out.below (hb2.trans (hbc.mono hb2.size))) (lightN_iff HL0.out).1 (lightN_iff HL0.out).2
    rw [← hls] at hli
    unfold netV at hli
    have HBC := Lib.hid (HB2.out.trans (hbc.mono HB2.out.size))
    have HXC := Lib.hid (hx2.later hbc)
    obtain ⟨d0, d1, d2, d3, d4, d5, d6, d7⟩ := (hx2.later hbc).all
    rw [hV] at d0
    rw [hV] at hli
    have HLI := Lib.hid hli
    have HLE : Hid (ls.length ≤ 100000000) := Lib.hid (by rw [hls]; exact literals_len HL0.out)
    have HWC := Lib.hid hwc
    have HG := Lib.hid hg
    rw [hwc] at d0 d1 d2 d3 d4 d5 d6 d7
    have hmk := fun W => run_makeN (P := Tryd.prog) 23 3 (.int .i64 0) 1 8 Tryd.underlying23 infoI .i64 .i64 (V + 1) (V + 1) (Nat.le_refl _) (by omega) (by omega) W
    rw [show ((V + 1 : Nat) : Int) = (V : Int) + 1 by omega] at hmk
    clear hc h0 hs hA hls hb2 hx2 hbc hcb hli hV hwc hg
    go_wp2
    go_step3
    go_wp2_with fail
    rw [← HWC.out, ← HG.out]
    refine HLI.out.mono ?_
    rintro e w9 ⟨u9, rfl, h9⟩
    clear d0 d1 d2 d3 d4 d5 d6 d7 c0 c1 c2 c3 c4 c5 c6 c7 hmk
    have hb9 := h9.2.1
    have HB9 := Lib.hid (HBC.out.trans (hb9.mono HBC.out.size))
    obtain ⟨la, lc, hle, l1, l2⟩ := h9.ints.form2
    have HI9 := Lib.hid h9.ints
    obtain ⟨m, hm⟩ : ∃ m, m = ls.length := ⟨_, rfl⟩
    rw [← hm] at hle
    subst hle
    have HM := Lib.hid hm
    have hm9 : m ≤ 100000000 := by have := HLE.out; omega
    have HST : Hid (CntR w9 g (V + 1) half ls 0 w9) := Lib.hid ⟨(VBlk.later HCB.out hb9 : VBlk w9 g 3 (V + 1) _), Chg.refl _ _⟩
    have HNG : Hid (∀ b, (Value.slice la m lc).ownBlock = some b → b ≠ g) := Lib.hid fun b hb => by
      have h1 := h9.2.2 b hb
      have h2 : g < wc.heap.size := VBlk.lt HCB.out
      omega
    clear h9 hb9 l1 l2 hm
    go_wp2
    go_loopw [21] (fun i wr => ∃ k : Nat, k ≤ m ∧ i = .int .i64 (k : Nat) ∧ CntR w9 g (V + 1) half ls k wr) (fun i _ => m - (intOf i).toNat)
    case atStart => exact ⟨0, Nat.zero_le _, rfl, HST.out⟩
    case round =>
      obtain ⟨k, hk, rfl, hR⟩ := hrel
      have HR := Lib.hid hR
      by_cases hlt : (k : Int) < (m : Int)
      · have hkl : k < ls.length := by have := HM.out; omega
        obtain ⟨b, off, cap', he, q0⟩ := HI9.out.at2 hkl
        injection he with e1 e2 e3
        subst e1
        obtain ⟨x, hx⟩ : ∃ x, x = ls.getD k 0 := ⟨_, rfl⟩
        rw [← hx] at q0
        have hxm : x ∈ ls := by rw [hx, List.getD_eq_getElem?_getD, List.getElem?_eq_getElem hkl]; exact List.getElem_mem hkl
        obtain ⟨x0, x1⟩ := HLB.out x hxm
        have q0 := chg_cellv hR.2 q0 (HNG.out b rfl)
        obtain ⟨v, hv⟩ : ∃ v : Nat, x / 2 = (v : Int) := ⟨(x / 2).toNat, by omega⟩
        have hvV : v < V + 1 := by omega
        obtain ⟨c, hc⟩ : ∃ c : Nat, c = cntF half (ls.take k) (v : Int) := ⟨_, rfl⟩
        have hcm : c ≤ 100000000 := by
          have h1 := cntF_le half (ls.take k) (v : Int)
          rw [List.length_take] at h1
          omega
        have q1 : wr.cell? ⟨g, v, none⟩ = some (.int .i64 (c : Nat)) := by rw [hc]; exact VBlk.cell hR.1 hvV
        have q2 : wr.frozen? ⟨g, v, none⟩ = false := VBlk.frozen hR.1 v
        have HNX : Hid (CntR w9 g (V + 1) half ls (k + 1) (wr.setCell ⟨g, v, none⟩ (.int .i64 ((c : Int) + 1)))) := Lib.hid (hR.step hkl (by rw [← hx]; exact hv) (by rw [hc]))
        have HVR := Lib.hid (litsVar x wr)
        rw [hv] at HVR
        have hvn : (v : Int) < (V : Int) + 1 := by omega
        clear hR hx hxm x0 x1 hv hc e2 e3 hkl
        go_wp2_with fail
        refine HVR.out.mono ?_
        rintro e wq ⟨rfl, rfl⟩
        go_wp2
        go_roundw
        case rel => exact ⟨k + 1, by omega, by go_num, HNX.out⟩
        case measure => simp [intOf]; omega
      · have hkm : k = m := by omega
        have HF : Hid (FanQ w d (fanL d) (.returned (.tuple #[.slice (some ⟨g, 0, none⟩) (V + 1) (V + 1), .int .i64 0])) wr) := Lib.hid (by
          have h1 := hR.1
          rw [hkm, HM.out, List.take_length] at h1
          refine ⟨_, by rw [HC.out], HB9.out.trans (hR.2.below HB9.out.size fun i hi => by rw [hi, HG.out]; exact HB2.out.size), fun _ => ?_, fun e => absurd HC.out e⟩
          · unfold fanL
            rw [HVV.out, ← HLS.out]
            exact CBlk.ints h1 (by omega))
        clear hR hkm
        go_wp2
        go_ret2
        exact HF.out
  · have hb : (checkN d != 0) = true := by rw [bne_iff_ne]; exact hc
    have HF : Hid (FanQ w d (fanL d) (.returned (.tuple #[.slice none 0 0, .int .i64 (checkN d)])) w2) := Lib.hid ⟨_, rfl, HB2.out, fun e => absurd e hc, fun _ => rfl⟩
    obtain ⟨c, hcc⟩ : ∃ c, c = checkN d := ⟨_, rfl⟩
    rw [← hcc] at hb HF ⊢
    clear hb2 hx2 hc hcc
    go_wp2
    go_ret2
    exact HF.out
set_option maxHeartbeats 4000000 in
set_option maxRecDepth 100000 in
theorem r40_Fanouts {w : World} {d : NetD} {vi vl vo vb vc vm va : Value} (h : NetP w d vi vl vo vb vc vm va) (hl0 : lightN d = true) (hc0 : checkN d = 0) :
    Calls Tryd.prog 15 #[netV d vi vl vo vb vc vm va] w fun e w' => ∃ u, e = .returned u ∧ Ints w' u (fanL d) ∧ Below w.heap.size w w' := by
  obtain ⟨ai, ci, ni, al, cl, nl, ao, co, no, ab, cb, nb, ac, cc, nc, am, cm, nm, aa, ca, na, rfl, rfl, rfl, rfl, rfl, rfl, rfl, -, -⟩ := h.open_ (lightN_iff hl0).1
  obtain ⟨h0, V, hs, hA⟩ := good_iff.1 hc0
  have hV : d.vars = (V : Int) := hs.vars
  have hV2 := hs.lim
  obtain ⟨wb, hwb⟩ : ∃ wb, wb = w.alloc (.cells #[.int .i64 d.vars, .slice ai ni ci, .slice al nl cl, .slice ao no co, .slice ab nb cb, .slice ac nc cc, .slice am nm cm, .slice aa na ca] 28) := ⟨_, rfl⟩
  obtain ⟨bx, hbx⟩ : ∃ bx, bx = w.heap.size := ⟨_, rfl⟩
  have HB1 : Hid (Below w.heap.size w wb) := Lib.hid (by rw [hwb]; exact below_new1 w _)
  have HBX : Hid (NBox wb bx d (.slice ai ni ci) (.slice al nl cl) (.slice ao no co) (.slice ab nb cb) (.slice ac nc cc) (.slice am nm cm) (.slice aa na ca)) := Lib.hid (by rw [hwb, hbx]; exact NBox.new w _ _ _ _ _ _ _ _)
  have HP := Lib.hid (h.below HB1.out)
  obtain ⟨ls, hls⟩ : ∃ ls, ls = literalsN d := ⟨_, rfl⟩
  have HLB : Hid (∀ x ∈ ls, 0 ≤ x ∧ x ≤ 2 * (V : Int) + 1) := Lib.hid (by rw [hls]; exact hs.lits)
  have HLS := Lib.hid hls
  have HVV := Lib.hid hV
  obtain ⟨wc, hwc⟩ : ∃ wc, wc = wb.alloc (.cells (madeCells #[.int .i64 0] (V + 1)) 3) := ⟨_, rfl⟩
  have hbc : Below wb.heap.size wb wc := by rw [hwc]; exact below_new1 wb _
  obtain ⟨g, hg⟩ : ∃ g, g = wb.heap.size := ⟨_, rfl⟩
  have hg2 : g = w.heap.size + 1 := by rw [hg, hwb]; simp
  have HCB : Hid (CBlk wc g (V + 1) half []) := Lib.hid (by rw [hwc, hg]; exact CBlk.start wb (V + 1) half)
  have hli := r05_Literals (HP.out.below hbc) (lightN_iff hl0).1 (lightN_iff hl0).2
  rw [← hls] at hli
  unfold netV at hli ⊢
  rw [hV] at hli
  rw [hV] at hwb ⊢
  have HLI := Lib.hid hli
  have HBC := Lib.hid (HB1.out.trans (hbc.mono HB1.out.size))
  have HLE : Hid (ls.length ≤ 100000000) := Lib.hid (by rw [hls]; exact literals_len hl0)
  have HG := Lib.hid hg2
  have hmk := fun W => run_makeN (P := Tryd.prog) 23 3 (.int .i64 0) 1 8 Tryd.underlying23 infoI .i64 .i64 (V + 1) (V + 1) (Nat.le_refl _) (by omega) (by omega) W
  rw [show ((V + 1 : Nat) : Int) = (V : Int) + 1 by omega] at hmk
  have HWC : Hid (wc = (w.alloc (.cells #[.int .i64 (V : Nat), .slice ai ni ci, .slice al nl cl, .slice ao no co, .slice ab nb cb, .slice ac nc cc, .slice am nm cm, .slice aa na ca] 28)).alloc (.cells (madeCells #[.int .i64 0] (V + 1)) 3)) := Lib.hid (by rw [hwc, hwb])
  clear h hl0 hc0 h0 hs hA hwb hbx hls hwc hbc hg hg2 hli hV
  go_enter Tryd.func15, Tryd.ntmps15
  go_wp2_with fail
  rw [← HWC.out, ← HG.out]
  refine HLI.out.mono ?_
  rintro e w9 ⟨u9, rfl, h9⟩
  clear hmk
  have hb9 := h9.2.1
  have HB9 := Lib.hid (HBC.out.trans (hb9.mono HBC.out.size))
  obtain ⟨la, lc, hle, l1, l2⟩ := h9.ints.form2
  have HI9 := Lib.hid h9.ints
  obtain ⟨m, hm⟩ : ∃ m, m = ls.length := ⟨_, rfl⟩
  rw [← hm] at hle
  subst hle
  have HM := Lib.hid hm
  have hm9 : m ≤ 100000000 := by have := HLE.out; omega
  have HST : Hid (CntR w9 g (V + 1) half ls 0 w9) := Lib.hid ⟨(VBlk.later HCB.out hb9 : VBlk w9 g 3 (V + 1) _), Chg.refl _ _⟩
  have HNG : Hid (∀ b, (Value.slice la m lc).ownBlock = some b → b ≠ g) := Lib.hid fun b hb => by
    have h1 := h9.2.2 b hb
    have h2 : g < wc.heap.size := VBlk.lt HCB.out
    omega
  clear h9 hb9 l1 l2 hm
  go_wp2
  go_loopw [5] (fun i wr => ∃ k : Nat, k ≤ m ∧ i = .int .i64 (k : Nat) ∧ CntR w9 g (V + 1) half ls k wr) (fun i _ => m - (intOf i).toNat)
  case atStart => exact ⟨0, Nat.zero_le _, rfl, HST.out⟩
  case round =>
    obtain ⟨k, hk, rfl, hR⟩ := hrel
    have HR := Lib.hid hR
    by_cases hlt : (k : Int) < (m : Int)
    · have hkl : k < ls.length := by have := HM.out; omega
      obtain ⟨b, off, cap', he, q0⟩ := HI9.out.at2 hkl
      injection he with e1 e2 e3
      subst e1
      obtain ⟨x, hx⟩ : ∃ x, x = ls.getD k 0 := ⟨_, rfl⟩
      rw [← hx] at q0
      have hxm : x ∈ ls := by rw [hx, List.getD_eq_getElem?_getD, List.getElem?_eq_getElem hkl]; exact List.getElem_mem hkl
      obtain ⟨x0, x1⟩ := HLB.out x hxm
      have q0 := chg_cellv hR.2 q0 (HNG.out b rfl)
      obtain ⟨v, hv⟩ : ∃ v : Nat, x / 2 = (v : Int) := ⟨(x / 2).toNat, by omega⟩
      have hvV : v < V + 1 := by omega
      obtain ⟨c, hc⟩ : ∃ c : Nat, c = cntF half (ls.take k) (v : Int) := ⟨_, rfl⟩
      have hcm : c ≤ 100000000 := by
        have h1 := cntF_le half (ls.take k) (v : Int)
        rw [List.length_take] at h1
        omega
      have q1 : wr.cell? ⟨g, v, none⟩ = some (.int .i64 (c : Nat)) := by rw [hc]; exact VBlk.cell hR.1 hvV
      have q2 : wr.frozen? ⟨g, v, none⟩ = false := VBlk.frozen hR.1 v
      have HNX : Hid (CntR w9 g (V + 1) half ls (k + 1) (wr.setCell ⟨g, v, none⟩ (.int .i64 ((c : Int) + 1)))) := Lib.hid (hR.step hkl (by rw [← hx]; exact hv) (by rw [hc]))
      have HVR := Lib.hid (r01Var x wr x0 (by omega))
      rw [hv] at HVR
      have hvn : (v : Int) < (V : Int) + 1 := by omega
      clear hR hx hxm x0 x1 hv hc e2 e3 hkl
      go_wp2_with fail
      refine HVR.out.mono ?_
      rintro e wq ⟨rfl, rfl⟩
      go_wp2
      go_roundw
      case rel => exact ⟨k + 1, by omega, by go_num, HNX.out⟩
      case measure => simp [intOf]; omega
    · have hkm : k = m := by omega
      have HF1 : Hid (Ints wr (.slice (some ⟨g, 0, none⟩) (V + 1) (V + 1)) (fanL d)) := Lib.hid (by
        have h1 := hR.1
        rw [hkm, HM.out, List.take_length] at h1
        unfold fanL
        rw [HVV.out, ← HLS.out]
        exact CBlk.ints h1 (by omega))
      have HF2 : Hid (Below w.heap.size w wr) := Lib.hid (HB9.out.trans (hR.2.below HB9.out.size fun i hi => by rw [hi, HG.out]; omega))
      clear hR hkm
      go_wp2
      go_ret
      exact ⟨_, rfl, HF1.out, HF2.out⟩
end Go.Proofs.YtlahecdpcpejpaaDoor
