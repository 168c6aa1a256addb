/-
  Package topo: the walker in memory; to, from.
-/
import Derived.Test.YtlahecdpcpejpaaDoorNetS
import Derived.Test.YtlahecdpcpejpaaDoorNetK
import Derived.Test.YtlahecdpcpejpaaDoorTopL
import Derived.Deep.CutRange
import Derived.StillTailTactics
namespace Go.Proofs.YtlahecdpcpejpaaDoor
open Go.ChangeShapes Go.WideShapes Go.ChangeAt Go.RowKit
set_option linter.unusedVariables false
set_option linter.unusedSimpArgs false
attribute [local go_sem ↓] Go.wp_at_zero Go.wp_at_succ
def nodeC (x : NodeD) : List Value := [.bool x.read, .int .i64 x.mem, .int .i64 x.pos]
def nodeV (x : NodeD) : Value := .agg #[.bool x.read, .int .i64 x.mem, .int .i64 x.pos]
def wkC (d : NetD) (V : Nat) (vi vl vo vb vc vm va : Value) (bo bm bl : Nat) (nv : Value) : Array Value :=
  #[.int .i64 d.vars, vi, vl, vo, vb, vc, vm, va, .slice (some ⟨bo, 0, none⟩) (V + 1) (V + 1), nv, .slice (some ⟨bm, 0, none⟩) (V + 1) (V + 1), .slice (some ⟨bl, 0, none⟩) (V + 1) (V + 1)]
/-- A walker: its block, its arrays, its nodes; the netlist was read at w0. -/
structure Wk (w0 : World) (d : NetD) (V : Nat) (vi vl vo vb vc vm va : Value) (bw bo bm bl : Nat) (nv : Value) (ns : List NodeD) (fo fm fl : Nat → Nat) (W : World) : Prop where
  net : NetP w0 d vi vl vo vb vc vm va
  low : Below w0.heap.size w0 W
  box : Blk W bw 96 (wkC d V vi vl vo vb vc vm va bo bm bl nv)
  of_ : VBlk W bo 3 (V + 1) (fun i => .int .i64 (fo i))
  mks : VBlk W bm 5 (V + 1) (fun i => .int .u8 (fm i))
  lv : VBlk W bl 3 (V + 1) (fun i => .int .i64 (fl i))
  row : Row W 117 3 nv ns.length (ns.flatMap nodeC)
  pw : w0.heap.size ≤ bw ∧ w0.heap.size ≤ bo ∧ w0.heap.size ≤ bm ∧ w0.heap.size ≤ bl
  ne : bw ≠ bo ∧ bw ≠ bm ∧ bw ≠ bl ∧ bo ≠ bm ∧ bo ≠ bl ∧ bm ≠ bl
  far : ∀ k, nv.ownBlock = some k → w0.heap.size ≤ k ∧ k ≠ bw ∧ k ≠ bo ∧ k ≠ bm ∧ k ≠ bl
section
variable {w0 W W' : World} {d : NetD} {V : Nat} {vi vl vo vb vc vm va : Value} {bw bo bm bl : Nat} {nv : Value} {ns : List NodeD} {fo fm fl : Nat → Nat}
theorem Wk.below (h : Wk w0 d V vi vl vo vb vc vm va bw bo bm bl nv ns fo fm fl W) (hb : Below W.heap.size W W') : Wk w0 d V vi vl vo vb vc vm va bw bo bm bl nv ns fo fm fl W' :=
  ⟨h.net, h.low.trans (hb.mono h.low.size), Blk.below h.box hb h.box.lt, h.of_.later hb, h.mks.later hb, h.lv.later hb, h.row.chg (S := fun _ => False) (Chg.of_below hb) (fun _ _ h => h), h.pw, h.ne, h.far⟩
theorem Wk.setOf (h : Wk w0 d V vi vl vo vb vc vm va bw bo bm bl nv ns fo fm fl W) (k n : Nat) : Wk w0 d V vi vl vo vb vc vm va bw bo bm bl nv ns (fun i => if i = k then n else fo i) fm fl (W.setCell ⟨bo, k, none⟩ (.int .i64 n)) := by
  have hc : Chg (fun i => i = bo) W (W.setCell ⟨bo, k, none⟩ (.int .i64 n)) := (Chg.refl (fun i => i = bo) W).setCell (p := ⟨bo, k, none⟩) (.inl rfl) _
  refine ⟨h.net, h.low.setCell (by simpa using h.pw.2.1) _, h.box.far (by simpa using h.ne.1) _, (h.of_.set_ k _).ext (fun i _ => ?_), h.mks.far (by simpa using h.ne.2.2.2.1.symm) _, h.lv.far (by simpa using h.ne.2.2.2.2.1.symm) _, h.row.chg hc (fun g hg e => (h.far g hg).2.2.1 e), h.pw, h.ne, h.far⟩
  by_cases e : i = k <;> simp [e]
theorem Wk.setMk (h : Wk w0 d V vi vl vo vb vc vm va bw bo bm bl nv ns fo fm fl W) (k n : Nat) : Wk w0 d V vi vl vo vb vc vm va bw bo bm bl nv ns fo (fun i => if i = k then n else fm i) fl (W.setCell ⟨bm, k, none⟩ (.int .u8 n)) := by
  have hc : Chg (fun i => i = bm) W (W.setCell ⟨bm, k, none⟩ (.int .u8 n)) := (Chg.refl (fun i => i = bm) W).setCell (p := ⟨bm, k, none⟩) (.inl rfl) _
  refine ⟨h.net, h.low.setCell (by simpa using h.pw.2.2.1) _, h.box.far (by simpa using h.ne.2.1) _, h.of_.far (by simpa using h.ne.2.2.2.1) _, (h.mks.set_ k _).ext (fun i _ => ?_), h.lv.far (by simpa using h.ne.2.2.2.2.2.symm) _, h.row.chg hc (fun g hg e => (h.far g hg).2.2.2.1 e), h.pw, h.ne, h.far⟩
  by_cases e : i = k <;> simp [e]
theorem Wk.setLv (h : Wk w0 d V vi vl vo vb vc vm va bw bo bm bl nv ns fo fm fl W) (k n : Nat) : Wk w0 d V vi vl vo vb vc vm va bw bo bm bl nv ns fo fm (fun i => if i = k then n else fl i) (W.setCell ⟨bl, k, none⟩ (.int .i64 n)) := by
  have hc : Chg (fun i => i = bl) W (W.setCell ⟨bl, k, none⟩ (.int .i64 n)) := (Chg.refl (fun i => i = bl) W).setCell (p := ⟨bl, k, none⟩) (.inl rfl) _
  refine ⟨h.net, h.low.setCell (by simpa using h.pw.2.2.2) _, h.box.far (by simpa using h.ne.2.2.1) _, h.of_.far (by simpa using h.ne.2.2.2.2.1) _, h.mks.far (by simpa using h.ne.2.2.2.2.2) _, (h.lv.set_ k _).ext (fun i _ => ?_), h.row.chg hc (fun g hg e => (h.far g hg).2.2.2.2 e), h.pw, h.ne, h.far⟩
  by_cases e : i = k <;> simp [e]
theorem Wk.ext (h : Wk w0 d V vi vl vo vb vc vm va bw bo bm bl nv ns fo fm fl W) {fo' fm' fl' : Nat → Nat} (h1 : ∀ i, i < V + 1 → fo i = fo' i) (h2 : ∀ i, i < V + 1 → fm i = fm' i) (h3 : ∀ i, i < V + 1 → fl i = fl' i) : Wk w0 d V vi vl vo vb vc vm va bw bo bm bl nv ns fo' fm' fl' W :=
  ⟨h.net, h.low, h.box, h.of_.ext (fun i hi => by rw [h1 i hi]), h.mks.ext (fun i hi => by rw [h2 i hi]), h.lv.ext (fun i hi => by rw [h3 i hi]), h.row, h.pw, h.ne, h.far⟩
theorem Wk.c (h : Wk w0 d V vi vl vo vb vc vm va bw bo bm bl nv ns fo fm fl W) : W.cell? ⟨bw, 8, none⟩ = some (.slice (some ⟨bo, 0, none⟩) (V + 1) (V + 1)) ∧ W.cell? ⟨bw, 9, none⟩ = some nv ∧ W.cell? ⟨bw, 10, none⟩ = some (.slice (some ⟨bm, 0, none⟩) (V + 1) (V + 1)) ∧ W.cell? ⟨bw, 11, none⟩ = some (.slice (some ⟨bl, 0, none⟩) (V + 1) (V + 1)) ∧ W.cell? ⟨bw, 6, none⟩ = some vm ∧ W.cell? ⟨bw, 7, none⟩ = some va :=
  ⟨h.box.cell 8, h.box.cell 9, h.box.cell 10, h.box.cell 11, h.box.cell 6, h.box.cell 7⟩
end
/-- A list of numbers is told; it lies below B, or is new. -/
def RetN (B : Nat) (w : World) (xs : List Int) (e : Ending) (w' : World) : Prop := ∃ u, e = .returned u ∧ Ints w' u xs ∧ Below w.heap.size w w' ∧ (xs ≠ [] → ∀ k, u.ownBlock = some k → k < B ∨ w.heap.size ≤ k)
theorem RetI.n {B : Nat} {w w' : World} {xs : List Int} {e : Ending} (h : RetI w xs e w') : RetN B w xs e w' := by
  obtain ⟨u, rfl, ho⟩ := h
  exact ⟨u, rfl, ho.ints, ho.2.1, fun _ k hk => .inr (ho.2.2 k hk)⟩
theorem ints_one (w : World) (a : Int) : Ints (w.alloc (.cells #[.int .i64 a] 3)) (.slice (some ⟨w.heap.size, 0, none⟩) 1 1) [a] :=
  ⟨_, 1, rfl, (fun h => by cases h), by simp, by simp [maxLen], .inr ⟨w.heap.size, 0, rfl, fun j hj => by
    have hB : Blk (w.alloc (.cells #[.int .i64 a] 3)) w.heap.size 3 #[.int .i64 a] := Blk.new w _ _
    rw [Nat.zero_add, hB.cell j]
    match j, hj with
    | 0, _ => rfl⟩⟩
theorem ints_two (w : World) (a b : Int) : Ints (w.alloc (.cells #[.int .i64 a, .int .i64 b] 3)) (.slice (some ⟨w.heap.size, 0, none⟩) 2 2) [a, b] :=
  ⟨_, 2, rfl, (fun h => by cases h), by simp, by simp [maxLen], .inr ⟨w.heap.size, 0, rfl, fun j hj => by
    have hB : Blk (w.alloc (.cells #[.int .i64 a, .int .i64 b] 3)) w.heap.size 3 #[.int .i64 a, .int .i64 b] := Blk.new w _ _
    rw [Nat.zero_add, hB.cell j]
    match j, hj with
    | 0, _ => rfl
    | 1, _ => rfl⟩⟩
theorem ownI_one {w wr : World} (hb : Below w.heap.size w wr) (a : Int) : OwnI w (wr.alloc (.cells #[.int .i64 a] 3)) (.slice (some ⟨wr.heap.size, 0, none⟩) 1 1) [a] :=
  ⟨⟨by simp, .inr ⟨wr.heap.size, 1, #[.int .i64 a], rfl, Nat.zero_le _, heap_new1 _ _, Nat.le_refl _, by simp [maxLen], by simp, by simp [iv]⟩⟩, hb.alloc hb.size _, fun k hk => by simp [Value.ownBlock] at hk; have := hb.size; omega⟩
set_option maxHeartbeats 4000000 in
set_option maxRecDepth 100000 in
theorem topo_to {w0 W : World} {d : NetD} {V : Nat} {vi vl vo vb vc vm va : Value} {bw bo bm bl : Nat} {nv : Value} {ns : List NodeD} {fo fm fl : Nat → Nat} (h : Wk w0 d V vi vl vo vb vc vm va bw bo bm bl nv ns fo fm fl W) (hl0 : lightN d = true) (hs : SoundD d V) {x : NodeD} (hx : isNode d x) :
    Calls Tryd.prog 74 #[.pointer (some ⟨bw, 0, none⟩), nodeV x] W (RetI W x.vars) := by
  obtain ⟨hl, hm⟩ := lightN_iff hl0
  obtain ⟨c8, c9, c10, c11, c6, c7⟩ := h.c
  have H := Lib.hid h
  rcases hx with ⟨hp, he⟩ | ⟨hmm, hp, he⟩
  · obtain ⟨b, off, cap', hva, h0, h1, h2⟩ := h.net.ands.at_ hp
    subst hva
    replace h0 := cell_below h0 (h.low.trans ((below_new1 W (.cells #[.bool false, .int .i64 0, .int .i64 x.pos] 117)).mono h.low.size))
    have hlt : (x.pos : Int) < (d.ands.length : Int) := by omega
    have hle : d.ands.length ≤ 2000 := hs.ands
    obtain ⟨na, hna⟩ : ∃ n, n = d.ands.length := ⟨_, rfl⟩
    obtain ⟨y, hy⟩ : ∃ y, y = (d.ands.getD x.pos tri0).1 := ⟨_, rfl⟩
    have hxv : x.vars = [y] := by rw [he, hy]; rfl
    have hxe : nodeV x = .agg #[.bool false, .int .i64 0, .int .i64 x.pos] := by rw [he]; rfl
    rw [hxe, hxv]
    rw [← hy] at h0
    rw [← hna] at hlt hle c7
    generalize x.pos = p at *
    have c7' := cell_below c7 (below_new1 W (.cells #[.bool false, .int .i64 0, .int .i64 p] 117))
    clear h h1 h2 hy hxv hxe he hna hm hl hs c8 c9 c10 c11 c6 hp c7 H
    go_enter Tryd.func74, Tryd.ntmps74
    go_wp2
    go_region
    have HF : RetI W [y] (.returned (.slice (some ⟨W.heap.size + 1, 0, none⟩) 1 1)) ((W.alloc (.cells #[.bool false, .int .i64 0, .int .i64 p] 117)).alloc (.cells #[.int .i64 y] 3)).drew :=
      ⟨_, rfl, by
        have h : OwnI W ((W.alloc (.cells #[.bool false, .int .i64 0, .int .i64 p] 117)).alloc (.cells #[.int .i64 y] 3)) (.slice (some ⟨W.heap.size + 1, 0, none⟩) 1 1) [y] := by
          have h := ownI_one (w := W) (wr := W.alloc (.cells #[.bool false, .int .i64 0, .int .i64 p] 117)) (below_new1 _ _) y
          simpa using h
        exact h.below (below_drewN (Below.refl _ _) 1)⟩
    have HFH := Lib.hid HF
    clear HF
    go_wp2
    go_ret
    exact HFH.out
  · obtain ⟨b, off, cap', hvm, hmem⟩ := h.net.mems.at_ hmm
    subst hvm
    have hlm := liM_parts (hm x.mem hmm)
    obtain ⟨mm, hmme⟩ : ∃ mm, mm = d.mems.getD x.mem mem0 := ⟨_, rfl⟩
    rw [← hmme] at hmem hlm hp
    obtain ⟨u1, u2, y0, y1, y2, y3, y4, hmv⟩ := hmem.val
    obtain ⟨ra, rc, nr, wa, wc, nw, hag, hnr, hnw, r1, r2, q1, q2, -, -⟩ := hmv.open_
    injection hag with hag
    simp only [Array.mk.injEq, List.cons.injEq, true_and, and_true] at hag
    obtain ⟨rfl, rfl⟩ := hag
    have hxe : nodeV x = .agg #[.bool true, .int .i64 x.mem, .int .i64 x.pos] := by rw [he]; rfl
    have hxv : x.vars = dataM (mm.rd.getD x.pos rd0).1 mm.word := by rw [he, hmme]; rfl
    have hb : Below w0.heap.size w0 (W.alloc (.cells #[.bool true, .int .i64 x.mem, .int .i64 x.pos] 117)) := h.low.trans ((below_new1 W _).mono h.low.size)
    replace y0 := cell_below y0 hb
    replace y1 := cell_below y1 hb
    replace y2 := cell_below y2 hb
    replace y3 := cell_below y3 hb
    replace y4 := cell_below y4 hb
    have hlr := of_decide_eq_true (hlm.2.1 x.pos hp)
    have hD : ∀ n, Calls Tryd.prog 90 #[.agg #[.int .i64 mm.addr, .int .i64 mm.word, .bool mm.any, .slice ra nr rc, .slice wa nw wc], .int .i64 x.pos] ((W.alloc (.cells #[.bool true, .int .i64 x.mem, .int .i64 x.pos] 117)).drewN n) (RetI ((W.alloc (.cells #[.bool true, .int .i64 x.mem, .int .i64 x.pos] 117)).drewN n) x.vars) := fun n => by
      rw [hxv]
      exact net_Data ((hmv.below hb).below (below_d (Below.refl _ _))) hlm.1 hp ⟨hlr.2.2, hlr.2.1⟩
    rw [hxe]
    have hm4 : d.mems.length ≤ 4 := hs.mems
    obtain ⟨nm, hnm⟩ : ∃ n, n = d.mems.length := ⟨_, rfl⟩
    rw [← hnm] at hm4 hmm c6
    have hlt : (x.mem : Int) < (nm : Int) := by omega
    have hp6 : x.pos ≤ 6 := by have := of_decide_eq_true hlm.1; omega
    have c6' := cell_below c6 (below_new1 W (.cells #[.bool true, .int .i64 x.mem, .int .i64 x.pos] 117))
    obtain ⟨xv, hxvv⟩ : ∃ xv, xv = x.vars := ⟨_, rfl⟩
    rw [← hxvv] at hD ⊢
    have HD := Lib.hid hD
    generalize x.mem = m at *
    generalize x.pos = p at *
    clear h hmem hlm hmv hxv he hxe hnr hnw hm hl hs c8 c9 c10 c11 c6 hp H hD hb hlr hmme hnm hxvv
    go_enter Tryd.func74, Tryd.ntmps74
    go_wp2
    go_region_with (go_at_call 90; refine (HD.out 1).mono ?_; rintro e w5 ⟨u5, rfl, ho5⟩; have HO5 := Lib.hid ho5; clear ho5)
    all_goals
      have HF : Hid (RetI W xv (.returned u5) w5) := Lib.hid ⟨_, rfl, HO5.out.from_ (below_d (below_new1 W _))⟩
      go_wp2
      go_ret
      exact HF.out
theorem ints_blk {w : World} {u : Value} {xs : List Int} (h : Ints w u xs) (hne : xs ≠ []) : ∀ k, u.ownBlock = some k → k < w.heap.size := fun k hk => by
  obtain ⟨a, cap, rfl, -, -, -, h3⟩ := h
  obtain ⟨b, off, rfl, hc⟩ := h3.resolve_left hne
  have h0 : b < w.heap.size := World.block_lt_of_cell? w _ (hc 0 (List.length_pos_iff.2 hne))
  simp [Value.ownBlock] at hk
  omega
set_option maxHeartbeats 4000000 in
set_option maxRecDepth 100000 in
theorem topo_from {w0 W : World} {d : NetD} {V : Nat} {vi vl vo vb vc vm va : Value} {bw bo bm bl : Nat} {nv : Value} {ns : List NodeD} {fo fm fl : Nat → Nat} (h : Wk w0 d V vi vl vo vb vc vm va bw bo bm bl nv ns fo fm fl W) (hl0 : lightN d = true) (hs : SoundD d V) {x : NodeD} (hx : isNode d x) :
    Calls Tryd.prog 92 #[.pointer (some ⟨bw, 0, none⟩), nodeV x] W (RetN w0.heap.size W x.frm) := by
  obtain ⟨hl, hm⟩ := lightN_iff hl0
  obtain ⟨c8, c9, c10, c11, c6, c7⟩ := h.c
  rcases hx with ⟨hp, he⟩ | ⟨hmm, hp, he⟩
  · obtain ⟨b, off, cap', hva, h0, h1, h2⟩ := h.net.ands.at_ hp
    subst hva
    have hb : Below w0.heap.size w0 (W.alloc (.cells #[.bool false, .int .i64 0, .int .i64 x.pos] 117)) := h.low.trans ((below_new1 W _).mono h.low.size)
    replace h0 := cell_below h0 hb
    replace h1 := cell_below h1 hb
    replace h2 := cell_below h2 hb
    have hlt : (x.pos : Int) < (d.ands.length : Int) := by omega
    have hle : d.ands.length ≤ 2000 := hs.ands
    obtain ⟨na, hna⟩ : ∃ n, n = d.ands.length := ⟨_, rfl⟩
    obtain ⟨y, hy⟩ : ∃ y, y = d.ands.getD x.pos tri0 := ⟨_, rfl⟩
    rw [← hy] at h0 h1 h2
    obtain ⟨y1, y2, y3⟩ := y
    have hxv : x.frm = [y2, y3] := by rw [he, ← hy]; rfl
    have hxe : nodeV x = .agg #[.bool false, .int .i64 0, .int .i64 x.pos] := by rw [he]; rfl
    rw [hxe, hxv]
    rw [← hna] at hlt hle c7
    generalize x.pos = p at *
    have c7' := cell_below c7 (below_new1 W (.cells #[.bool false, .int .i64 0, .int .i64 p] 117))
    have g0 := cell_below h0 (below_new1 _ (.cells #[.int .i64 0, .int .i64 0, .int .i64 0] 93))
    have g1 := cell_below h1 (below_new1 _ (.cells #[.int .i64 0, .int .i64 0, .int .i64 0] 93))
    have g2 := cell_below h2 (below_new1 _ (.cells #[.int .i64 0, .int .i64 0, .int .i64 0] 93))
    have g7 := cell_below c7' (below_new1 _ (.cells #[.int .i64 0, .int .i64 0, .int .i64 0] 93))
    clear h hy hxv hxe he hna hm hl hs c8 c9 c10 c11 c6 hp c7 hb
    go_enter Tryd.func92, Tryd.ntmps92
    go_wp2
    go_region
    have HF : Hid (RetN w0.heap.size W [y2, y3] (.returned (.slice (some ⟨W.heap.size + 1 + 1, 0, none⟩) 2 2)) ((((W.alloc (.cells #[.bool false, .int .i64 0, .int .i64 p] 117)).alloc (.cells #[.int .i64 y1, .int .i64 y2, .int .i64 y3] 93)).alloc (.cells #[.int .i64 y2, .int .i64 y3] 3)).drew)) := Lib.hid (by
      have h := ints_two ((W.alloc (.cells #[.bool false, .int .i64 0, .int .i64 p] 117)).alloc (.cells #[.int .i64 y1, .int .i64 y2, .int .i64 y3] 93)) y2 y3
      refine ⟨_, rfl, ?_, ?_, ?_⟩
      · have h2 : Ints (((W.alloc (.cells #[.bool false, .int .i64 0, .int .i64 p] 117)).alloc (.cells #[.int .i64 y1, .int .i64 y2, .int .i64 y3] 93)).alloc (.cells #[.int .i64 y2, .int .i64 y3] 3)) (.slice (some ⟨W.heap.size + 1 + 1, 0, none⟩) 2 2) [y2, y3] := by simpa using h
        exact h2.drewN 1
      · exact ((((Below.refl _ W).alloc (Nat.le_refl _) _).alloc (by simp) _).alloc (by simp; omega) _).drew
      · intro _ k hk
        simp [Value.ownBlock] at hk
        right; omega)
    go_wp2
    go_ret
    exact HF.out
  · obtain ⟨b, off, cap', hvm, hmem⟩ := h.net.mems.at_ hmm
    subst hvm
    obtain ⟨mm, hmme⟩ : ∃ mm, mm = d.mems.getD x.mem mem0 := ⟨_, rfl⟩
    have hlm := liM_parts (hm x.mem hmm)
    rw [← hmme] at hmem hlm hp
    obtain ⟨u1, u2, y0, y1, y2, y3, y4, hmv⟩ := hmem.val
    obtain ⟨ra, rc, nr, wa, wc, nw, hag, hnr, hnw, r1, r2, q1, q2, HSR, -⟩ := hmv.open_
    injection hag with hag
    simp only [Array.mk.injEq, List.cons.injEq, true_and, and_true] at hag
    obtain ⟨rfl, rfl⟩ := hag
    obtain ⟨b2, off2, cap2, he2, -, u, hu1, hu2⟩ := HSR.out.at_ hp
    injection he2 with e1 e2 e3
    subst e1
    have hxe : nodeV x = .agg #[.bool true, .int .i64 x.mem, .int .i64 x.pos] := by rw [he]; rfl
    have hxv : x.frm = (mm.rd.getD x.pos rd0).2 := by rw [he, hmme]; rfl
    have hb : Below w0.heap.size w0 (W.alloc (.cells #[.bool true, .int .i64 x.mem, .int .i64 x.pos] 117)) := h.low.trans ((below_new1 W _).mono h.low.size)
    have HF : Hid (∀ n, RetN w0.heap.size W x.frm (.returned u) ((W.alloc (.cells #[.bool true, .int .i64 x.mem, .int .i64 x.pos] 117)).drewN n)) := Lib.hid fun n => by
      rw [hxv]
      exact ⟨u, rfl, (hu2.below hb).drewN n, below_d (below_new1 W _), fun hne k hk => .inl (ints_blk hu2 hne k hk)⟩
    obtain ⟨ua, ucap, hue, -⟩ := id hu2
    generalize (mm.rd.getD x.pos rd0).2.length = un at hue
    subst hue
    replace y3 := cell_below y3 hb
    replace hu1 := cell_below hu1 hb
    rw [hxe]
    have hm4 : d.mems.length ≤ 4 := hs.mems
    obtain ⟨nm, hnm⟩ : ∃ n, n = d.mems.length := ⟨_, rfl⟩
    rw [← hnm] at hm4 hmm c6
    have hlt : (x.mem : Int) < (nm : Int) := by omega
    have hr6 : nr ≤ 6 := by have := of_decide_eq_true hlm.1; omega
    have hplt : (x.pos : Int) < (nr : Int) := by omega
    have c6' := cell_below c6 (below_new1 W (.cells #[.bool true, .int .i64 x.mem, .int .i64 x.pos] 117))
    obtain ⟨xv, hxvv⟩ : ∃ xv, xv = x.frm := ⟨_, rfl⟩
    rw [← hxvv] at HF ⊢
    generalize x.mem = m at *
    generalize x.pos = p at *
    clear h hmem hlm hmv hxv he hxe hnr hnw hm hl hs c8 c9 c10 c11 c6 hp hb hmme hnm hxvv hu2 e2 e3 y0 y1 y2 y4 HSR
    go_enter Tryd.func92, Tryd.ntmps92
    go_wp2
    go_quiet (fail)
    go_wp2
    go_ret
    exact HF.out _
end Go.Proofs.YtlahecdpcpejpaaDoor
