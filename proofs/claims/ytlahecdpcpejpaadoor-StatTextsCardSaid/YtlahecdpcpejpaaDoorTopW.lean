/-
  Package topo: walk, walked.
-/
import Derived.Test.YtlahecdpcpejpaaDoorTopV
namespace Go.Proofs.YtlahecdpcpejpaaDoor
open Go.ChangeShapes Go.WideShapes Go.ChangeAt Go.RowKit
set_option linter.unusedVariables false
set_option linter.unusedSimpArgs false
attribute [local go_sem ↓] Go.wp_at_zero Go.wp_at_succ
theorem infoU8 : (Tryd.prog.info? 5).map (fun i => (i.zero, i.size, i.bytes)) = some (some (.int .u8 0), 1, 1) := by kernel_rfl
theorem infoND : (Tryd.prog.info? 117).map (fun i => (i.zero, i.size, i.bytes)) = some (some (.agg #[.bool false, .int .i64 0, .int .i64 0]), 3, 24) := by kernel_rfl
theorem mapIdx_take {α β : Type} (f : Nat → α → β) {l : List α} {k : Nat} (d : α) (h : k < l.length) : (l.take (k + 1)).mapIdx f = (l.take k).mapIdx f ++ [f k (l.getD k d)] := by
  rw [take_succ_D d h, List.mapIdx_append]
  simp [List.length_take, Nat.min_eq_left (Nat.le_of_lt h)]
def pA (d : NetD) (k : Nat) : List NodeD := (d.ands.take k).mapIdx andNode
def pN (d : NetD) (m i : Nat) : List NodeD := d.ands.mapIdx andNode ++ ((d.mems.take m).mapIdx memNodes).flatten ++ ((d.mems.getD m mem0).rd.take i).mapIdx (rdNode m (d.mems.getD m mem0).word)
theorem pA_succ {d : NetD} {k : Nat} (h : k < d.ands.length) : pA d (k + 1) = pA d k ++ [andNode k (d.ands.getD k tri0)] := mapIdx_take _ _ h
theorem pA_end {d : NetD} : pA d d.ands.length = pN d 0 0 := by unfold pA pN; simp
theorem pN_succ {d : NetD} {m i : Nat} (h : i < (d.mems.getD m mem0).rd.length) : pN d m (i + 1) = pN d m i ++ [rdNode m (d.mems.getD m mem0).word i ((d.mems.getD m mem0).rd.getD i rd0)] := by
  unfold pN; rw [mapIdx_take _ rd0 h, ← List.append_assoc]
theorem pN_next {d : NetD} {m : Nat} (h : m < d.mems.length) : pN d m (d.mems.getD m mem0).rd.length = pN d (m + 1) 0 := by
  unfold pN
  rw [List.take_length, mapIdx_take _ mem0 h, List.flatten_append]
  simp [memNodes]
theorem pN_end (d : NetD) : pN d d.mems.length 0 = nodesN d := by unfold pN nodesN; simp
theorem flat3 (ns : List NodeD) (k c : Nat) (hk : k < ns.length) (hc : c < 3) : (ns.flatMap nodeC).getD (k * 3 + c) undef = (nodeC (ns.getD k node0)).getD c undef := by
  induction ns generalizing k with
  | nil => exact absurd hk (by simp)
  | cons x ns ih =>
    rw [List.flatMap_cons]
    cases k with
    | zero => simp [nodeC, List.getD]; match c, hc with | 0, _ => rfl | 1, _ => rfl | 2, _ => rfl
    | succ k =>
      have := ih k (by simpa using hk)
      have e : (k + 1) * 3 + c = (k * 3 + c) + 3 := by omega
      rw [e]
      simp [nodeC, List.getD] at this ⊢
      exact this
theorem flat3_len (ns : List NodeD) : (ns.flatMap nodeC).length = ns.length * 3 := by
  induction ns with
  | nil => rfl
  | cons x ns ih => rw [List.flatMap_cons, List.length_append, ih, List.length_cons]; simp [nodeC]; omega
section
variable {w0 W W' : World} {d : NetD} {V : Nat} {vi vl vo vb vc vm va : Value} {bw bo bm bl : Nat} {nv : Value} {ns : List NodeD} {fo fm fl : Nat → Nat}
/-- Where a node lies. -/
theorem Wk.node (h : Wk w0 d V vi vl vo vb vc vm va bw bo bm bl nv ns fo fm fl W) {k : Nat} (hk : k < ns.length) : ∃ g cap, nv = .slice (some ⟨g, 0, none⟩) ns.length cap ∧ ns.length ≤ cap ∧ cap ≤ 9223372036854775807 ∧
    W.cell? ⟨g, k * 3, none⟩ = some (.bool (ns.getD k node0).read) ∧ W.cell? ⟨g, k * 3 + 1, none⟩ = some (.int .i64 (ns.getD k node0).mem) ∧ W.cell? ⟨g, k * 3 + 2, none⟩ = some (.int .i64 (ns.getD k node0).pos) := by
  rcases h.row.form with ⟨-, h0, -⟩ | ⟨g, cap, h1, h2, h3, -, hc⟩
  · omega
  · have hl := flat3_len ns
    unfold maxLen at h3
    refine ⟨g, cap, h1, h2, by omega, ?_, ?_, ?_⟩
    · have := (hc (k * 3) (by omega)).1
      rw [show k * 3 = k * 3 + 0 by omega, flat3 ns k 0 hk (by omega)] at this
      exact this
    · rw [(hc (k * 3 + 1) (by omega)).1, flat3 ns k 1 hk (by omega)]; rfl
    · rw [(hc (k * 3 + 2) (by omega)).1, flat3 ns k 2 hk (by omega)]; rfl
theorem Wk.form (h : Wk w0 d V vi vl vo vb vc vm va bw bo bm bl nv ns fo fm fl W) : ∃ A cap, nv = .slice A ns.length cap ∧ ns.length ≤ cap ∧ cap ≤ 9223372036854775807 := by
  rcases h.row.form with ⟨h1, h0, -⟩ | ⟨g, cap, h1, h2, h3, -, hc⟩
  · exact ⟨none, 0, by rw [h1, h0], by omega, by omega⟩
  · unfold maxLen at h3; exact ⟨_, cap, h1, h2, by omega⟩
theorem Wk.rebase (h : Wk w0 d V vi vl vo vb vc vm va bw bo bm bl nv ns fo fm fl W) {w : World} (hn : NetP w d vi vl vo vb vc vm va) (hb : Below w.heap.size w w0) : Wk w d V vi vl vo vb vc vm va bw bo bm bl nv ns fo fm fl W := by
  have hs := hb.size
  obtain ⟨p1, p2, p3, p4⟩ := h.pw
  exact ⟨hn, hb.trans (h.low.mono hs), h.box, h.of_, h.mks, h.lv, h.row, ⟨by omega, by omega, by omega, by omega⟩, h.ne, fun k hk => by obtain ⟨a, b⟩ := h.far k hk; exact ⟨by omega, b⟩⟩
/-- A node more, and the field told of it. -/
theorem Wk.app (h : Wk w0 d V vi vl vo vb vc vm va bw bo bm bl nv ns fo fm fl W) {x : NodeD} {v' : Value} {o : Obj} (hp : AppPost (W.alloc o) 117 3 nv (ns.length + 1) (ns.flatMap nodeC ++ nodeC x) v' W') :
    Wk w0 d V vi vl vo vb vc vm va bw bo bm bl v' (ns ++ [x]) fo fm fl (W'.setCell ⟨bw, 9, none⟩ v') := by
  have hA := h.below (below_new1 W o)
  obtain ⟨p1, p2, p3⟩ := hp
  have hfar : ∀ k, v'.ownBlock = some k → w0.heap.size ≤ k ∧ k ≠ bw ∧ k ≠ bo ∧ k ≠ bm ∧ k ≠ bl := fun k hk => by
    rcases p3 with e | e
    · exact h.far k (e ▸ hk)
    · rw [e] at hk
      injection hk with hk
      have l0 := hA.low.size
      have l1 := hA.box.lt; have l2 := hA.of_.lt; have l3 := hA.mks.lt; have l4 := hA.lv.lt
      exact ⟨by omega, by omega, by omega, by omega, by omega⟩
  have hc2 : Chg (fun i => i = bw) W' (W'.setCell ⟨bw, 9, none⟩ v') := (Chg.refl (fun i => i = bw) W').setCell (p := ⟨bw, 9, none⟩) (.inl rfl) _
  refine ⟨h.net, ?_, ?_, ?_, ?_, ?_, ?_, h.pw, h.ne, hfar⟩
  · exact (hA.low.trans (p2.below hA.low.size (fun i hi => (h.far i hi).1))).setCell (by simpa using h.pw.1) _
  · have hb := (hA.box.chg p2 (fun e => (h.far bw e).2.1 rfl)).set_ 9 v'
    exact hb
  · exact Blk.far (Blk.chg hA.of_ p2 (fun e => (h.far bo e).2.2.1 rfl)) (by simpa using h.ne.1.symm) _
  · exact Blk.far (Blk.chg hA.mks p2 (fun e => (h.far bm e).2.2.2.1 rfl)) (by simpa using h.ne.2.1.symm) _
  · exact Blk.far (Blk.chg hA.lv p2 (fun e => (h.far bl e).2.2.2.2 rfl)) (by simpa using h.ne.2.2.1.symm) _
  · have hr : Row W' 117 3 v' (ns ++ [x]).length ((ns ++ [x]).flatMap nodeC) := by
      rw [List.length_append, List.flatMap_append]; simpa using p1
    exact hr.chg hc2 (fun g hg e => (hfar g hg).2.1 e)
end
theorem src_node {w : World} (b : Bool) (m p : Int) : Src (w.alloc (.cells #[.bool b, .int .i64 m, .int .i64 p] 117)) (some ⟨w.heap.size, 0, none⟩) 3 1 [.bool b, .int .i64 m, .int .i64 p] := by
  refine ⟨rfl, fun _ => ⟨w.heap.size, 0, rfl, fun j u hu => ?_⟩⟩
  have hB : Blk (w.alloc (.cells #[.bool b, .int .i64 m, .int .i64 p] 117)) w.heap.size 117 #[.bool b, .int .i64 m, .int .i64 p] := Blk.new w _ _
  rw [Nat.zero_add, hB.cell j]
  match j, hu with
  | 0, hu => exact hu
  | 1, hu => exact hu
  | 2, hu => exact hu
section
variable {w : World} {t1 t2 t3 : TypeId} {z1 z2 z3 : Value} {n : Nat}
theorem mk3_1 (z : Value) (t : TypeId) (o2 o3 : Obj) {f : Nat → Value} (h : ∀ i, i < n → f i = z) : VBlk (((w.alloc (.cells (madeCells #[z] n) t)).alloc o2).alloc o3) w.heap.size t n f := Blk.alloc (Blk.alloc (VBlk.made1 w t z n h) o2) o3
theorem mk3_2 (z : Value) (t : TypeId) (o1 o3 : Obj) {f : Nat → Value} (h : ∀ i, i < n → f i = z) : VBlk (((w.alloc o1).alloc (.cells (madeCells #[z] n) t)).alloc o3) (w.heap.size + 1) t n f := by
  have := Blk.alloc (VBlk.made1 (w.alloc o1) t z n h) o3
  rwa [World.size_alloc] at this
theorem mk3_3 (z : Value) (t : TypeId) (o1 o2 : Obj) {f : Nat → Value} (h : ∀ i, i < n → f i = z) : VBlk (((w.alloc o1).alloc o2).alloc (.cells (madeCells #[z] n) t)) (w.heap.size + 1 + 1) t n f := by
  have := VBlk.made1 ((w.alloc o1).alloc o2) t z n h
  rwa [World.size_alloc, World.size_alloc] at this
theorem below3 (w : World) (o1 o2 o3 : Obj) : Below w.heap.size w (((w.alloc o1).alloc o2).alloc o3) := (((Below.refl _ w).alloc (Nat.le_refl _) _).alloc (by simp) _).alloc (by simp; omega) _
end
/-- A walker is told, all of it fresh. -/
def RetW (w : World) (d : NetD) (V : Nat) (vi vl vo vb vc vm va : Value) (e : Ending) (w' : World) : Prop :=
  ∃ bw bo bm bl nv, e = .returned (.pointer (some ⟨bw, 0, none⟩)) ∧ Wk w d V vi vl vo vb vc vm va bw bo bm bl nv (nodesN d) (fun i => ofN (nodesN d) i) (fun _ => 0) (fun _ => 0) w'
set_option maxHeartbeats 16000000 in
set_option maxRecDepth 100000 in
theorem topo_walk {w : World} {d : NetD} {vi vl vo vb vc vm va : Value} (h : NetP w d vi vl vo vb vc vm va) (hl0 : lightN d = true) {V : Nat} (hs : SoundD d V) :
    Calls Tryd.prog 59 #[netV d vi vl vo vb vc vm va] w (RetW w d V vi vl vo vb vc vm va) := by
  obtain ⟨hl, hm⟩ := lightN_iff hl0
  have hP0 := h
  obtain ⟨ai, ci, ni, al, cl, nl, ao, co, no, ab, cb, nb, ac, cc, nc, am, cm, nm, aa, ca, na, rfl, rfl, rfl, rfl, rfl, rfl, rfl, HN, HC⟩ := h.open_ hl
  obtain ⟨-, ⟨l1, l2, l3⟩, -, -, -, ⟨m1, m2, m3⟩, ⟨a1, a2, a3⟩⟩ := HC
  have hV := hs.lim
  have hmk := fun W => run_makeN (P := Tryd.prog) 23 3 (.int .i64 0) 1 8 Tryd.underlying23 infoI .i64 .i64 (V + 1) (V + 1) (Nat.le_refl _) (by omega) (by omega) W
  have hmk2 := fun W => run_makeN (P := Tryd.prog) 78 5 (.int .u8 0) 1 1 Tryd.underlying78 infoU8 .i64 .i64 (V + 1) (V + 1) (Nat.le_refl _) (by omega) (by omega) W
  rw [show ((V + 1 : Nat) : Int) = (V : Int) + 1 by omega] at hmk hmk2
  unfold netV
  obtain ⟨wb, hwb⟩ : ∃ wb, wb = w.alloc (.cells #[.int .i64 d.vars, .slice ai ni ci, .slice al nl cl, .slice ao no co, .slice ab nb cb, .slice ac nc cc, .slice am nm cm, .slice aa na ca] 28) := ⟨_, rfl⟩
  obtain ⟨bx, hbx⟩ : ∃ bx, bx = w.heap.size := ⟨_, rfl⟩
  have HB1 : Hid (Below w.heap.size w wb) := Lib.hid (by rw [hwb]; exact below_new1 w _)
  have HBX : Hid (NBox wb bx d (.slice ai ni ci) (.slice al nl cl) (.slice ao no co) (.slice ab nb cb) (.slice ac nc cc) (.slice am nm cm) (.slice aa na ca)) := Lib.hid (by rw [hwb, hbx]; exact NBox.new w _ _ _ _ _ _ _ _)
  have hPb := h.below HB1.out
  have HST : Hid (∀ (W : World) (bw bo bm bl : Nat) (k : Nat), bw = W.heap.size → W.heap.size = wb.heap.size + 3 → Below wb.heap.size wb W → VBlk W bo 3 (V + 1) (fun i => .int .i64 ((fun _ => (0 : Nat)) i : Nat)) → VBlk W bm 5 (V + 1) (fun i => .int .u8 ((fun _ => (0 : Nat)) i : Nat)) → VBlk W bl 3 (V + 1) (fun i => .int .i64 ((fun _ => (0 : Nat)) i : Nat)) → wb.heap.size ≤ bo → wb.heap.size ≤ bm → wb.heap.size ≤ bl → bo ≠ bm → bo ≠ bl → bm ≠ bl →
      Wk wb d V (.slice ai ni ci) (.slice al nl cl) (.slice ao no co) (.slice ab nb cb) (.slice ac nc cc) (.slice am nm cm) (.slice aa na ca) bw bo bm bl (.slice none 0 0) [] (fun _ => 0) (fun _ => 0) (fun _ => 0) ((W.alloc (.cells (wkC d V (.slice ai ni ci) (.slice al nl cl) (.slice ao no co) (.slice ab nb cb) (.slice ac nc cc) (.slice am nm cm) (.slice aa na ca) bo bm bl (.slice none 0 0)) 96)).drewN k)) := Lib.hid (by
    intro W bw bo bm bl k hbw hsz hb v1 v2 v3 p1 p2 p3 n1 n2 n3
    subst hbw
    have hd : Below W.heap.size W ((W.alloc (.cells (wkC d V (.slice ai ni ci) (.slice al nl cl) (.slice ao no co) (.slice ab nb cb) (.slice ac nc cc) (.slice am nm cm) (.slice aa na ca) bo bm bl (.slice none 0 0)) 96)).drewN k) := below_d (below_new1 W _)
    have b1 := v1.lt; have b2 := v2.lt; have b3 := v3.lt
    exact ⟨hPb, hb.trans (hd.mono (by omega)), Blk.new W _ _, v1.later hd, v2.later hd, v3.later hd, World.ownsRow_nil _ _ _ _, ⟨by omega, by omega, by omega, by omega⟩, ⟨by omega, by omega, by omega, n1, n2, n3⟩, fun k hk => by simp [Value.ownBlock] at hk⟩)
  rw [hs.vars] at hwb ⊢
  have HS := Lib.hid hs
  have HP := Lib.hid hPb
  have HP0 := Lib.hid hP0
  have HL := Lib.hid hl0
  have HM := Lib.hid hm
  have HW1 := Lib.hid hwb
  have HBE := Lib.hid hbx
  clear h hl0 hl hm hs hPb hP0 hwb hbx
  go_enter Tryd.func59, Tryd.ntmps59
  go_upto_region 1 with (fail)
  go_cut [3] from 11 to 25 (fun p wx => ∃ bw bo bm bl, p = .pointer (some ⟨bw, 0, none⟩) ∧ Wk wb d V (.slice ai ni ci) (.slice al nl cl) (.slice ao no co) (.slice ab nb cb) (.slice ac nc cc) (.slice am nm cm) (.slice aa na ca) bw bo bm bl (.slice none 0 0) [] (fun _ => 0) (fun _ => 0) (fun _ => 0) wx)
  case first =>
    have HZ : Hid (w.heap.size + 1 = wb.heap.size) := Lib.hid (by rw [HW1.out]; simp)
    go_region
    all_goals
      go_wp2
      go_meet
      rw [← HW1.out]
      rw [← HS.out.vars]
      rw [HZ.out]
      first
        | exact ⟨_, wb.heap.size, wb.heap.size + 1, wb.heap.size + 1 + 1, rfl, HST.out (((wb.alloc (.cells (madeCells #[.int .i64 0] (V + 1)) 3)).alloc (.cells (madeCells #[.int .u8 0] (V + 1)) 5)).alloc (.cells (madeCells #[.int .i64 0] (V + 1)) 3)) _ _ _ _ 1 (by simp) (by simp) (below3 _ _ _ _) (mk3_1 (.int .i64 0) 3 _ _ (fun i _ => rfl)) (mk3_2 (.int .u8 0) 5 _ _ (fun i _ => rfl)) (mk3_3 (.int .i64 0) 3 _ _ (fun i _ => rfl)) (by omega) (by omega) (by omega) (by omega) (by omega) (by omega)⟩
        | exact ⟨_, wb.heap.size, wb.heap.size + 1 + 1, wb.heap.size + 1, rfl, HST.out (((wb.alloc (.cells (madeCells #[.int .i64 0] (V + 1)) 3)).alloc (.cells (madeCells #[.int .i64 0] (V + 1)) 3)).alloc (.cells (madeCells #[.int .u8 0] (V + 1)) 5)) _ _ _ _ 1 (by simp) (by simp) (below3 _ _ _ _) (mk3_1 (.int .i64 0) 3 _ _ (fun i _ => rfl)) (mk3_3 (.int .u8 0) 5 _ _ (fun i _ => rfl)) (mk3_2 (.int .i64 0) 3 _ _ (fun i _ => rfl)) (by omega) (by omega) (by omega) (by omega) (by omega) (by omega)⟩
        | exact ⟨_, wb.heap.size + 1, wb.heap.size, wb.heap.size + 1 + 1, rfl, HST.out (((wb.alloc (.cells (madeCells #[.int .u8 0] (V + 1)) 5)).alloc (.cells (madeCells #[.int .i64 0] (V + 1)) 3)).alloc (.cells (madeCells #[.int .i64 0] (V + 1)) 3)) _ _ _ _ 1 (by simp) (by simp) (below3 _ _ _ _) (mk3_2 (.int .i64 0) 3 _ _ (fun i _ => rfl)) (mk3_1 (.int .u8 0) 5 _ _ (fun i _ => rfl)) (mk3_3 (.int .i64 0) 3 _ _ (fun i _ => rfl)) (by omega) (by omega) (by omega) (by omega) (by omega) (by omega)⟩
        | exact ⟨_, wb.heap.size + 1, wb.heap.size + 1 + 1, wb.heap.size, rfl, HST.out (((wb.alloc (.cells (madeCells #[.int .i64 0] (V + 1)) 3)).alloc (.cells (madeCells #[.int .i64 0] (V + 1)) 3)).alloc (.cells (madeCells #[.int .u8 0] (V + 1)) 5)) _ _ _ _ 1 (by simp) (by simp) (below3 _ _ _ _) (mk3_2 (.int .i64 0) 3 _ _ (fun i _ => rfl)) (mk3_3 (.int .u8 0) 5 _ _ (fun i _ => rfl)) (mk3_1 (.int .i64 0) 3 _ _ (fun i _ => rfl)) (by omega) (by omega) (by omega) (by omega) (by omega) (by omega)⟩
        | exact ⟨_, wb.heap.size + 1 + 1, wb.heap.size, wb.heap.size + 1, rfl, HST.out (((wb.alloc (.cells (madeCells #[.int .u8 0] (V + 1)) 5)).alloc (.cells (madeCells #[.int .i64 0] (V + 1)) 3)).alloc (.cells (madeCells #[.int .i64 0] (V + 1)) 3)) _ _ _ _ 1 (by simp) (by simp) (below3 _ _ _ _) (mk3_3 (.int .i64 0) 3 _ _ (fun i _ => rfl)) (mk3_1 (.int .u8 0) 5 _ _ (fun i _ => rfl)) (mk3_2 (.int .i64 0) 3 _ _ (fun i _ => rfl)) (by omega) (by omega) (by omega) (by omega) (by omega) (by omega)⟩
        | exact ⟨_, wb.heap.size + 1 + 1, wb.heap.size + 1, wb.heap.size, rfl, HST.out (((wb.alloc (.cells (madeCells #[.int .i64 0] (V + 1)) 3)).alloc (.cells (madeCells #[.int .u8 0] (V + 1)) 5)).alloc (.cells (madeCells #[.int .i64 0] (V + 1)) 3)) _ _ _ _ 1 (by simp) (by simp) (below3 _ _ _ _) (mk3_3 (.int .i64 0) 3 _ _ (fun i _ => rfl)) (mk3_2 (.int .u8 0) 5 _ _ (fun i _ => rfl)) (mk3_1 (.int .i64 0) 3 _ _ (fun i _ => rfl)) (by omega) (by omega) (by omega) (by omega) (by omega) (by omega)⟩
  case rest =>
    obtain ⟨bw, bo, bm, bl, rfl, hk⟩ := hcut
    have HK := Lib.hid hk
    have HB0 := Lib.hid hk.low
    have c7 := (HBX.out.later hk.low).c7
    rw [HBE.out] at c7
    have hA0 : Hid (pA d 0 = []) := Lib.hid (by unfold pA; simp)
    rw [← hA0.out] at HK
    clear hk hmk hmk2
    go_wp2
    clear c7
    go_loopw [4, 29] (fun _ i wr => ∃ k : Nat, ∃ nv, k ≤ na ∧ i = .int .i64 k ∧ Wk wb d V (.slice ai ni ci) (.slice al nl cl) (.slice ao no co) (.slice ab nb cb) (.slice ac nc cc) (.slice am nm cm) (.slice aa na ca) bw bo bm bl nv (pA d k) (fun _ => 0) (fun _ => 0) (fun _ => 0) wr) (fun _ i _ => na - (intOf i).toNat)
    case atStart => exact ⟨0, _, Nat.zero_le _, rfl, HK.out⟩
    case round =>
      obtain ⟨k, nv, hk, rfl, hW⟩ := hrel
      have HW := Lib.hid hW
      clear hW
      by_cases hlt : (k : Int) < (na : Int)
      · have hkn : k < d.ands.length := by have := HN.out.ands; omega
        obtain ⟨-, c9, -⟩ := HW.out.c
        have f9 := HW.out.box.frozen 9
        obtain ⟨A, cap, rfl, z1, z2⟩ := HW.out.form
        have hsn := pA_succ hkn
        have HSN := Lib.hid hsn
        obtain ⟨n9, hn9⟩ : ∃ n9, n9 = (pA d k).length := ⟨_, rfl⟩
        have hn9k : n9 ≤ 2100 := by rw [hn9]; unfold pA; simp; omega
        have hrow := HW.out.row
        rw [← hn9] at c9 HW z1 hrow
        have HROW := Lib.hid hrow
        have HN9 := Lib.hid hn9
        clear hsn hn9 hkn hrow
        go_wp2_with (at_builtin; refine wpList_appS rfl _ _ 94 rfl 117 (.agg #[.bool false, .int .i64 0, .int .i64 0]) 3 24 Tryd.underlying94 infoND rfl (by decide) (.slice A n9 cap) n9 ((pA d k).flatMap nodeC) rfl (HROW.out.alloc (.cells #[.bool false, .int .i64 0, .int .i64 k] 117)) (some ⟨wr.heap.size, 0, none⟩) 1 1 [.bool false, .int .i64 0, .int .i64 k] rfl (src_node (w := wr) false 0 k) ?h1 ?h2 ?h3 ?_; (case h1 => (intro u hu; simp at hu; rcases hu with rfl | rfl | rfl <;> rfl)); (case h2 => (unfold maxLen; omega)); (case h3 => omega); intro v4 w4 h4; have hap := HW.out.app (x := andNode k (d.ands.getD k tri0)) (o := .cells #[.bool false, .int .i64 0, .int .i64 k] 117) (v' := v4) (W' := w4) (by rw [← HN9.out]; exact h4); have c4 : w4.cell? ⟨bw, 9, none⟩ = some (.slice A n9 cap) := ((HW.out.below (below_new1 wr (.cells #[.bool false, .int .i64 0, .int .i64 k] 117))).box.chg h4.2.1 (fun e => (HW.out.far bw e).2.1 rfl)).cell 9; have f4 : w4.frozen? ⟨bw, 9, none⟩ = false := ((HW.out.below (below_new1 wr (.cells #[.bool false, .int .i64 0, .int .i64 k] 117))).box.chg h4.2.1 (fun e => (HW.out.far bw e).2.1 rfl)).frozen 9; obtain ⟨g4, cap4, rfl, -, -, -⟩ := h4.1.some_ (by omega); have H4 := Lib.hid hap; clear h4 hap)
        go_roundw
        case rel => exact ⟨k + 1, _, by omega, by go_num, by rw [HSN.out]; exact H4.out⟩
        case measure => simp [intOf]; omega
      · obtain rfl : k = na := by omega
        have hall : pA d k = pN d 0 0 := by rw [HN.out.ands]; exact pA_end
        rw [hall] at HW
        have HL0 : Hid ((pN d 0 0).length ≤ 2100 + 6 * 0) := Lib.hid (by rw [← hall]; unfold pA; simp; omega)
        have c6 := (HBX.out.later HW.out.low).c6
        rw [HBE.out] at c6
        obtain ⟨w1, rfl⟩ : ∃ w1 : World, w1 = wr := ⟨_, rfl⟩
        clear hall
        go_wp2
        clear c6
        go_loopw [5, 6, 47, 57] (fun _ _ i _ wr => ∃ m : Nat, ∃ nv, m ≤ nm ∧ i = .int .i64 m ∧ Wk wb d V (.slice ai ni ci) (.slice al nl cl) (.slice ao no co) (.slice ab nb cb) (.slice ac nc cc) (.slice am nm cm) (.slice aa k ca) bw bo bm bl nv (pN d m 0) (fun _ => 0) (fun _ => 0) (fun _ => 0) wr ∧ (pN d m 0).length ≤ 2100 + 6 * m) (fun _ _ i _ _ => nm - (intOf i).toNat)
        case atStart => exact ⟨0, _, Nat.zero_le _, rfl, HW.out, HL0.out⟩
        case round =>
          obtain ⟨m, nv, hm9, rfl, hW, hlen⟩ := hrel
          have HWm := Lib.hid hW
          clear hW
          have c6 := (HBX.out.later HWm.out.low).c6
          rw [HBE.out] at c6
          by_cases hlt : (m : Int) < (nm : Int)
          · have hmn : m < d.mems.length := by have := HN.out.mems; omega
            obtain ⟨b, off, cap', he, hmem⟩ := HP.out.mems.at_ hmn
            injection he with e1 e2 e3
            subst e1
            have hlm := liM_parts (HM.out m hmn)
            have HNX := Lib.hid (pN_next hmn)
            have HPS := Lib.hid (fun i => pN_succ (d := d) (m := m) (i := i))
            obtain ⟨mm, hmm⟩ : ∃ mm, mm = d.mems.getD m mem0 := ⟨_, rfl⟩
            rw [← hmm] at hmem hlm HNX HPS
            obtain ⟨ra, rc, nr, wa, wc, nw, z3, z4, hnr, hnw, r1, r2, q1, q2⟩ := mem_form hmem
            replace z3 := cell_below z3 HWm.out.low
            have hr6 : nr ≤ 6 := by have := of_decide_eq_true hlm.1; omega
            have hm4 : m ≤ 6 := by omega
            unfold maxLen at r2
            have HNR := Lib.hid hnr
            obtain ⟨wp, rfl⟩ : ∃ wp : World, wp = wr := ⟨_, rfl⟩
            clear hmm hlm hmem z4 hnr hnw q1 q2 e2 e3 hmn
            go_wp2
            clear c6 z3
            go_loopw [6, 57] (fun _ i wr => ∃ j : Nat, ∃ nv, j ≤ nr ∧ i = .int .i64 j ∧ Wk wb d V (.slice ai ni ci) (.slice al nl cl) (.slice ao no co) (.slice ab nb cb) (.slice ac nc cc) (.slice (some ⟨b, off, none⟩) nm cm) (.slice aa k ca) bw bo bm bl nv (pN d m j) (fun _ => 0) (fun _ => 0) (fun _ => 0) wr ∧ (pN d m j).length ≤ 2100 + 6 * m + j) (fun _ i _ => nr - (intOf i).toNat)
            case atStart => exact ⟨0, _, Nat.zero_le _, rfl, HWm.out, hlen⟩
            case round =>
              obtain ⟨j, nv2, hj9, rfl, hW, hlen2⟩ := hrel
              have HWj := Lib.hid hW
              clear hW
              by_cases hltj : (j : Int) < (nr : Int)
              · have hjn : j < mm.rd.length := by have := HNR.out; omega
                obtain ⟨-, c9, -⟩ := HWj.out.c
                have f9 := HWj.out.box.frozen 9
                obtain ⟨A, cap, rfl, z1, z2⟩ := HWj.out.form
                have hsn := HPS.out j hjn
                have HSN := Lib.hid hsn
                obtain ⟨n9, hn9⟩ : ∃ n9, n9 = (pN d m j).length := ⟨_, rfl⟩
                have hn9k : n9 ≤ 100000 := by omega
                have hrow := HWj.out.row
                rw [← hn9] at c9 HWj z1 hrow
                have HROW := Lib.hid hrow
                have HN9 := Lib.hid hn9
                have hj6 : (j : Int) ≤ 6 := by omega
                have hm6 : (m : Int) ≤ 6 := by omega
                clear hsn hn9 hjn hrow
                go_wp2_with (at_builtin; refine wpList_appS rfl _ _ 94 rfl 117 (.agg #[.bool false, .int .i64 0, .int .i64 0]) 3 24 Tryd.underlying94 infoND rfl (by decide) (.slice A n9 cap) n9 ((pN d m j).flatMap nodeC) rfl (HROW.out.alloc (.cells #[.bool true, .int .i64 m, .int .i64 j] 117)) (some ⟨wr.heap.size, 0, none⟩) 1 1 [.bool true, .int .i64 m, .int .i64 j] rfl (src_node (w := wr) true m j) ?h1 ?h2 ?h3 ?_; (case h1 => (intro u hu; simp at hu; rcases hu with rfl | rfl | rfl <;> rfl)); (case h2 => (unfold maxLen; omega)); (case h3 => omega); intro v4 w4 h4; have hap := HWj.out.app (x := rdNode m mm.word j (mm.rd.getD j rd0)) (o := .cells #[.bool true, .int .i64 m, .int .i64 j] 117) (v' := v4) (W' := w4) (by rw [← HN9.out]; exact h4); have c4 : w4.cell? ⟨bw, 9, none⟩ = some (.slice A n9 cap) := ((HWj.out.below (below_new1 wr (.cells #[.bool true, .int .i64 m, .int .i64 j] 117))).box.chg h4.2.1 (fun e => (HWj.out.far bw e).2.1 rfl)).cell 9; have f4 : w4.frozen? ⟨bw, 9, none⟩ = false := ((HWj.out.below (below_new1 wr (.cells #[.bool true, .int .i64 m, .int .i64 j] 117))).box.chg h4.2.1 (fun e => (HWj.out.far bw e).2.1 rfl)).frozen 9; obtain ⟨g4, cap4, rfl, -, -, -⟩ := h4.1.some_ (by omega); have H4 := Lib.hid hap; clear h4 hap)
                go_roundw
                case rel => exact ⟨j + 1, _, by omega, by go_num, by rw [HSN.out]; exact H4.out, by rw [HSN.out, List.length_append]; simp; omega⟩
                case measure => simp [intOf]; omega
              · obtain rfl : j = nr := by omega
                have hall : pN d m j = pN d (m + 1) 0 := by rw [HNR.out]; exact HNX.out
                rw [hall] at HWj hlen2
                clear hall
                go_wp2
                go_roundw
                case rel => exact ⟨m + 1, _, by omega, by go_num, HWj.out, by omega⟩
                case measure => simp [intOf]; omega
          · obtain rfl : m = nm := by omega
            have hall : pN d m 0 = nodesN d := by rw [HN.out.mems]; exact pN_end d
            rw [hall] at HWm
            obtain ⟨w2, rfl⟩ : ∃ w1 : World, w1 = wr := ⟨_, rfl⟩
            have ok := HS.out.nodes
            have hnl : (nodesN d).length ≤ 2100 + 6 * m := by rw [← hall]; exact hlen
            obtain ⟨-, c9, -⟩ := HWm.out.c
            obtain ⟨A, cap, rfl, z1, z2⟩ := HWm.out.form
            obtain ⟨ls, hls⟩ : ∃ ls, ls = nodesN d := ⟨_, rfl⟩
            rw [← hls] at HWm z1 ok hnl c9
            obtain ⟨n, hn⟩ : ∃ n, n = ls.length := ⟨_, rfl⟩
            rw [← hn] at HWm z1 hnl c9
            have HN9 := Lib.hid hn
            have HLS := Lib.hid hls
            have HOK := Lib.hid ok
            have hofK0 : Hid ((fun (i : Nat) => ofK ls 0 (i : Int)) = fun _ => 0) := Lib.hid rfl
            clear hall hn hls ok hlen
            go_wp2
            clear c9 c6
            go_loopw [7, 8, 10, 79, 88] (fun _ _ _ i _ wr => ∃ k9 : Nat, k9 ≤ n ∧ i = .int .i64 k9 ∧ Wk wb d V (.slice ai ni ci) (.slice al nl cl) (.slice ao no co) (.slice ab nb cb) (.slice ac nc cc) (.slice am m cm) (.slice aa k ca) bw bo bm bl (.slice A n cap) ls (fun i => ofK ls k9 i) (fun _ => 0) (fun _ => 0) wr) (fun _ _ _ i _ _ => n - (intOf i).toNat)
            case atStart => exact ⟨0, Nat.zero_le _, rfl, HWm.out⟩
            case round =>
              obtain ⟨k9, hk9, rfl, hW⟩ := hrel
              have HW9 := Lib.hid hW
              clear hW
              by_cases hlt : (k9 : Int) < (n : Int)
              · have hkn : k9 < ls.length := by have := HN9.out; omega
                obtain ⟨g, cap', he, -, -, q0, q1, q2⟩ := HW9.out.node hkn
                injection he with e1 e2 e3
                subst e1
                have hxn : isNode d (ls.getD k9 node0) := by have := HLS.out; subst this; exact isNode_at hkn
                have hofk : Hid (∀ v : Int, ofK ls (k9 + 1) v = if v ∈ (ls.getD k9 node0).vars then k9 + 1 else ofK ls k9 v) := Lib.hid fun v => rfl
                have hvr : Hid (∀ v ∈ (ls.getD k9 node0).vars, 1 ≤ v ∧ v ≤ (V : Int)) := Lib.hid (HOK.out.vrng k9 hkn)
                obtain ⟨x, hx⟩ : ∃ x, x = ls.getD k9 node0 := ⟨_, rfl⟩
                rw [← hx] at q0 q1 q2 hxn hofk hvr
                have hto := topo_to (HW9.out.below (below_new1 wr (.cells #[.bool x.read, .int .i64 x.mem, .int .i64 x.pos] 117))) HL.out HS.out hxn
                unfold nodeV at hto
                have HTO := Lib.hid hto
                obtain ⟨rd, hrd⟩ : ∃ r, r = x.read := ⟨_, rfl⟩
                rw [← hrd] at q0 HTO
                clear hx hto hxn hkn e2 e3 hrd
                go_wp2_with (go_at_call 74; refine HTO.out.mono ?_; rintro e w5 ⟨u5, rfl, ho5⟩; obtain ⟨A5, cc5, rfl, z5, z6⟩ := ho5.form; have HO5 := Lib.hid ho5; clear ho5)
                have hwk5 := (HW9.out.below (below_new1 wr (.cells #[.bool rd, .int .i64 x.mem, .int .i64 x.pos] 117))).below HO5.out.2.1
                have hbo : Hid (∀ k, (Value.slice A5 x.vars.length cc5).ownBlock = some k → k ≠ bo) := Lib.hid fun k hk e => by
                  have h1 := HO5.out.2.2 k hk
                  have h2 := (HW9.out.below (below_new1 wr (.cells #[.bool rd, .int .i64 x.mem, .int .i64 x.pos] 117))).of_.lt
                  omega
                have hin5 := HO5.out.ints
                obtain ⟨xv, hxv⟩ : ∃ xv, xv = x.vars := ⟨_, rfl⟩
                rw [← hxv] at hofk hvr z5 hin5 hbo
                obtain ⟨nx, hnx⟩ : ∃ nx, nx = xv.length := ⟨_, rfl⟩
                rw [← hxv, ← hnx]
                rw [← hnx] at z5 hin5 hbo
                have HIN5 := Lib.hid hin5
                have HNX := Lib.hid hnx
                have HWK5 : Hid (Wk wb d V (.slice ai ni ci) (.slice al nl cl) (.slice ao no co) (.slice ab nb cb) (.slice ac nc cc) (.slice am m cm) (.slice aa k ca) bw bo bm bl (.slice (some ⟨g, 0, none⟩) n cap) ls (fun i => if (i : Int) ∈ xv.take 0 then k9 + 1 else ofK ls k9 i) (fun _ => 0) (fun _ => 0) w5) := Lib.hid (by simpa using hwk5)
                unfold maxLen at z6
                clear hwk5 hin5 hxv hnx q0 q1 q2 HTO
                have hk9b : k9 ≤ 3000 := by omega
                go_loopw [10, 88] (fun _ i wr => ∃ t : Nat, t ≤ nx ∧ i = .int .i64 t ∧ Wk wb d V (.slice ai ni ci) (.slice al nl cl) (.slice ao no co) (.slice ab nb cb) (.slice ac nc cc) (.slice am m cm) (.slice aa k ca) bw bo bm bl (.slice (some ⟨g, 0, none⟩) n cap) ls (fun i => if (i : Int) ∈ xv.take t then k9 + 1 else ofK ls k9 i) (fun _ => 0) (fun _ => 0) wr ∧ Ints wr (.slice A5 nx cc5) xv) (fun _ i _ => nx - (intOf i).toNat)
                case atStart => exact ⟨0, Nat.zero_le _, rfl, HWK5.out, HIN5.out⟩
                case round =>
                  obtain ⟨t, ht, rfl, hW, hI⟩ := hrel
                  have HWt := Lib.hid hW
                  have HIt := Lib.hid hI
                  clear hW hI
                  by_cases hltt : (t : Int) < (nx : Int)
                  · have htn : t < xv.length := by have := HNX.out; omega
                    have hii : xv = [] ∨ ∃ b off, A5 = some ⟨b, off, none⟩ ∧ ∀ j, j < xv.length → wr.cell? ⟨b, off + j, none⟩ = some (.int .i64 (xv.getD j 0)) := by
                      obtain ⟨a9, c9, e9, -, -, -, h9⟩ := HIt.out
                      injection e9 with e91 e92 e93
                      rw [e91]; exact h9
                    obtain ⟨b6, off6, rfl, hcs⟩ := hii.resolve_left (fun e => by rw [e] at htn; simp at htn)
                    have q := hcs t htn
                    have hv := hvr.out (xv.getD t 0) (mem_getD 0 htn)
                    have hts := take_snocI htn
                    obtain ⟨v, hv9⟩ : ∃ v, v = xv.getD t 0 := ⟨_, rfl⟩
                    rw [← hv9] at q hv hts
                    obtain ⟨vn, rfl⟩ : ∃ vn : Nat, v = vn := ⟨v.toNat, by omega⟩
                    have hvV : vn < V + 1 := by omega
                    obtain ⟨c8, -⟩ := HWt.out.c
                    have co' := HWt.out.of_.cell hvV
                    have fo' := HWt.out.of_.frozen vn
                    have HTS := Lib.hid hts
                    generalize (Value.int .i64 ((if ((vn : Nat) : Int) ∈ xv.take t then k9 + 1 else ofK ls k9 vn : Nat) : Int)) = old at co'
                    have hv1 : 0 ≤ (vn : Int) := by omega
                    have hv2 : (vn : Int) < (V : Int) + 1 := by omega
                    clear hcs hii hts hv9 htn hv
                    go_wp2
                    go_roundw
                    case rel =>
                      refine ⟨t + 1, by omega, by go_num, ?_, ?_⟩
                      · have h1 := HWt.out.setOf vn (k9 + 1)
                        have h2 := h1.ext (fo' := fun i => if (i : Int) ∈ xv.take (t + 1) then k9 + 1 else ofK ls k9 i) (fm' := fun _ => 0) (fl' := fun _ => 0) (fun i _ => by
                          rw [HTS.out]
                          by_cases e : i = vn
                          · subst e; simp
                          · have e2 : (i : Int) ≠ (vn : Int) := by omega
                            simp [e, e2]) (fun _ _ => rfl) (fun _ _ => rfl)
                        simpa using h2
                      · exact HIt.out.chg ((Chg.refl (fun k => k = bo) wr).setCell (p := ⟨bo, vn, none⟩) (.inl rfl) _) (fun k hk e => hbo.out k hk e)
                    case measure => simp [intOf]; omega
                  · obtain rfl : t = nx := by omega
                    have hfin : Hid (Wk wb d V (.slice ai ni ci) (.slice al nl cl) (.slice ao no co) (.slice ab nb cb) (.slice ac nc cc) (.slice am m cm) (.slice aa k ca) bw bo bm bl (.slice (some ⟨g, 0, none⟩) n cap) ls (fun i => ofK ls (k9 + 1) i) (fun _ => 0) (fun _ => 0) wr) := Lib.hid (HWt.out.ext (fun i _ => by
                      rw [List.take_of_length_le (by have := HNX.out; omega), ← hofk.out]) (fun _ _ => rfl) (fun _ _ => rfl))
                    go_wp2
                    go_roundw
                    case rel => exact ⟨k9 + 1, by omega, by go_num, hfin.out⟩
                    case measure => simp [intOf]; omega
              · obtain rfl : k9 = n := by omega
                have HF : Hid (RetW w d V (.slice ai ni ci) (.slice al nl cl) (.slice ao no co) (.slice ab nb cb) (.slice ac nc cc) (.slice am m cm) (.slice aa k ca) (.returned (.pointer (some ⟨bw, 0, none⟩))) wr) := Lib.hid (by
                  refine ⟨bw, bo, bm, bl, .slice A k9 cap, rfl, ?_⟩
                  have h1 := HW9.out.rebase HP0.out HB1.out
                  rw [← HLS.out]
                  unfold ofN
                  rw [← HN9.out]
                  exact h1)
                go_wp2
                go_ret
                exact HF.out
end Go.Proofs.YtlahecdpcpejpaaDoor
/-
  Package topo: visit's mark, walked; small laws.
-/
namespace Go.Proofs.YtlahecdpcpejpaaDoor
open Go.ChangeShapes Go.WideShapes Go.ChangeAt Go.RowKit
set_option linter.unusedVariables false
set_option linter.unusedSimpArgs false
attribute [local go_sem ↓] Go.wp_at_zero Go.wp_at_succ
theorem nodes_len {d : NetD} {V : Nat} (h : SoundD d V) : (nodesN d).length ≤ 2016 := by
  have h1 : ∀ (l : List MemD) (f : Nat → Nat), (∀ m ∈ l, m.rd.length ≤ 4) → (l.mapIdx fun i x => memNodes (f i) x).flatten.length ≤ 4 * l.length := by
    intro l
    induction l with
    | nil => intro f _; simp
    | cons a l ih =>
      intro f ha
      rw [List.mapIdx_cons, List.flatten_cons, List.length_append, List.length_cons]
      have := ih (fun i => f (i + 1)) (fun m hm => ha m (List.mem_cons_of_mem _ hm))
      have h2 := ha a (List.mem_cons_self ..)
      have h3 : (memNodes (f 0) a).length = a.rd.length := by simp [memNodes]
      omega
  have h2 : (d.mems.mapIdx memNodes).flatten.length ≤ 4 * d.mems.length := h1 d.mems id h.rds
  have h3 := h.ands
  have h4 := h.mems
  unfold nodesN
  rw [List.length_append, List.length_mapIdx]
  omega
open Classical in
/-- A variable's level, where there is one. -/
noncomputable def levOf (l : List NodeD) (v : Int) : Nat := if h : ∃ k, Lev l v k then h.choose else 0
theorem levOf_eq {l : List NodeD} {V : Nat} (ok : NodesOK l V) {v : Int} {k : Nat} (h : Lev l v k) : levOf l v = k := by
  have he : ∃ k, Lev l v k := ⟨k, h⟩
  unfold levOf
  rw [dif_pos he]
  exact he.choose_spec.uniq ok h
theorem ints_hii {w : World} {A : Option Addr} {n cap : Nat} {xs : List Int} (h : Ints w (.slice A n cap) xs) : n = xs.length ∧ (xs = [] ∨ ∃ b off, A = some ⟨b, off, none⟩ ∧ ∀ j, j < xs.length → w.cell? ⟨b, off + j, none⟩ = some (.int .i64 (xs.getD j 0))) := by
  obtain ⟨a9, c9, e9, -, -, -, h9⟩ := h
  injection e9 with e91 e92 e93
  rw [e91]; exact ⟨e92, h9⟩
theorem ints_cap {w : World} {A : Option Addr} {n cap : Nat} {xs : List Int} (h : Ints w (.slice A n cap) xs) : n ≤ cap ∧ cap ≤ 9223372036854775807 := by
  obtain ⟨a9, c9, e9, -, h1, h2, -⟩ := h
  injection e9 with e91 e92 e93
  unfold maxLen at h2
  subst e92 e93
  exact ⟨h1, by omega⟩
set_option maxHeartbeats 4000000 in
set_option maxRecDepth 100000 in
theorem mark_ {w0 W : World} {d : NetD} {V : Nat} {vi vl vo vb vc vm va : Value} {bw bo bm bl : Nat} {nv : Value} {ns : List NodeD} {fo fm fl : Nat → Nat} (h : Wk w0 d V vi vl vo vb vc vm va bw bo bm bl nv ns fo fm fl W)
    {b6 b2 : Nat} {A : Option Addr} {n cap : Nat} {xv : List Int} (h6 : Blk W b6 23 #[.slice A n cap]) (h2 : Blk W b2 87 #[.pointer (some ⟨bw, 0, none⟩)]) (hI : Ints W (.slice A n cap) xv) (hv : ∀ v ∈ xv, 1 ≤ v ∧ v ≤ (V : Int)) (n6 : b6 ≠ bm) (n2 : b2 ≠ bm)
    (nI : ∀ k, (Value.slice A n cap).ownBlock = some k → k ≠ bm) (hV : V ≤ 2000) (a : Nat) (ha : a ≤ 2) :
    Calls Tryd.prog 91 #[.int .u8 a, .pointer (some ⟨b6, 0, none⟩), .pointer (some ⟨b2, 0, none⟩)] W fun e w' => e = .returned (.tuple #[]) ∧ Wk w0 d V vi vl vo vb vc vm va bw bo bm bl nv ns fo (fun i => if (i : Int) ∈ xv then a else fm i) fl w' ∧ Chg (fun k => k = bm) W w' := by
  have k6 : W.cell? ⟨b6, 0, none⟩ = some (.slice A n cap) := h6.cell 0
  obtain ⟨hn, -⟩ := ints_hii hI
  obtain ⟨z1, z2⟩ := ints_cap hI
  have H := Lib.hid h
  have HI := Lib.hid hI
  have HV := Lib.hid hv
  have H2 := Lib.hid h2
  have N6 := Lib.hid n6
  have N2 := Lib.hid n2
  have NI := Lib.hid nI
  have HN := Lib.hid hn
  clear h hI hv h2 h6 n6 n2 nI hn
  go_enter Tryd.func91, Tryd.ntmps91
  go_wp2
  clear k6
  go_loopw [5, 8] (fun _ i wr => ∃ t : Nat, t ≤ n ∧ i = .int .i64 t ∧ Wk w0 d V vi vl vo vb vc vm va bw bo bm bl nv ns fo (fun i => if (i : Int) ∈ xv.take t then a else fm i) fl wr ∧ Chg (fun k => k = bm) W wr) (fun _ i _ => n - (intOf i).toNat)
  case atStart => exact ⟨0, Nat.zero_le _, rfl, by simpa using H.out, Chg.refl _ _⟩
  case round =>
    obtain ⟨t, ht, rfl, hW, hC⟩ := hrel
    have HW := Lib.hid hW
    have HC := Lib.hid hC
    by_cases hlt : (t : Int) < (n : Int)
    · have htn : t < xv.length := by have := HN.out; omega
      have hI2 := HI.out.chg hC (fun k hk e => NI.out k hk e)
      obtain ⟨-, hii⟩ := ints_hii hI2
      obtain ⟨b, off, rfl, hcs⟩ := hii.resolve_left (fun e => by rw [e] at htn; simp at htn)
      have q := hcs t htn
      have hv := HV.out (xv.getD t 0) (mem_getD 0 htn)
      have hts := take_snocI htn
      obtain ⟨v, hv9⟩ : ∃ v, v = xv.getD t 0 := ⟨_, rfl⟩
      rw [← hv9] at q hv hts
      obtain ⟨vn, rfl⟩ : ∃ vn : Nat, v = vn := ⟨v.toNat, by omega⟩
      have hvV : vn < V + 1 := by omega
      obtain ⟨-, -, c10, -⟩ := hW.c
      have k2 : wr.cell? ⟨b2, 0, none⟩ = some (.pointer (some ⟨bw, 0, none⟩)) := (H2.out.chg hC (fun e => N2.out e)).cell 0
      have cm' := hW.mks.cell hvV
      have fm' := hW.mks.frozen vn
      generalize (Value.int .u8 ((if ((vn : Nat) : Int) ∈ xv.take t then a else fm vn : Nat) : Int)) = old at cm'
      have HTS := Lib.hid hts
      have hv1 : 0 ≤ (vn : Int) := by omega
      have hv2 : (vn : Int) < (V : Int) + 1 := by omega
      clear hcs hii hts hv9 htn hv hW hC hI2
      go_wp2
      go_roundw
      case rel =>
        refine ⟨t + 1, by omega, by go_num, ?_, ?_⟩
        · have h1 := HW.out.setMk vn a
          have h2 := h1.ext (fo' := fo) (fm' := fun i => if (i : Int) ∈ xv.take (t + 1) then a else fm i) (fl' := fl) (fun _ _ => rfl) (fun i _ => by
            rw [HTS.out]
            by_cases e : i = vn
            · subst e; simp
            · have e2 : (i : Int) ≠ (vn : Int) := by omega
              simp [e, e2]) (fun _ _ => rfl)
          exact h2
        · exact HC.out.setCell (p := ⟨bm, vn, none⟩) (.inl rfl) _
      case measure => simp [intOf]; omega
    · obtain rfl : t = n := by omega
      clear hW hC
      go_wp2
      go_end0
      refine ⟨rfl, ?_, HC.out⟩
      have h1 := HW.out
      rw [List.take_of_length_le (by have := HN.out; omega)] at h1
      exact h1
end Go.Proofs.YtlahecdpcpejpaaDoor
