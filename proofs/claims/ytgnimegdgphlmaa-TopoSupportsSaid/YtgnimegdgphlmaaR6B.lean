/-
  The document's nodes: lists of them, of the call's own; Nodes, walked.
-/
import Derived.Test.YtgnimegdgphlmaaR6A
import Derived.Deep.RegionHeld3
namespace Go.Proofs.Ytgnimegdgphlmaa
open Go.ChangeShapes Go.WideShapes Go.ChangeAt Go.RowKit
set_option linter.unusedVariables false
set_option linter.unusedSimpArgs false
attribute [local go_sem ↓] Go.wp_at_zero Go.wp_at_succ
theorem infoN6 : (Try.prog.info? 46).map (fun i => (i.zero, i.size, i.bytes)) = some (some (.agg #[.bool false, .int .i64 0, .int .i64 0, .slice none 0 0, .slice none 0 0]), 5, 72) := by kernel_rfl
def ndC (x : NodeD) (p : Value × Value) : List Value := [.bool x.read, .int .i64 x.mem, .int .i64 x.pos, p.1, p.2]
def flat5 (ls : List NodeD) (us : List (Value × Value)) : List Value := (ls.zip us).flatMap fun q => ndC q.1 q.2
/-- What a slice of a node reads as, and that it does not lie in a block. -/
def InN (B C : Nat) (W : World) (v : Value) (u : Value) (xs : List Int) : Prop := Ints W u xs ∧ (xs ≠ [] → ∀ k, u.ownBlock = some k → v.ownBlock ≠ some k ∧ (k < B ∨ C ≤ k))
theorem ints_keep6 {w w' : World} {v : Value} {xs : List Int} {S : Nat → Prop} (h : Ints w v xs) (hc : Chg S w w') (hn : xs ≠ [] → ∀ b, v.ownBlock = some b → ¬ S b) : Ints w' v xs := by
  by_cases h0 : xs = []
  · obtain ⟨a, cap, e, h1, h2, h3, -⟩ := h
    exact ⟨a, cap, e, h1, h2, h3, .inl h0⟩
  · exact h.chg hc (hn h0)
/-- A list of nodes of the call's own. -/
structure NList (B C : Nat) (w0 W : World) (v : Value) (ls : List NodeD) (us : List (Value × Value)) : Prop where
  len : us.length = ls.length
  low : Below w0.heap.size w0 W
  row : Row W 46 5 v ls.length (flat5 ls us)
  own : ∀ k, v.ownBlock = some k → C ≤ k
  base : w0.heap.size ≤ C ∧ C ≤ W.heap.size
  each : ∀ j, j < ls.length → InN B C W v (us.getD j (undef, undef)).1 (ls.getD j node0).frm ∧ InN B C W v (us.getD j (undef, undef)).2 (ls.getD j node0).vars
theorem flat5_snoc {ls : List NodeD} {us : List (Value × Value)} (h : us.length = ls.length) (x : NodeD) (p : Value × Value) : flat5 (ls ++ [x]) (us ++ [p]) = flat5 ls us ++ ndC x p := by
  unfold flat5
  rw [List.zip_append h.symm, List.flatMap_append]
  simp
theorem flat5_len : ∀ {ls : List NodeD} {us : List (Value × Value)}, us.length = ls.length → (flat5 ls us).length = ls.length * 5
  | [], [], _ => rfl
  | [], _ :: _, h => by cases h
  | _ :: _, [], h => by cases h
  | x :: ls, p :: us, h => by
    have := flat5_len (ls := ls) (us := us) (by simpa using h)
    unfold flat5 at this ⊢
    rw [List.zip_cons_cons, List.flatMap_cons, List.length_append, this]
    simp [ndC]; omega
theorem flat5_at : ∀ {ls : List NodeD} {us : List (Value × Value)}, us.length = ls.length → ∀ k c, k < ls.length → c < 5 → (flat5 ls us).getD (k * 5 + c) undef = (ndC (ls.getD k node0) (us.getD k (undef, undef))).getD c undef
  | [], _, _, k, c, hk, _ => absurd hk (by simp)
  | _ :: _, [], h, _, _, _, _ => by cases h
  | x :: ls, p :: us, h, k, c, hk, hc => by
    unfold flat5
    rw [List.zip_cons_cons, List.flatMap_cons]
    cases k with
    | zero =>
      simp only [Nat.zero_mul, Nat.zero_add]
      match c, hc with
      | 0, _ => rfl
      | 1, _ => rfl
      | 2, _ => rfl
      | 3, _ => rfl
      | 4, _ => rfl
    | succ k =>
      have := flat5_at (ls := ls) (us := us) (by simpa using h) k c (by simpa using hk) hc
      have e : (k + 1) * 5 + c = (k * 5 + c) + 5 := by omega
      rw [e]
      unfold flat5 at this
      simp [ndC, List.getD] at this ⊢
      exact this
theorem NList.start (B : Nat) (w : World) : NList B w.heap.size w w (.slice none 0 0) [] [] := ⟨rfl, Below.refl _ _, World.ownsRow_nil _ _ _ _, (fun k hk => by simp [Value.ownBlock] at hk), ⟨Nat.le_refl _, Nat.le_refl _⟩, (fun j hj => absurd hj (by simp))⟩
theorem InN.below {B C : Nat} {W W' : World} {v u : Value} {xs : List Int} (h : InN B C W v u xs) (hb : Below W.heap.size W W') : InN B C W' v u xs := ⟨h.1.below hb, h.2⟩
theorem NList.below {B C : Nat} {w0 W W' : World} {v : Value} {ls : List NodeD} {us : List (Value × Value)} (h : NList B C w0 W v ls us) (hb : Below W.heap.size W W') : NList B C w0 W' v ls us :=
  ⟨h.len, h.low.trans (hb.mono h.low.size), h.row.chg (S := fun _ => False) (Chg.of_below hb) (fun _ _ h => h), h.own, ⟨h.base.1, Nat.le_trans h.base.2 hb.size⟩, fun j hj => ⟨(h.each j hj).1.below hb, (h.each j hj).2.below hb⟩⟩
theorem NList.app {B C : Nat} {w0 W W' : World} {v v' : Value} {ls : List NodeD} {us : List (Value × Value)} (h : NList B C w0 W v ls us) {x : NodeD} {p : Value × Value} (h1 : InN B C W v p.1 x.frm) (h2 : InN B C W v p.2 x.vars)
    (hp : AppPost W 46 5 v (ls.length + 1) (flat5 ls us ++ ndC x p) v' W') : NList B C w0 W' v' (ls ++ [x]) (us ++ [p]) := by
  obtain ⟨p1, p2, p3⟩ := hp
  have keep : ∀ {u : Value} {xs : List Int}, InN B C W v u xs → InN B C W' v' u xs := fun {u xs} hu => by
    refine ⟨ints_keep6 hu.1 p2 (fun hne k hk e => (hu.2 hne k hk).1 e), fun hne k hk => ⟨fun e => ?_, (hu.2 hne k hk).2⟩⟩
    rcases p3 with e3 | e3
    · exact (hu.2 hne k hk).1 (e3 ▸ e)
    · rw [e3] at e
      injection e with e
      have := ints_blk hu.1 hne k hk
      omega
  refine ⟨by rw [List.length_append, List.length_append, h.len]; rfl, h.low.trans (p2.below h.low.size (fun i hi => Nat.le_trans h.base.1 (h.own i hi))), by rw [flat5_snoc h.len, List.length_append]; exact p1, fun k hk => ?_, ⟨h.base.1, Nat.le_trans h.base.2 p2.size⟩, fun j hj => ?_⟩
  · rcases p3 with e | e
    · exact h.own k (e ▸ hk)
    · rw [e] at hk
      injection hk with hk
      have := h.base.2
      omega
  · rw [List.length_append] at hj
    simp at hj
    rcases Nat.lt_or_ge j ls.length with hlt | hge
    · have e1 : (us ++ [p]).getD j (undef, undef) = us.getD j (undef, undef) := by simp [List.getD, List.getElem?_append_left (show j < us.length by rw [h.len]; exact hlt)]
      have e2 : (ls ++ [x]).getD j node0 = ls.getD j node0 := by simp [List.getD, List.getElem?_append_left hlt]
      rw [e1, e2]
      exact ⟨keep (h.each j hlt).1, keep (h.each j hlt).2⟩
    · obtain rfl : j = ls.length := by omega
      have e1 : (us ++ [p]).getD ls.length (undef, undef) = p := by rw [← h.len]; simp [List.getD]
      have e2 : (ls ++ [x]).getD ls.length node0 = x := by simp [List.getD]
      rw [e1, e2]
      exact ⟨keep h1, keep h2⟩
theorem NList.form {B C : Nat} {w0 W : World} {v : Value} {ls : List NodeD} {us : List (Value × Value)} (h : NList B C w0 W v ls us) : ∃ A cap, v = .slice A ls.length cap ∧ ls.length ≤ cap ∧ cap ≤ 9223372036854775807 := by
  rcases h.row.form with ⟨h1, h0, -⟩ | ⟨g, cap, h1, h2, h3, -, hc⟩
  · exact ⟨none, 0, by rw [h1, h0], by omega, by omega⟩
  · unfold maxLen at h3; exact ⟨_, cap, h1, h2, by omega⟩
/-- Where a node lies. -/
theorem NList.node {B C : Nat} {w0 W : World} {v : Value} {ls : List NodeD} {us : List (Value × Value)} (h : NList B C w0 W v ls us) {k : Nat} (hk : k < ls.length) : ∃ g cap, v = .slice (some ⟨g, 0, none⟩) ls.length cap ∧ ls.length ≤ cap ∧ cap ≤ 9223372036854775807 ∧
    W.cell? ⟨g, k * 5, none⟩ = some (.bool (ls.getD k node0).read) ∧ W.cell? ⟨g, k * 5 + 1, none⟩ = some (.int .i64 (ls.getD k node0).mem) ∧ W.cell? ⟨g, k * 5 + 2, none⟩ = some (.int .i64 (ls.getD k node0).pos) ∧
    W.cell? ⟨g, k * 5 + 3, none⟩ = some (us.getD k (undef, undef)).1 ∧ W.cell? ⟨g, k * 5 + 4, none⟩ = some (us.getD k (undef, undef)).2 ∧ InN B C W v (us.getD k (undef, undef)).1 (ls.getD k node0).frm ∧ InN B C W v (us.getD k (undef, undef)).2 (ls.getD k node0).vars := by
  rcases h.row.form with ⟨-, h0, -⟩ | ⟨g, cap, h1, h2, h3, -, hc⟩
  · omega
  · have hl := flat5_len h.len
    unfold maxLen at h3
    obtain ⟨e1, e2⟩ := h.each k hk
    refine ⟨g, cap, h1, h2, by omega, ?_, ?_, ?_, ?_, ?_, e1, e2⟩
    · have := (hc (k * 5) (by omega)).1
      rw [show k * 5 = k * 5 + 0 by omega, flat5_at h.len k 0 hk (by omega)] at this
      exact this
    · rw [(hc (k * 5 + 1) (by omega)).1, flat5_at h.len k 1 hk (by omega)]; rfl
    · rw [(hc (k * 5 + 2) (by omega)).1, flat5_at h.len k 2 hk (by omega)]; rfl
    · rw [(hc (k * 5 + 3) (by omega)).1, flat5_at h.len k 3 hk (by omega)]; rfl
    · rw [(hc (k * 5 + 4) (by omega)).1, flat5_at h.len k 4 hk (by omega)]; rfl
theorem NList.rebase {B C : Nat} {w w0 W : World} {v : Value} {ls : List NodeD} {us : List (Value × Value)} (h : NList B C w0 W v ls us) (hb : Below w.heap.size w w0) : NList B C w W v ls us :=
  ⟨h.len, hb.trans (h.low.mono hb.size), h.row, h.own, ⟨Nat.le_trans hb.size h.base.1, h.base.2⟩, h.each⟩
theorem NList.weaken {B C : Nat} {w W : World} {v : Value} {ls : List NodeD} {us : List (Value × Value)} (h : NList B C w W v ls us) {C' : Nat} (h1 : w.heap.size ≤ C') (h2 : C' ≤ C) : NList B C' w W v ls us :=
  ⟨h.len, h.low, h.row, fun k hk => Nat.le_trans h2 (h.own k hk), ⟨h1, Nat.le_trans h2 h.base.2⟩, fun j hj => ⟨⟨(h.each j hj).1.1, fun hne k hk => ⟨((h.each j hj).1.2 hne k hk).1, ((h.each j hj).1.2 hne k hk).2.imp id (Nat.le_trans h2)⟩⟩, ⟨(h.each j hj).2.1, fun hne k hk => ⟨((h.each j hj).2.2 hne k hk).1, ((h.each j hj).2.2 hne k hk).2.imp id (Nat.le_trans h2)⟩⟩⟩⟩
/-- What a store elsewhere leaves. -/
theorem NList.chg {B C : Nat} {w0 W W' : World} {v : Value} {ls : List NodeD} {us : List (Value × Value)} {S : Nat → Prop} (h : NList B C w0 W v ls us) (hc : Chg S W W') (hS : ∀ k, S k → B ≤ k ∧ k < C) (hl : Below w0.heap.size w0 W') : NList B C w0 W' v ls us := by
  have keep : ∀ {u : Value} {xs : List Int}, InN B C W v u xs → InN B C W' v u xs := fun {u xs} hu =>
    ⟨ints_keep6 hu.1 hc (fun hne k hk e => by have h1 := (hu.2 hne k hk).2; have h2 := hS k e; omega), hu.2⟩
  exact ⟨h.len, hl, h.row.chg hc (fun g hg e => by have h1 := h.own g hg; have h2 := hS g e; omega), h.own, ⟨h.base.1, Nat.le_trans h.base.2 hc.size⟩, fun j hj => ⟨keep (h.each j hj).1, keep (h.each j hj).2⟩⟩
theorem src5 {w : World} (b : Bool) (m p : Int) (u3 u4 : Value) : Src (w.alloc (.cells #[.bool b, .int .i64 m, .int .i64 p, u3, u4] 46)) (some ⟨w.heap.size, 0, none⟩) 5 1 [.bool b, .int .i64 m, .int .i64 p, u3, u4] := by
  refine ⟨rfl, fun _ => ⟨w.heap.size, 0, rfl, fun j u hu => ?_⟩⟩
  have hB : Blk (w.alloc (.cells #[.bool b, .int .i64 m, .int .i64 p, u3, u4] 46)) w.heap.size 46 #[.bool b, .int .i64 m, .int .i64 p, u3, u4] := Blk.new w _ _
  rw [Nat.zero_add, hB.cell j]
  match j, hu with
  | 0, hu => exact hu
  | 1, hu => exact hu
  | 2, hu => exact hu
  | 3, hu => exact hu
  | 4, hu => exact hu
theorem row_lt {B C : Nat} {w0 W : World} {v : Value} {ls : List NodeD} {us : List (Value × Value)} (h : NList B C w0 W v ls us) : ∀ k, v.ownBlock = some k → k < W.heap.size := fun k hk => h.row.lt k hk
/-- The list of a netlist's nodes is told. -/
def RetL (B : Nat) (w : World) (ls : List NodeD) (e : Ending) (w' : World) : Prop := ∃ v us, e = .returned v ∧ NList B w.heap.size w w' v ls us
set_option maxHeartbeats 8000000 in
set_option maxRecDepth 100000 in
theorem r06_Nodes {wN w : World} {d : NetD} {vi vl vo vb vc vm va : Value} (h0 : NetP wN d vi vl vo vb vc vm va) (hwN : Below wN.heap.size wN w) (hl0 : lightN d = true) :
    Calls Try.prog 18 #[netV d vi vl vo vb vc vm va] w (RetL wN.heap.size w (nodesN d)) := by
  have h := h0.below hwN
  obtain ⟨hl, hm⟩ := lightN_iff hl0
  obtain ⟨ai, ci, ni, al, cl, nl, ao, co, no, ab, cb, nb, ac, cc, nc, am, cm, nm, aa, ca, na, rfl, rfl, rfl, rfl, rfl, rfl, rfl, HN, HC⟩ := h.open_ hl
  obtain ⟨-, -, -, -, -, ⟨m1, m2, m3⟩, ⟨a1, a2, a3⟩⟩ := HC
  obtain ⟨wb, hwb⟩ : ∃ wb, wb = w.alloc (.cells #[.int .i64 d.vars, .slice ai ni ci, .slice al nl cl, .slice ao no co, .slice ab nb cb, .slice ac nc cc, .slice am nm cm, .slice aa na ca] 27) := ⟨_, rfl⟩
  obtain ⟨bx, hbx⟩ : ∃ bx, bx = w.heap.size := ⟨_, rfl⟩
  have HB1 : Hid (Below w.heap.size w wb) := Lib.hid (by rw [hwb]; exact below_new1 w _)
  have HBX : Hid (NBox wb bx d (.slice ai ni ci) (.slice al nl cl) (.slice ao no co) (.slice ab nb cb) (.slice ac nc cc) (.slice am nm cm) (.slice aa na ca)) := Lib.hid (by rw [hwb, hbx]; exact NBox.new w _ _ _ _ _ _ _ _)
  have HP := Lib.hid (h.below HB1.out)
  have HP0 := Lib.hid h0
  have HWN := Lib.hid (hwN.trans (HB1.out.mono hwN.size))
  have HM := Lib.hid hm
  have HW1 := Lib.hid hwb
  have HBE := Lib.hid hbx
  unfold netV
  clear h h0 hwN hl0 hl hm hwb hbx
  go_enter Try.func18, Try.ntmps18
  go_wp2
  rw [← HW1.out, ← HBE.out]
  go_loopw [3, 4, 5] (fun v i _ wr => ∃ k : Nat, ∃ us, k ≤ na ∧ i = .int .i64 k ∧ NList wN.heap.size wb.heap.size wb wr v (pA d k) us) (fun _ i _ _ => na - (intOf i).toNat)
  case atStart => exact ⟨0, [], Nat.zero_le _, rfl, by rw [show pA d 0 = [] from by unfold pA; simp]; exact NList.start _ wb⟩
  case round =>
    obtain ⟨k, us, hk, rfl, hL⟩ := hrel
    have c7 := (HBX.out.later hL.low).c7
    have HL := Lib.hid hL
    clear hL
    by_cases hlt : (k : Int) < (na : Int)
    · have hkn : k < d.ands.length := by have := HN.out.ands; omega
      obtain ⟨b, off, cap', he, hone⟩ := HP.out.ands.at_ hkn
      injection he with e1 e2 e3
      subst e1
      obtain ⟨q0, q1, q2⟩ := hone
      replace q0 := cell_below q0 HL.out.low
      replace q1 := cell_below q1 HL.out.low
      replace q2 := cell_below q2 HL.out.low
      have hsn := pA_succ hkn
      obtain ⟨y, hy⟩ : ∃ y, y = d.ands.getD k tri0 := ⟨_, rfl⟩
      rw [← hy] at q0 q1 q2 hsn
      obtain ⟨y1, y2, y3⟩ := y
      have HSN := Lib.hid hsn
      obtain ⟨A, cap, hvv, z1, z2⟩ := HL.out.form
      obtain ⟨n9, hn9⟩ : ∃ n9, n9 = (pA d k).length := ⟨_, rfl⟩
      have hn9k : n9 ≤ 2100 := by rw [hn9]; unfold pA; simp; omega
      rw [← hn9] at hvv z1
      subst hvv
      have HN9 := Lib.hid hn9
      have hb4 : Below wr.heap.size wr ((((wr.alloc (.cells #[.int .i64 y1, .int .i64 y2, .int .i64 y3] 59)).alloc (.cells #[.int .i64 y2, .int .i64 y3] 3)).alloc (.cells #[.int .i64 y1] 3)).alloc (.cells #[.bool false, .int .i64 0, .int .i64 k, .slice (some ⟨wr.heap.size + 1, 0, none⟩) 2 2, .slice (some ⟨wr.heap.size + 1 + 1, 0, none⟩) 1 1] 46)) :=
        ((((Below.refl _ wr).alloc (Nat.le_refl _) _).alloc (by simp) _).alloc (by simp; omega) _).alloc (by simp; omega) _
      have hNL := HL.out.below hb4
      have hi1 : InN wN.heap.size wb.heap.size ((((wr.alloc (.cells #[.int .i64 y1, .int .i64 y2, .int .i64 y3] 59)).alloc (.cells #[.int .i64 y2, .int .i64 y3] 3)).alloc (.cells #[.int .i64 y1] 3)).alloc (.cells #[.bool false, .int .i64 0, .int .i64 k, .slice (some ⟨wr.heap.size + 1, 0, none⟩) 2 2, .slice (some ⟨wr.heap.size + 1 + 1, 0, none⟩) 1 1] 46)) (.slice A n9 cap) (.slice (some ⟨wr.heap.size + 1, 0, none⟩) 2 2) [y2, y3] := by
        have h1 := ints_two (wr.alloc (.cells #[.int .i64 y1, .int .i64 y2, .int .i64 y3] 59)) y2 y3
        rw [World.size_alloc] at h1
        refine ⟨h1.below (((Below.refl _ _).alloc (Nat.le_refl _) _).alloc (by simp) _), fun _ q hq => ?_⟩
        simp [Value.ownBlock] at hq
        refine ⟨fun e => ?_, .inr (by have := HL.out.low.size; omega)⟩
        have h2 := row_lt HL.out q e
        omega
      have hi2 : InN wN.heap.size wb.heap.size ((((wr.alloc (.cells #[.int .i64 y1, .int .i64 y2, .int .i64 y3] 59)).alloc (.cells #[.int .i64 y2, .int .i64 y3] 3)).alloc (.cells #[.int .i64 y1] 3)).alloc (.cells #[.bool false, .int .i64 0, .int .i64 k, .slice (some ⟨wr.heap.size + 1, 0, none⟩) 2 2, .slice (some ⟨wr.heap.size + 1 + 1, 0, none⟩) 1 1] 46)) (.slice A n9 cap) (.slice (some ⟨wr.heap.size + 1 + 1, 0, none⟩) 1 1) [y1] := by
        have h1 := ints_one ((wr.alloc (.cells #[.int .i64 y1, .int .i64 y2, .int .i64 y3] 59)).alloc (.cells #[.int .i64 y2, .int .i64 y3] 3)) y1
        rw [World.size_alloc, World.size_alloc] at h1
        refine ⟨h1.below ((Below.refl _ _).alloc (Nat.le_refl _) _), fun _ q hq => ?_⟩
        simp [Value.ownBlock] at hq
        refine ⟨fun e => ?_, .inr (by have := HL.out.low.size; omega)⟩
        have h2 := row_lt HL.out q e
        omega
      have HNL := Lib.hid hNL
      have HI1 := Lib.hid hi1
      have HI2 := Lib.hid hi2
      have HRW := Lib.hid hNL.row
      rw [← hn9] at HRW
      have hsrc : Src ((((wr.alloc (.cells #[.int .i64 y1, .int .i64 y2, .int .i64 y3] 59)).alloc (.cells #[.int .i64 y2, .int .i64 y3] 3)).alloc (.cells #[.int .i64 y1] 3)).alloc (.cells #[.bool false, .int .i64 0, .int .i64 k, .slice (some ⟨wr.heap.size + 1, 0, none⟩) 2 2, .slice (some ⟨wr.heap.size + 1 + 1, 0, none⟩) 1 1] 46)) (some ⟨wr.heap.size + 1 + 1 + 1, 0, none⟩) 5 1 [.bool false, .int .i64 0, .int .i64 k, .slice (some ⟨wr.heap.size + 1, 0, none⟩) 2 2, .slice (some ⟨wr.heap.size + 1 + 1, 0, none⟩) 1 1] := by
        have h1 := src5 (w := ((wr.alloc (.cells #[.int .i64 y1, .int .i64 y2, .int .i64 y3] 59)).alloc (.cells #[.int .i64 y2, .int .i64 y3] 3)).alloc (.cells #[.int .i64 y1] 3)) false 0 k (.slice (some ⟨wr.heap.size + 1, 0, none⟩) 2 2) (.slice (some ⟨wr.heap.size + 1 + 1, 0, none⟩) 1 1)
        simpa using h1
      have HSRC := Lib.hid hsrc
      clear hsn hy e2 e3 hkn hn9 hb4 hNL hi1 hi2 hsrc
      go_wp2_with (at_builtin; refine wpList_appS rfl _ _ 40 rfl 46 (.agg #[.bool false, .int .i64 0, .int .i64 0, .slice none 0 0, .slice none 0 0]) 5 72 Try.underlying40 infoN6 rfl (by decide) (.slice A n9 cap) n9 (flat5 (pA d k) us) rfl HRW.out (some ⟨wr.heap.size + 1 + 1 + 1, 0, none⟩) 1 1 [.bool false, .int .i64 0, .int .i64 k, .slice (some ⟨wr.heap.size + 1, 0, none⟩) 2 2, .slice (some ⟨wr.heap.size + 1 + 1, 0, none⟩) 1 1] rfl HSRC.out ?h1 ?h2 ?h3 ?_; (case h1 => (intro u hu; simp at hu; rcases hu with rfl | rfl | rfl | rfl | rfl <;> rfl)); (case h2 => (unfold maxLen; omega)); (case h3 => omega); intro v4 w4 h4; have H4 := Lib.hid h4; clear h4)
      go_roundw
      case rel =>
        refine ⟨k + 1, us ++ [(.slice (some ⟨wr.heap.size + 1, 0, none⟩) 2 2, .slice (some ⟨wr.heap.size + 1 + 1, 0, none⟩) 1 1)], by omega, by go_num, ?_⟩
        rw [HSN.out]
        exact HNL.out.app (x := andNode k (y1, y2, y3)) HI1.out HI2.out (by rw [← HN9.out]; exact H4.out)
      case measure => simp [intOf]; omega
    · obtain rfl : k = na := by omega
      have hall : pA d k = pN d 0 0 := by rw [HN.out.ands]; exact pA_end
      rw [hall] at HL
      have HL0 : Hid ((pN d 0 0).length ≤ 2100 + 6 * 0) := Lib.hid (by rw [← hall]; unfold pA; simp; omega)
      obtain ⟨w1, rfl⟩ : ∃ w1 : World, w1 = wr := ⟨_, rfl⟩
      clear hall
      go_wp2
      clear c7
      go_loopw [3, 6, 7] (fun v i _ wr => ∃ m : Nat, ∃ us, m ≤ nm ∧ i = .int .i64 m ∧ NList wN.heap.size wb.heap.size wb wr v (pN d m 0) us ∧ (pN d m 0).length ≤ 2100 + 6 * m) (fun _ i _ _ => nm - (intOf i).toNat)
      case atStart => exact ⟨0, _, Nat.zero_le _, rfl, HL.out, HL0.out⟩
      case round =>
        obtain ⟨m, us, hm9, rfl, hLm, hlen⟩ := hrel
        have HLm := Lib.hid hLm
        clear hLm
        have c6 := (HBX.out.later HLm.out.low).c6
        by_cases hlt : (m : Int) < (nm : Int)
        · have hmn : m < d.mems.length := by have := HN.out.mems; omega
          obtain ⟨b, off, cap', he, hmem⟩ := HP0.out.mems.at_ hmn
          injection he with e1 e2 e3
          subst e1
          have hlm := liM_parts (HM.out m hmn)
          have HNX := Lib.hid (pN_next hmn)
          have HPS := Lib.hid (fun i => pN_succ (d := d) (m := m) (i := i))
          obtain ⟨mm, hmm⟩ : ∃ mm, mm = d.mems.getD m mem0 := ⟨_, rfl⟩
          rw [← hmm] at hmem hlm HNX HPS
          obtain ⟨u1, u2, y0, y1, y2, y3, y4, hmv⟩ := hmem.val
          obtain ⟨ra, rc, nr, wa, wc, nw, hag, hnr, hnw, r1, r2, q1, q2, HSR, -⟩ := hmv.open_
          injection hag with hag
          simp only [Array.mk.injEq, List.cons.injEq, true_and, and_true] at hag
          obtain ⟨rfl, rfl⟩ := hag
          have HY := Lib.hid (And.intro y0 (And.intro y1 (And.intro y2 (And.intro y3 y4))))
          have HMV := Lib.hid hmv
          have HLM := Lib.hid hlm
          replace y3 := cell_below y3 (HWN.out.trans (HLm.out.low.mono HWN.out.size))
          have hr6 : nr ≤ 6 := by have := of_decide_eq_true hlm.1; omega
          have hm4 : m ≤ 6 := by omega
          have HNR := Lib.hid hnr
          have HC6 : Hid (∀ W, Below wb.heap.size wb W → W.cell? ⟨bx, 6, none⟩ = some (.slice (some ⟨b, off, none⟩) nm cm)) := Lib.hid fun W hW => (HBX.out.later hW).c6
          obtain ⟨wp, rfl⟩ : ∃ wp : World, wp = wr := ⟨_, rfl⟩
          clear hmm hlm hmem hnr hnw q1 q2 e2 e3 hmn hmv y0 y1 y2 y4
          go_wp2
          clear c6 y3
          go_loopw [3, 7] (fun v i wr => ∃ j : Nat, ∃ us, j ≤ nr ∧ i = .int .i64 j ∧ NList wN.heap.size wb.heap.size wb wr v (pN d m j) us ∧ (pN d m j).length ≤ 2100 + 6 * m + j) (fun _ i _ => nr - (intOf i).toNat)
          case atStart => exact ⟨0, _, Nat.zero_le _, rfl, HLm.out, hlen⟩
          case round =>
            obtain ⟨j, us2, hj9, rfl, hLj, hlen2⟩ := hrel
            have HLj := Lib.hid hLj
            clear hLj
            have c6 := HC6.out wr HLj.out.low
            obtain ⟨y0, y1, y2, y3, y4⟩ := HY.out
            replace y0 := cell_below y0 (HWN.out.trans (HLj.out.low.mono HWN.out.size))
            replace y1 := cell_below y1 (HWN.out.trans (HLj.out.low.mono HWN.out.size))
            replace y2 := cell_below y2 (HWN.out.trans (HLj.out.low.mono HWN.out.size))
            replace y3 := cell_below y3 (HWN.out.trans (HLj.out.low.mono HWN.out.size))
            replace y4 := cell_below y4 (HWN.out.trans (HLj.out.low.mono HWN.out.size))
            by_cases hltj : (j : Int) < (nr : Int)
            · have hjn : j < mm.rd.length := by have := HNR.out; omega
              have hsn := HPS.out j hjn
              have HSN := Lib.hid hsn
              obtain ⟨b2, off2, cap2, he, hone⟩ := HSR.out.at_ hjn
              injection he with e1 e2 e3
              subst e1
              obtain ⟨-, u5, qs, hin⟩ := hone
              have qs0 := qs
              replace qs := cell_below qs (HWN.out.trans (HLj.out.low.mono HWN.out.size))
              have hlr := of_decide_eq_true (HLM.out.2.1 j hjn)
              have hblk := fun hne => ints_blk hin hne
              have hin' := hin.below (HWN.out.trans (HLj.out.low.mono HWN.out.size))
              obtain ⟨A5, cc5, rfl, -⟩ := id hin
              generalize (mm.rd.getD j rd0).2.length = n5 at qs qs0 hin' hblk hin
              have hD : ∀ W, Below wr.heap.size wr W → Calls Try.prog 19 #[.agg #[.int .i64 mm.addr, .int .i64 mm.word, .bool mm.any, .slice (some ⟨b2, off2, none⟩) nr rc, .slice wa nw wc], .int .i64 j] W (RetI W (dataM (mm.rd.getD j rd0).1 mm.word)) := fun W hW =>
                r05_Data (HMV.out.below ((HWN.out.trans (HLj.out.low.mono HWN.out.size)).trans (hW.mono (HWN.out.trans (HLj.out.low.mono HWN.out.size)).size))) HLM.out.1 hjn ⟨hlr.2.2, hlr.2.1⟩
              obtain ⟨xv, hxv⟩ : ∃ xv, xv = dataM (mm.rd.getD j rd0).1 mm.word := ⟨_, rfl⟩
              rw [← hxv] at hD
              obtain ⟨n6, hn6⟩ : ∃ n6, n6 = xv.length := ⟨_, rfl⟩
              have HN6 := Lib.hid hn6
              have HXV := Lib.hid hxv
              have HD := Lib.hid hD
              obtain ⟨A, cap, hvv, z1, z2⟩ := HLj.out.form
              obtain ⟨n9, hn9⟩ : ∃ n9, n9 = (pN d m j).length := ⟨_, rfl⟩
              have hn9k : n9 ≤ 100000 := by omega
              rw [← hn9] at hvv z1
              subst hvv
              have HN9 := Lib.hid hn9
              have HIN := Lib.hid hin'
              have HBK : Hid ((mm.rd.getD j rd0).2 ≠ [] → ∀ k, (Value.slice A5 n5 cc5).ownBlock = some k → (Value.slice A n9 cap).ownBlock ≠ some k ∧ (k < wN.heap.size ∨ wb.heap.size ≤ k)) := Lib.hid fun hne k hk => by
                have h1 := hblk hne k hk
                refine ⟨fun e => ?_, .inl h1⟩
                have h2 := HLj.out.own k e
                have h3 := HWN.out.size
                omega
              have hj6 : (j : Int) ≤ 6 := by omega
              have hm6 : (m : Int) ≤ 6 := by omega
              have CK : Hid (∀ W, Below wb.heap.size wb W → W.cell? ⟨bx, 6, none⟩ = some (.slice (some ⟨b, off, none⟩) nm cm) ∧ W.cell? ⟨b, off + m * 5 + 3, none⟩ = some (.slice (some ⟨b2, off2, none⟩) nr rc) ∧ W.cell? ⟨b2, off2 + j * 2 + 1, none⟩ = some (.slice A5 n5 cc5) ∧ W.cell? ⟨b, off + m * 5, none⟩ = some (.int .i64 mm.addr) ∧ W.cell? ⟨b, off + m * 5 + 1, none⟩ = some (.int .i64 mm.word) ∧ W.cell? ⟨b, off + m * 5 + 2, none⟩ = some (.bool mm.any) ∧ W.cell? ⟨b, off + m * 5 + 4, none⟩ = some (.slice wa nw wc)) := Lib.hid fun W hW =>
                by
                have hW' := HWN.out.trans (hW.mono HWN.out.size)
                exact ⟨HC6.out W hW, cell_below HY.out.2.2.2.1 hW', cell_below qs0 hW', cell_below HY.out.1 hW', cell_below HY.out.2.1 hW', cell_below HY.out.2.2.1 hW', cell_below HY.out.2.2.2.2 hW'⟩
              have HDR : Hid (Below wr.heap.size wr wr.drew) := Lib.hid (Below.refl _ _).drew
              clear hsn hjn hn9 hin hin' hblk hlr hD e2 e3 hn6 hxv qs0
              go_wp2
              go_region_held3 (fun w' => w'.cell? ⟨bx, 6, none⟩ = some (.slice (some ⟨b, off, none⟩) nm cm) ∧ w'.cell? ⟨b, off + m * 5 + 3, none⟩ = some (.slice (some ⟨b2, off2, none⟩) nr rc) ∧ w'.cell? ⟨b2, off2 + j * 2 + 1, none⟩ = some (.slice A5 n5 cc5) ∧ w'.cell? ⟨b, off + m * 5, none⟩ = some (.int .i64 mm.addr) ∧ w'.cell? ⟨b, off + m * 5 + 1, none⟩ = some (.int .i64 mm.word) ∧ w'.cell? ⟨b, off + m * 5 + 2, none⟩ = some (.bool mm.any) ∧ w'.cell? ⟨b, off + m * 5 + 4, none⟩ = some (.slice wa nw wc)) (go_keep) (first
                | (go_at_call 19; (with_reducible refine (HD.out wr.drew HDR.out).mono ?_); rintro e w5 ⟨u6, rfl, ho5⟩; obtain ⟨A6, cc6, rfl, -, -⟩ := ho5.form; rw [← HN6.out] at ho5 ⊢; have HO5 := Lib.hid ho5; obtain ⟨g1, g2, g3, g4, g5, g6, g7⟩ := CK.out w5 (HLj.out.below (HDR.out.trans ho5.2.1)).low; have HNL := Lib.hid ((HLj.out.below (HDR.out.trans ho5.2.1)).below (below_new1 w5 (.cells #[.bool true, .int .i64 m, .int .i64 j, .slice A5 n5 cc5, .slice A6 n6 cc6] 46))); have HRW := Lib.hid HNL.out.row; rw [← HN9.out] at HRW; have HSRC := Lib.hid (src5 (w := w5) true m j (.slice A5 n5 cc5) (.slice A6 n6 cc6)); clear ho5)
                | (refine step_appS rfl (.tmp 51) (.tmp 72) 40 rfl 46 (.agg #[.bool false, .int .i64 0, .int .i64 0, .slice none 0 0, .slice none 0 0]) 5 72 Try.underlying40 infoN6 rfl (by decide) (.slice A n9 cap) n9 (flat5 (pN d m j) us2) (by simp [Act.eval]) HRW.out (some ⟨w5.heap.size, 0, none⟩) 1 1 [.bool true, .int .i64 m, .int .i64 j, .slice A5 n5 cc5, .slice A6 n6 cc6] (by simp [Act.eval]) HSRC.out ?h1 ?h2 ?h3 ?_; (case h1 => (intro u hu; simp at hu; rcases hu with rfl | rfl | rfl | rfl | rfl <;> rfl)); (case h2 => (unfold maxLen; omega)); (case h3 => omega); intro v4 w4 h4; obtain ⟨k1, k2, k3, k4, k5, k6, k7⟩ := CK.out w4 (HNL.out.low.trans (h4.2.1.below HNL.out.low.size (fun i hi => HNL.out.own i hi))); have H4 := Lib.hid h4; clear h4))
              clear k1 k2 k3 k4 k5 k6 k7 g1 g2 g3 g4 g5 g6 g7 y0 y1 y2 y3 y4 c6 qs
              go_wp2
              go_roundw
              case rel =>
                refine ⟨j + 1, us2 ++ [(.slice A5 n5 cc5, .slice A6 n6 cc6)], by omega, by go_num, ?_, by rw [HSN.out, List.length_append]; simp; omega⟩
                rw [HSN.out]
                have hb5 : Below w5.heap.size w5 (w5.alloc (.cells #[.bool true, .int .i64 m, .int .i64 j, .slice A5 n5 cc5, .slice A6 n6 cc6] 46)) := below_new1 w5 _
                refine HNL.out.app (x := rdNode m mm.word j (mm.rd.getD j rd0)) ⟨(HIN.out.below (HDR.out.trans HO5.out.2.1)).below hb5, HBK.out⟩ ⟨?_, fun _ q hq => ⟨fun e => ?_, .inr (by have h1 := HO5.out.2.2 q hq; have h3 := HDR.out.size; have h4 := HLj.out.low.size; omega)⟩⟩ (by rw [← HN9.out]; exact H4.out)
                · have h1 := HO5.out.ints.below hb5
                  rw [HXV.out] at h1
                  exact h1
                · have h1 := HO5.out.2.2 q hq
                  have h2 := row_lt HLj.out q (by rw [← HN9.out] at *; exact e)
                  have h3 := HDR.out.size
                  omega
              case measure => simp [intOf]; omega
            · obtain rfl : j = nr := by omega
              have hall : pN d m j = pN d (m + 1) 0 := by rw [HNR.out]; exact HNX.out
              rw [hall] at HLj hlen2
              clear hall
              go_wp2
              go_roundw
              case rel => exact ⟨m + 1, _, by omega, by go_num, HLj.out, by omega⟩
              case measure => simp [intOf]; omega
        · obtain rfl : m = nm := by omega
          have hall : pN d m 0 = nodesN d := by rw [HN.out.mems]; exact pN_end d
          rw [hall] at HLm
          have HF : Hid (RetL wN.heap.size w (nodesN d) (.returned u3) wr) := Lib.hid ⟨_, us, rfl, (HLm.out.rebase HB1.out).weaken (Nat.le_refl _) HB1.out.size⟩
          go_wp2
          go_ret
          exact HF.out
end Go.Proofs.Ytgnimegdgphlmaa
