/-
  The document's nodes: level, walked.
-/
import Derived.Test.YtlahecdpcpejpaaDoorTopW
import Derived.Deep.RegionHeld3
import Derived.Test.YtlahecdpcpejpaaDoorNetJ
namespace Go.Proofs.YtlahecdpcpejpaaDoor
open Go.ChangeShapes Go.WideShapes Go.ChangeAt Go.RowKit
set_option linter.unusedVariables false
set_option linter.unusedSimpArgs false
attribute [local go_sem ↓] Go.wp_at_zero Go.wp_at_succ
theorem told1_no {frm : List Int} {o : Int → Int} {j : Nat} (hj : j < frm.length) (h : o (frm.getD j 0 / 2) < 0) : told1 frm o = -1 := by
  unfold told1
  rw [if_pos]
  exact List.any_eq_true.2 ⟨_, mem_getD 0 hj, decide_eq_true h⟩
theorem told1_yes {frm : List Int} {o : Int → Int} (h : ∀ y ∈ frm, 0 ≤ o (y / 2)) : told1 frm o = (mx frm (fun y => (o (y / 2)).toNat) : Int) + 1 := by
  unfold told1
  rw [if_neg]
  intro h0
  obtain ⟨y, hy, hyo⟩ := List.any_eq_true.1 h0
  have := of_decide_eq_true hyo
  have := h y hy
  omega
set_option maxHeartbeats 2000000 in
theorem r06_level {w : World} {x : NodeD} {u3 u4 : Value} (h3 : Ints w u3 x.frm) (h4 : Ints w u4 x.vars) {bl V : Nat} {o : Int → Int} (hl : VBlk w bl 3 (V + 1) (fun i => .int .i64 (o i))) (hf : ∀ y ∈ x.frm, 0 ≤ y ∧ y ≤ 2 * (V : Int) + 1) (hV : V ≤ 2000) (hb : ∀ v : Int, 0 ≤ v → v ≤ V → o v ≤ 5000) :
    Calls Tryd.prog 41 #[.agg #[.bool x.read, .int .i64 x.mem, .int .i64 x.pos, u3, u4], .slice (some ⟨bl, 0, none⟩) (V + 1) (V + 1)] w fun e w' => e = .returned (.int .i64 (told1 x.frm o)) ∧ Below w.heap.size w w' := by
  obtain ⟨ans, hans⟩ : ∃ a, a = told1 x.frm o := ⟨_, rfl⟩
  rw [← hans]
  obtain ⟨A3, c3, rfl, -, z1, z2, -⟩ := id h3
  obtain ⟨A4, c4, rfl, -, z3, z4, -⟩ := id h4
  obtain ⟨fs, hfs⟩ : ∃ fs, fs = x.frm := ⟨_, rfl⟩
  rw [← hfs] at h3 z1 hf hans ⊢
  obtain ⟨nf, hnf⟩ : ∃ n, n = fs.length := ⟨_, rfl⟩
  obtain ⟨nv, hnv⟩ : ∃ n, n = x.vars.length := ⟨_, rfl⟩
  rw [← hnf] at h3 z1 ⊢
  rw [← hnv]
  obtain ⟨xr, hxr⟩ : ∃ n, n = x.read := ⟨_, rfl⟩
  obtain ⟨xm, hxm⟩ : ∃ n, n = x.mem := ⟨_, rfl⟩
  obtain ⟨xp, hxp⟩ : ∃ n, n = x.pos := ⟨_, rfl⟩
  rw [← hxr, ← hxm, ← hxp]
  unfold maxLen at z2
  obtain ⟨wb, hwb⟩ : ∃ wb, wb = w.alloc (.cells #[.bool xr, .int .i64 xm, .int .i64 xp, .slice A3 nf c3, .slice A4 nv c4] 74) := ⟨_, rfl⟩
  obtain ⟨bx, hbx⟩ : ∃ bx, bx = w.heap.size := ⟨_, rfl⟩
  have HB1 : Hid (Below w.heap.size w wb) := Lib.hid (by rw [hwb]; exact below_new1 w _)
  have HB : Hid (Blk wb bx 74 #[.bool xr, .int .i64 xm, .int .i64 xp, .slice A3 nf c3, .slice A4 nv c4]) := Lib.hid (by rw [hwb, hbx]; exact Blk.new w _ _)
  have HI := Lib.hid (h3.below HB1.out)
  have HLV := Lib.hid (hl.later HB1.out)
  have HA := Lib.hid hans
  have HF := Lib.hid hf
  have HN := Lib.hid hnf
  have HBO := Lib.hid hb
  have HW1 := Lib.hid hwb
  have HBE := Lib.hid hbx
  clear h3 h4 hl hans hf hnf hnv hxr hxm hxp hb hfs hwb hbx z3 z4
  go_enter Tryd.func41, Tryd.ntmps41
  go_wp2
  rw [← HW1.out, ← HBE.out]
  go_loopw [5, 6, 7] (fun s i _ wr => ∃ j : Nat, j ≤ nf ∧ i = .int .i64 j ∧ s = .int .i64 (mx (fs.take j) (fun y => (o (y / 2)).toNat) : Nat) ∧ (∀ y ∈ fs.take j, 0 ≤ o (y / 2)) ∧ wr = wb) (fun _ i _ _ => nf - (intOf i).toNat)
  case atStart => exact ⟨0, Nat.zero_le _, rfl, rfl, (fun y hy => by simp at hy), rfl⟩
  case round =>
    obtain ⟨j, hj, rfl, rfl, hall, rfl⟩ := hrel
    have k3 : wr.cell? ⟨bx, 3, none⟩ = some (.slice A3 nf c3) := HB.out.cell 3
    have HALL := Lib.hid hall
    obtain ⟨mm, hmm⟩ : ∃ q, q = mx (fs.take j) (fun y => (o (y / 2)).toNat) := ⟨_, rfl⟩
    rw [← hmm]
    have hmm9 : mm ≤ 5000 := by
      rw [hmm]
      rcases mx_hit (fs.take j) (fun y => (o (y / 2)).toNat) with h | ⟨y, hy, he⟩
      · omega
      · have h1 := HF.out y (List.mem_of_mem_take hy)
        have := HBO.out (y / 2) (by omega) (by omega)
        have he' : (o (y / 2)).toNat = mx (fs.take j) (fun y => (o (y / 2)).toNat) := he
        omega
    have HMX := Lib.hid hmm
    clear hall hmm
    by_cases hlt : (j : Int) < (nf : Int)
    · have hjn : j < fs.length := by have := HN.out; omega
      obtain ⟨-, hii⟩ := ints_hii HI.out
      obtain ⟨b, off, rfl, hcs⟩ := hii.resolve_left (fun e => by rw [e] at hjn; simp at hjn)
      have q := hcs j hjn
      have hyr := HF.out (fs.getD j 0) (mem_getD 0 hjn)
      have hts := take_snocI hjn
      have hno := Lib.hid (fun h => told1_no (o := o) hjn h)
      obtain ⟨y, hy⟩ : ∃ y, y = fs.getD j 0 := ⟨_, rfl⟩
      rw [← hy] at q hyr hts hno
      obtain ⟨kn, hkn⟩ : ∃ kn : Nat, y / 2 = (kn : Int) := ⟨(y / 2).toNat, by omega⟩
      have hknV : kn < V + 1 := by omega
      have hvar := r01Var y wr (by omega) (by omega)
      rw [hkn] at hvar hno
      have clv := HLV.out.cell hknV
      have hob := HBO.out (kn : Int) (by omega) (by omega)
      obtain ⟨ov, hov⟩ : ∃ ov, ov = o (kn : Int) := ⟨_, rfl⟩
      rw [← hov] at clv hob hno
      have HVAR := Lib.hid hvar
      have HTS := Lib.hid hts
      have HKN := Lib.hid hkn
      have HOV := Lib.hid hov
      have hk1 : (kn : Int) < (V : Int) + 1 := by omega
      clear hcs hii hts hy hjn hyr hvar hkn hov
      by_cases hneg : ov < 0
      · have HFF : Hid (ans = -1) := Lib.hid (by rw [HA.out]; exact hno.out hneg)
        go_wp2_with (go_at_call 34; refine HVAR.out.mono ?_; rintro e w' ⟨rfl, rfl⟩)
        repeat rw [Exit.noGoto_ret]
        go_ret
        exact ⟨by rw [HFF.out]; rfl, HB1.out⟩
      · have hneg' : 0 ≤ ov := by omega
        clear hneg
        go_wp2_with (go_at_call 34; refine HVAR.out.mono ?_; rintro e w' ⟨rfl, rfl⟩)
        go_roundw
        case rel =>
          have e : mx (fs.take (j + 1)) (fun y => (o (y / 2)).toNat) = max mm ov.toNat := by
            rw [HTS.out, mx_snoc, ← HMX.out]
            show max mm ((o (y / 2)).toNat) = _
            rw [HKN.out, HOV.out]
          refine ⟨j + 1, by omega, by go_num, by rw [e]; congr 1; omega, fun z hz => ?_, trivial⟩
          rw [HTS.out] at hz
          rcases List.mem_append.1 hz with hz | hz
          · exact HALL.out z hz
          · simp at hz
            subst hz
            rw [HKN.out, ← HOV.out]; exact hneg'
        case measure => simp [intOf]; omega
    · obtain rfl : j = nf := by omega
      have hfull : fs.take j = fs := List.take_of_length_le (by have := HN.out; omega)
      have HFF : Hid (ans = (mm : Int) + 1) := Lib.hid (by
        have h1 := HALL.out
        have h2 := HMX.out
        rw [hfull] at h1 h2
        rw [HA.out, told1_yes h1, h2])
      clear hfull
      go_wp2
      go_ret
      exact ⟨by rw [HFF.out]; rfl, HB1.out⟩
end Go.Proofs.YtlahecdpcpejpaaDoor
/-
  The document's nodes: lists of them, of the call's own; Nodes, walked.
-/
namespace Go.Proofs.YtlahecdpcpejpaaDoor
open Go.ChangeShapes Go.WideShapes Go.ChangeAt Go.RowKit
set_option linter.unusedVariables false
set_option linter.unusedSimpArgs false
attribute [local go_sem ↓] Go.wp_at_zero Go.wp_at_succ
theorem infoN6 : (Tryd.prog.info? 74).map (fun i => (i.zero, i.size, i.bytes)) = some (some (.agg #[.bool false, .int .i64 0, .int .i64 0, .slice none 0 0, .slice none 0 0]), 5, 72) := by kernel_rfl
def ndC (x : NodeD) (p : Value × Value) : List Value := [.bool x.read, .int .i64 x.mem, .int .i64 x.pos, p.1, p.2]
def flat5 (ls : List NodeD) (us : List (Value × Value)) : List Value := (ls.zip us).flatMap fun q => ndC q.1 q.2
/-- What a slice of a node reads as, and that it does not lie in a block. -/
def InN (B C : Nat) (W : World) (v : Value) (u : Value) (xs : List Int) : Prop := Ints W u xs ∧ (xs ≠ [] → ∀ k, u.ownBlock = some k → v.ownBlock ≠ some k ∧ (k < B ∨ C ≤ k))
theorem ints_keep6 {w w' : World} {v : Value} {xs : List Int} {S : Nat → Prop} (h : Ints w v xs) (hc : Chg S w w') (hn : xs ≠ [] → ∀ b, v.ownBlock = some b → ¬ S b) : Ints w' v xs := by
  by_cases h0 : xs = []
  · obtain ⟨a, cap, e, h1, h2, h3, -⟩ := h
    exact ⟨a, cap, e, h1, h2, h3, .inl h0⟩
  · exact h.chg hc (hn h0)
/-- A list of nodes of the call's own. -/
structure NList (B C : Nat) (w0 W : World) (v : Value) (ls : List NodeD) (us : List (Value × Value)) : Prop where
  len : us.length = ls.length
  low : Below w0.heap.size w0 W
  row : Row W 74 5 v ls.length (flat5 ls us)
  own : ∀ k, v.ownBlock = some k → C ≤ k
  base : w0.heap.size ≤ C ∧ C ≤ W.heap.size
  each : ∀ j, j < ls.length → InN B C W v (us.getD j (undef, undef)).1 (ls.getD j node0).frm ∧ InN B C W v (us.getD j (undef, undef)).2 (ls.getD j node0).vars
theorem flat5_snoc {ls : List NodeD} {us : List (Value × Value)} (h : us.length = ls.length) (x : NodeD) (p : Value × Value) : flat5 (ls ++ [x]) (us ++ [p]) = flat5 ls us ++ ndC x p := by
  unfold flat5
  rw [List.zip_append h.symm, List.flatMap_append]
  simp
theorem flat5_len : ∀ {ls : List NodeD} {us : List (Value × Value)}, us.length = ls.length → (flat5 ls us).length = ls.length * 5
  | [], [], _ => rfl
  | [], _ :: _, h => by cases h
  | _ :: _, [], h => by cases h
  | x :: ls, p :: us, h => by
    have := flat5_len (ls := ls) (us := us) (by simpa using h)
    unfold flat5 at this ⊢
    rw [List.zip_cons_cons, List.flatMap_cons, List.length_append, this]
    simp [ndC]; omega
theorem flat5_at : ∀ {ls : List NodeD} {us : List (Value × Value)}, us.length = ls.length → ∀ k c, k < ls.length → c < 5 → (flat5 ls us).getD (k * 5 + c) undef = (ndC (ls.getD k node0) (us.getD k (undef, undef))).getD c undef
  | [], _, _, k, c, hk, _ => absurd hk (by simp)
  | _ :: _, [], h, _, _, _, _ => by cases h
  | x :: ls, p :: us, h, k, c, hk, hc => by
    unfold flat5
    rw [List.zip_cons_cons, List.flatMap_cons]
    cases k with
    | zero =>
      simp only [Nat.zero_mul, Nat.zero_add]
      match c, hc with
      | 0, _ => rfl
      | 1, _ => rfl
      | 2, _ => rfl
      | 3, _ => rfl
      | 4, _ => rfl
    | succ k =>
      have := flat5_at (ls := ls) (us := us) (by simpa using h) k c (by simpa using hk) hc
      have e : (k + 1) * 5 + c = (k * 5 + c) + 5 := by omega
      rw [e]
      unfold flat5 at this
      simp [ndC, List.getD] at this ⊢
      exact this
theorem NList.start (B : Nat) (w : World) : NList B w.heap.size w w (.slice none 0 0) [] [] := ⟨rfl, Below.refl _ _, World.ownsRow_nil _ _ _ _, (fun k hk => by simp [Value.ownBlock] at hk), ⟨Nat.le_refl _, Nat.le_refl _⟩, (fun j hj => absurd hj (by simp))⟩
theorem InN.below {B C : Nat} {W W' : World} {v u : Value} {xs : List Int} (h : InN B C W v u xs) (hb : Below W.heap.size W W') : InN B C W' v u xs := ⟨h.1.below hb, h.2⟩
theorem NList.below {B C : Nat} {w0 W W' : World} {v : Value} {ls : List NodeD} {us : List (Value × Value)} (h : NList B C w0 W v ls us) (hb : Below W.heap.size W W') : NList B C w0 W' v ls us :=
  ⟨h.len, h.low.trans (hb.mono h.low.size), h.row.chg (S := fun _ => False) (Chg.of_below hb) (fun _ _ h => h), h.own, ⟨h.base.1, Nat.le_trans h.base.2 hb.size⟩, fun j hj => ⟨(h.each j hj).1.below hb, (h.each j hj).2.below hb⟩⟩
theorem NList.app {B C : Nat} {w0 W W' : World} {v v' : Value} {ls : List NodeD} {us : List (Value × Value)} (h : NList B C w0 W v ls us) {x : NodeD} {p : Value × Value} (h1 : InN B C W v p.1 x.frm) (h2 : InN B C W v p.2 x.vars)
    (hp : AppPost W 74 5 v (ls.length + 1) (flat5 ls us ++ ndC x p) v' W') : NList B C w0 W' v' (ls ++ [x]) (us ++ [p]) := by
  obtain ⟨p1, p2, p3⟩ := hp
  have keep : ∀ {u : Value} {xs : List Int}, InN B C W v u xs → InN B C W' v' u xs := fun {u xs} hu => by
    refine ⟨ints_keep6 hu.1 p2 (fun hne k hk e => (hu.2 hne k hk).1 e), fun hne k hk => ⟨fun e => ?_, (hu.2 hne k hk).2⟩⟩
    rcases p3 with e3 | e3
    · exact (hu.2 hne k hk).1 (e3 ▸ e)
    · rw [e3] at e
      injection e with e
      have := ints_blk hu.1 hne k hk
      omega
  refine ⟨by rw [List.length_append, List.length_append, h.len]; rfl, h.low.trans (p2.below h.low.size (fun i hi => Nat.le_trans h.base.1 (h.own i hi))), by rw [flat5_snoc h.len, List.length_append]; exact p1, fun k hk => ?_, ⟨h.base.1, Nat.le_trans h.base.2 p2.size⟩, fun j hj => ?_⟩
  · rcases p3 with e | e
    · exact h.own k (e ▸ hk)
    · rw [e] at hk
      injection hk with hk
      have := h.base.2
      omega
  · rw [List.length_append] at hj
    simp at hj
    rcases Nat.lt_or_ge j ls.length with hlt | hge
    · have e1 : (us ++ [p]).getD j (undef, undef) = us.getD j (undef, undef) := by simp [List.getD, List.getElem?_append_left (show j < us.length by rw [h.len]; exact hlt)]
      have e2 : (ls ++ [x]).getD j node0 = ls.getD j node0 := by simp [List.getD, List.getElem?_append_left hlt]
      rw [e1, e2]
      exact ⟨keep (h.each j hlt).1, keep (h.each j hlt).2⟩
    · obtain rfl : j = ls.length := by omega
      have e1 : (us ++ [p]).getD ls.length (undef, undef) = p := by rw [← h.len]; simp [List.getD]
      have e2 : (ls ++ [x]).getD ls.length node0 = x := by simp [List.getD]
      rw [e1, e2]
      exact ⟨keep h1, keep h2⟩
theorem NList.form {B C : Nat} {w0 W : World} {v : Value} {ls : List NodeD} {us : List (Value × Value)} (h : NList B C w0 W v ls us) : ∃ A cap, v = .slice A ls.length cap ∧ ls.length ≤ cap ∧ cap ≤ 9223372036854775807 := by
  rcases h.row.form with ⟨h1, h0, -⟩ | ⟨g, cap, h1, h2, h3, -, hc⟩
  · exact ⟨none, 0, by rw [h1, h0], by omega, by omega⟩
  · unfold maxLen at h3; exact ⟨_, cap, h1, h2, by omega⟩
/-- Where a node lies. -/
theorem NList.node {B C : Nat} {w0 W : World} {v : Value} {ls : List NodeD} {us : List (Value × Value)} (h : NList B C w0 W v ls us) {k : Nat} (hk : k < ls.length) : ∃ g cap, v = .slice (some ⟨g, 0, none⟩) ls.length cap ∧ ls.length ≤ cap ∧ cap ≤ 9223372036854775807 ∧
    W.cell? ⟨g, k * 5, none⟩ = some (.bool (ls.getD k node0).read) ∧ W.cell? ⟨g, k * 5 + 1, none⟩ = some (.int .i64 (ls.getD k node0).mem) ∧ W.cell? ⟨g, k * 5 + 2, none⟩ = some (.int .i64 (ls.getD k node0).pos) ∧
    W.cell? ⟨g, k * 5 + 3, none⟩ = some (us.getD k (undef, undef)).1 ∧ W.cell? ⟨g, k * 5 + 4, none⟩ = some (us.getD k (undef, undef)).2 ∧ InN B C W v (us.getD k (undef, undef)).1 (ls.getD k node0).frm ∧ InN B C W v (us.getD k (undef, undef)).2 (ls.getD k node0).vars := by
  rcases h.row.form with ⟨-, h0, -⟩ | ⟨g, cap, h1, h2, h3, -, hc⟩
  · omega
  · have hl := flat5_len h.len
    unfold maxLen at h3
    obtain ⟨e1, e2⟩ := h.each k hk
    refine ⟨g, cap, h1, h2, by omega, ?_, ?_, ?_, ?_, ?_, e1, e2⟩
    · have := (hc (k * 5) (by omega)).1
      rw [show k * 5 = k * 5 + 0 by omega, flat5_at h.len k 0 hk (by omega)] at this
      exact this
    · rw [(hc (k * 5 + 1) (by omega)).1, flat5_at h.len k 1 hk (by omega)]; rfl
    · rw [(hc (k * 5 + 2) (by omega)).1, flat5_at h.len k 2 hk (by omega)]; rfl
    · rw [(hc (k * 5 + 3) (by omega)).1, flat5_at h.len k 3 hk (by omega)]; rfl
    · rw [(hc (k * 5 + 4) (by omega)).1, flat5_at h.len k 4 hk (by omega)]; rfl
theorem NList.rebase {B C : Nat} {w w0 W : World} {v : Value} {ls : List NodeD} {us : List (Value × Value)} (h : NList B C w0 W v ls us) (hb : Below w.heap.size w w0) : NList B C w W v ls us :=
  ⟨h.len, hb.trans (h.low.mono hb.size), h.row, h.own, ⟨Nat.le_trans hb.size h.base.1, h.base.2⟩, h.each⟩
theorem NList.weaken {B C : Nat} {w W : World} {v : Value} {ls : List NodeD} {us : List (Value × Value)} (h : NList B C w W v ls us) {C' : Nat} (h1 : w.heap.size ≤ C') (h2 : C' ≤ C) : NList B C' w W v ls us :=
  ⟨h.len, h.low, h.row, fun k hk => Nat.le_trans h2 (h.own k hk), ⟨h1, Nat.le_trans h2 h.base.2⟩, fun j hj => ⟨⟨(h.each j hj).1.1, fun hne k hk => ⟨((h.each j hj).1.2 hne k hk).1, ((h.each j hj).1.2 hne k hk).2.imp id (Nat.le_trans h2)⟩⟩, ⟨(h.each j hj).2.1, fun hne k hk => ⟨((h.each j hj).2.2 hne k hk).1, ((h.each j hj).2.2 hne k hk).2.imp id (Nat.le_trans h2)⟩⟩⟩⟩
/-- What a store elsewhere leaves. -/
theorem NList.chg {B C : Nat} {w0 W W' : World} {v : Value} {ls : List NodeD} {us : List (Value × Value)} {S : Nat → Prop} (h : NList B C w0 W v ls us) (hc : Chg S W W') (hS : ∀ k, S k → B ≤ k ∧ k < C) (hl : Below w0.heap.size w0 W') : NList B C w0 W' v ls us := by
  have keep : ∀ {u : Value} {xs : List Int}, InN B C W v u xs → InN B C W' v u xs := fun {u xs} hu =>
    ⟨ints_keep6 hu.1 hc (fun hne k hk e => by have h1 := (hu.2 hne k hk).2; have h2 := hS k e; omega), hu.2⟩
  exact ⟨h.len, hl, h.row.chg hc (fun g hg e => by have h1 := h.own g hg; have h2 := hS g e; omega), h.own, ⟨h.base.1, Nat.le_trans h.base.2 hc.size⟩, fun j hj => ⟨keep (h.each j hj).1, keep (h.each j hj).2⟩⟩
theorem src5 {w : World} (b : Bool) (m p : Int) (u3 u4 : Value) : Src (w.alloc (.cells #[.bool b, .int .i64 m, .int .i64 p, u3, u4] 74)) (some ⟨w.heap.size, 0, none⟩) 5 1 [.bool b, .int .i64 m, .int .i64 p, u3, u4] := by
  refine ⟨rfl, fun _ => ⟨w.heap.size, 0, rfl, fun j u hu => ?_⟩⟩
  have hB : Blk (w.alloc (.cells #[.bool b, .int .i64 m, .int .i64 p, u3, u4] 74)) w.heap.size 74 #[.bool b, .int .i64 m, .int .i64 p, u3, u4] := Blk.new w _ _
  rw [Nat.zero_add, hB.cell j]
  match j, hu with
  | 0, hu => exact hu
  | 1, hu => exact hu
  | 2, hu => exact hu
  | 3, hu => exact hu
  | 4, hu => exact hu
theorem row_lt {B C : Nat} {w0 W : World} {v : Value} {ls : List NodeD} {us : List (Value × Value)} (h : NList B C w0 W v ls us) : ∀ k, v.ownBlock = some k → k < W.heap.size := fun k hk => h.row.lt k hk
/-- The list of a netlist's nodes is told. -/
def RetL (B : Nat) (w : World) (ls : List NodeD) (e : Ending) (w' : World) : Prop := ∃ v us, e = .returned v ∧ NList B w.heap.size w w' v ls us
set_option maxHeartbeats 8000000 in
set_option maxRecDepth 100000 in
theorem r06_Nodes {wN w : World} {d : NetD} {vi vl vo vb vc vm va : Value} (h0 : NetP wN d vi vl vo vb vc vm va) (hwN : Below wN.heap.size wN w) (hl0 : lightN d = true) :
    Calls Tryd.prog 40 #[netV d vi vl vo vb vc vm va] w (RetL wN.heap.size w (nodesN d)) := by
  have h := h0.below hwN
  obtain ⟨hl, hm⟩ := lightN_iff hl0
  obtain ⟨ai, ci, ni, al, cl, nl, ao, co, no, ab, cb, nb, ac, cc, nc, am, cm, nm, aa, ca, na, rfl, rfl, rfl, rfl, rfl, rfl, rfl, HN, HC⟩ := h.open_ hl
  obtain ⟨-, -, -, -, -, ⟨m1, m2, m3⟩, ⟨a1, a2, a3⟩⟩ := HC
  obtain ⟨wb, hwb⟩ : ∃ wb, wb = w.alloc (.cells #[.int .i64 d.vars, .slice ai ni ci, .slice al nl cl, .slice ao no co, .slice ab nb cb, .slice ac nc cc, .slice am nm cm, .slice aa na ca] 28) := ⟨_, rfl⟩
  obtain ⟨bx, hbx⟩ : ∃ bx, bx = w.heap.size := ⟨_, rfl⟩
  have HB1 : Hid (Below w.heap.size w wb) := Lib.hid (by rw [hwb]; exact below_new1 w _)
  have HBX : Hid (NBox wb bx d (.slice ai ni ci) (.slice al nl cl) (.slice ao no co) (.slice ab nb cb) (.slice ac nc cc) (.slice am nm cm) (.slice aa na ca)) := Lib.hid (by rw [hwb, hbx]; exact NBox.new w _ _ _ _ _ _ _ _)
  have HP := Lib.hid (h.below HB1.out)
  have HP0 := Lib.hid h0
  have HWN := Lib.hid (hwN.trans (HB1.out.mono hwN.size))
  have HM := Lib.hid hm
  have HW1 := Lib.hid hwb
  have HBE := Lib.hid hbx
  unfold netV
  clear h h0 hwN hl0 hl hm hwb hbx
  go_enter Tryd.func40, Tryd.ntmps40
  go_wp2
  rw [← HW1.out, ← HBE.out]
  go_loopw [3, 4, 5] (fun v i _ wr => ∃ k : Nat, ∃ us, k ≤ na ∧ i = .int .i64 k ∧ NList wN.heap.size wb.heap.size wb wr v (pA d k) us) (fun _ i _ _ => na - (intOf i).toNat)
  case atStart => exact ⟨0, [], Nat.zero_le _, rfl, by rw [show pA d 0 = [] from by unfold pA; simp]; exact NList.start _ wb⟩
  case round =>
    obtain ⟨k, us, hk, rfl, hL⟩ := hrel
    have c7 := (HBX.out.later hL.low).c7
    have HL := Lib.hid hL
    clear hL
    by_cases hlt : (k : Int) < (na : Int)
    · have hkn : k < d.ands.length := by have := HN.out.ands; omega
      obtain ⟨b, off, cap', he, hone⟩ := HP.out.ands.at_ hkn
      injection he with e1 e2 e3
      subst e1
      obtain ⟨q0, q1, q2⟩ := hone
      replace q0 := cell_below q0 HL.out.low
      replace q1 := cell_below q1 HL.out.low
      replace q2 := cell_below q2 HL.out.low
      have hsn := pA_succ hkn
      obtain ⟨y, hy⟩ : ∃ y, y = d.ands.getD k tri0 := ⟨_, rfl⟩
      rw [← hy] at q0 q1 q2 hsn
      obtain ⟨y1, y2, y3⟩ := y
      have HSN := Lib.hid hsn
      obtain ⟨A, cap, hvv, z1, z2⟩ := HL.out.form
      obtain ⟨n9, hn9⟩ : ∃ n9, n9 = (pA d k).length := ⟨_, rfl⟩
      have hn9k : n9 ≤ 2100 := by rw [hn9]; unfold pA; simp; omega
      rw [← hn9] at hvv z1
      subst hvv
      have HN9 := Lib.hid hn9
      have hb4 : Below wr.heap.size wr ((((wr.alloc (.cells #[.int .i64 y1, .int .i64 y2, .int .i64 y3] 93)).alloc (.cells #[.int .i64 y2, .int .i64 y3] 3)).alloc (.cells #[.int .i64 y1] 3)).alloc (.cells #[.bool false, .int .i64 0, .int .i64 k, .slice (some ⟨wr.heap.size + 1, 0, none⟩) 2 2, .slice (some ⟨wr.heap.size + 1 + 1, 0, none⟩) 1 1] 74)) :=
        ((((Below.refl _ wr).alloc (Nat.le_refl _) _).alloc (by simp) _).alloc (by simp; omega) _).alloc (by simp; omega) _
      have hNL := HL.out.below hb4
      have hi1 : InN wN.heap.size wb.heap.size ((((wr.alloc (.cells #[.int .i64 y1, .int .i64 y2, .int .i64 y3] 93)).alloc (.cells #[.int .i64 y2, .int .i64 y3] 3)).alloc (.cells #[.int .i64 y1] 3)).alloc (.cells #[.bool false, .int .i64 0, .int .i64 k, .slice (some ⟨wr.heap.size + 1, 0, none⟩) 2 2, .slice (some ⟨wr.heap.size + 1 + 1, 0, none⟩) 1 1] 74)) (.slice A n9 cap) (.slice (some ⟨wr.heap.size + 1, 0, none⟩) 2 2) [y2, y3] := by
        have h1 := ints_two (wr.alloc (.cells #[.int .i64 y1, .int .i64 y2, .int .i64 y3] 93)) y2 y3
        rw [World.size_alloc] at h1
        refine ⟨h1.below (((Below.refl _ _).alloc (Nat.le_refl _) _).alloc (by simp) _), fun _ q hq => ?_⟩
        simp [Value.ownBlock] at hq
        refine ⟨fun e => ?_, .inr (by have := HL.out.low.size; omega)⟩
        have h2 := row_lt HL.out q e
        omega
      have hi2 : InN wN.heap.size wb.heap.size ((((wr.alloc (.cells #[.int .i64 y1, .int .i64 y2, .int .i64 y3] 93)).alloc (.cells #[.int .i64 y2, .int .i64 y3] 3)).alloc (.cells #[.int .i64 y1] 3)).alloc (.cells #[.bool false, .int .i64 0, .int .i64 k, .slice (some ⟨wr.heap.size + 1, 0, none⟩) 2 2, .slice (some ⟨wr.heap.size + 1 + 1, 0, none⟩) 1 1] 74)) (.slice A n9 cap) (.slice (some ⟨wr.heap.size + 1 + 1, 0, none⟩) 1 1) [y1] := by
        have h1 := ints_one ((wr.alloc (.cells #[.int .i64 y1, .int .i64 y2, .int .i64 y3] 93)).alloc (.cells #[.int .i64 y2, .int .i64 y3] 3)) y1
        rw [World.size_alloc, World.size_alloc] at h1
        refine ⟨h1.below ((Below.refl _ _).alloc (Nat.le_refl _) _), fun _ q hq => ?_⟩
        simp [Value.ownBlock] at hq
        refine ⟨fun e => ?_, .inr (by have := HL.out.low.size; omega)⟩
        have h2 := row_lt HL.out q e
        omega
      have HNL := Lib.hid hNL
      have HI1 := Lib.hid hi1
      have HI2 := Lib.hid hi2
      have HRW := Lib.hid hNL.row
      rw [← hn9] at HRW
      have hsrc : Src ((((wr.alloc (.cells #[.int .i64 y1, .int .i64 y2, .int .i64 y3] 93)).alloc (.cells #[.int .i64 y2, .int .i64 y3] 3)).alloc (.cells #[.int .i64 y1] 3)).alloc (.cells #[.bool false, .int .i64 0, .int .i64 k, .slice (some ⟨wr.heap.size + 1, 0, none⟩) 2 2, .slice (some ⟨wr.heap.size + 1 + 1, 0, none⟩) 1 1] 74)) (some ⟨wr.heap.size + 1 + 1 + 1, 0, none⟩) 5 1 [.bool false, .int .i64 0, .int .i64 k, .slice (some ⟨wr.heap.size + 1, 0, none⟩) 2 2, .slice (some ⟨wr.heap.size + 1 + 1, 0, none⟩) 1 1] := by
        have h1 := src5 (w := ((wr.alloc (.cells #[.int .i64 y1, .int .i64 y2, .int .i64 y3] 93)).alloc (.cells #[.int .i64 y2, .int .i64 y3] 3)).alloc (.cells #[.int .i64 y1] 3)) false 0 k (.slice (some ⟨wr.heap.size + 1, 0, none⟩) 2 2) (.slice (some ⟨wr.heap.size + 1 + 1, 0, none⟩) 1 1)
        simpa using h1
      have HSRC := Lib.hid hsrc
      clear hsn hy e2 e3 hkn hn9 hb4 hNL hi1 hi2 hsrc
      go_wp2_with (at_builtin; refine wpList_appS rfl _ _ 71 rfl 74 (.agg #[.bool false, .int .i64 0, .int .i64 0, .slice none 0 0, .slice none 0 0]) 5 72 Tryd.underlying71 infoN6 rfl (by decide) (.slice A n9 cap) n9 (flat5 (pA d k) us) rfl HRW.out (some ⟨wr.heap.size + 1 + 1 + 1, 0, none⟩) 1 1 [.bool false, .int .i64 0, .int .i64 k, .slice (some ⟨wr.heap.size + 1, 0, none⟩) 2 2, .slice (some ⟨wr.heap.size + 1 + 1, 0, none⟩) 1 1] rfl HSRC.out ?h1 ?h2 ?h3 ?_; (case h1 => (intro u hu; simp at hu; rcases hu with rfl | rfl | rfl | rfl | rfl <;> rfl)); (case h2 => (unfold maxLen; omega)); (case h3 => omega); intro v4 w4 h4; have H4 := Lib.hid h4; clear h4)
      go_roundw
      case rel =>
        refine ⟨k + 1, us ++ [(.slice (some ⟨wr.heap.size + 1, 0, none⟩) 2 2, .slice (some ⟨wr.heap.size + 1 + 1, 0, none⟩) 1 1)], by omega, by go_num, ?_⟩
        rw [HSN.out]
        exact HNL.out.app (x := andNode k (y1, y2, y3)) HI1.out HI2.out (by rw [← HN9.out]; exact H4.out)
      case measure => simp [intOf]; omega
    · obtain rfl : k = na := by omega
      have hall : pA d k = pN d 0 0 := by rw [HN.out.ands]; exact pA_end
      rw [hall] at HL
      have HL0 : Hid ((pN d 0 0).length ≤ 2100 + 6 * 0) := Lib.hid (by rw [← hall]; unfold pA; simp; omega)
      obtain ⟨w1, rfl⟩ : ∃ w1 : World, w1 = wr := ⟨_, rfl⟩
      clear hall
      go_wp2
      clear c7
      go_loopw [3, 6, 7] (fun v i _ wr => ∃ m : Nat, ∃ us, m ≤ nm ∧ i = .int .i64 m ∧ NList wN.heap.size wb.heap.size wb wr v (pN d m 0) us ∧ (pN d m 0).length ≤ 2100 + 6 * m) (fun _ i _ _ => nm - (intOf i).toNat)
      case atStart => exact ⟨0, _, Nat.zero_le _, rfl, HL.out, HL0.out⟩
      case round =>
        obtain ⟨m, us, hm9, rfl, hLm, hlen⟩ := hrel
        have HLm := Lib.hid hLm
        clear hLm
        have c6 := (HBX.out.later HLm.out.low).c6
        by_cases hlt : (m : Int) < (nm : Int)
        · have hmn : m < d.mems.length := by have := HN.out.mems; omega
          obtain ⟨b, off, cap', he, hmem⟩ := HP0.out.mems.at_ hmn
          injection he with e1 e2 e3
          subst e1
          have hlm := liM_parts (HM.out m hmn)
          have HNX := Lib.hid (pN_next hmn)
          have HPS := Lib.hid (fun i => pN_succ (d := d) (m := m) (i := i))
          obtain ⟨mm, hmm⟩ : ∃ mm, mm = d.mems.getD m mem0 := ⟨_, rfl⟩
          rw [← hmm] at hmem hlm HNX HPS
          obtain ⟨u1, u2, y0, y1, y2, y3, y4, hmv⟩ := hmem.val
          obtain ⟨ra, rc, nr, wa, wc, nw, hag, hnr, hnw, r1, r2, q1, q2, HSR, -⟩ := hmv.open_
          injection hag with hag
          simp only [Array.mk.injEq, List.cons.injEq, true_and, and_true] at hag
          obtain ⟨rfl, rfl⟩ := hag
          have HY := Lib.hid (And.intro y0 (And.intro y1 (And.intro y2 (And.intro y3 y4))))
          have HMV := Lib.hid hmv
          have HLM := Lib.hid hlm
          replace y3 := cell_below y3 (HWN.out.trans (HLm.out.low.mono HWN.out.size))
          have hr6 : nr ≤ 6 := by have := of_decide_eq_true hlm.1; omega
          have hm4 : m ≤ 6 := by omega
          have HNR := Lib.hid hnr
          have HC6 : Hid (∀ W, Below wb.heap.size wb W → W.cell? ⟨bx, 6, none⟩ = some (.slice (some ⟨b, off, none⟩) nm cm)) := Lib.hid fun W hW => (HBX.out.later hW).c6
          obtain ⟨wp, rfl⟩ : ∃ wp : World, wp = wr := ⟨_, rfl⟩
          clear hmm hlm hmem hnr hnw q1 q2 e2 e3 hmn hmv y0 y1 y2 y4
          go_wp2
          clear c6 y3
          go_loopw [3, 7] (fun v i wr => ∃ j : Nat, ∃ us, j ≤ nr ∧ i = .int .i64 j ∧ NList wN.heap.size wb.heap.size wb wr v (pN d m j) us ∧ (pN d m j).length ≤ 2100 + 6 * m + j) (fun _ i _ => nr - (intOf i).toNat)
          case atStart => exact ⟨0, _, Nat.zero_le _, rfl, HLm.out, hlen⟩
          case round =>
            obtain ⟨j, us2, hj9, rfl, hLj, hlen2⟩ := hrel
            have HLj := Lib.hid hLj
            clear hLj
            have c6 := HC6.out wr HLj.out.low
            obtain ⟨y0, y1, y2, y3, y4⟩ := HY.out
            replace y0 := cell_below y0 (HWN.out.trans (HLj.out.low.mono HWN.out.size))
            replace y1 := cell_below y1 (HWN.out.trans (HLj.out.low.mono HWN.out.size))
            replace y2 := cell_below y2 (HWN.out.trans (HLj.out.low.mono HWN.out.size))
            replace y3 := cell_below y3 (HWN.out.trans (HLj.out.low.mono HWN.out.size))
            replace y4 := cell_below y4 (HWN.out.trans (HLj.out.low.mono HWN.out.size))
            by_cases hltj : (j : Int) < (nr : Int)
            · have hjn : j < mm.rd.length := by have := HNR.out; omega
              have hsn := HPS.out j hjn
              have HSN := Lib.hid hsn
              obtain ⟨b2, off2, cap2, he, hone⟩ := HSR.out.at_ hjn
              injection he with e1 e2 e3
              subst e1
              obtain ⟨-, u5, qs, hin⟩ := hone
              have qs0 := qs
              replace qs := cell_below qs (HWN.out.trans (HLj.out.low.mono HWN.out.size))
              have hlr := of_decide_eq_true (HLM.out.2.1 j hjn)
              have hblk := fun hne => ints_blk hin hne
              have hin' := hin.below (HWN.out.trans (HLj.out.low.mono HWN.out.size))
              obtain ⟨A5, cc5, rfl, -⟩ := id hin
              generalize (mm.rd.getD j rd0).2.length = n5 at qs qs0 hin' hblk hin
              have hD : ∀ W, Below wr.heap.size wr W → Calls Tryd.prog 54 #[.agg #[.int .i64 mm.addr, .int .i64 mm.word, .bool mm.any, .slice (some ⟨b2, off2, none⟩) nr rc, .slice wa nw wc], .int .i64 j] W (RetI W (dataM (mm.rd.getD j rd0).1 mm.word)) := fun W hW =>
                r05_Data (HMV.out.below ((HWN.out.trans (HLj.out.low.mono HWN.out.size)).trans (hW.mono (HWN.out.trans (HLj.out.low.mono HWN.out.size)).size))) HLM.out.1 hjn ⟨hlr.2.2, hlr.2.1⟩
              obtain ⟨xv, hxv⟩ : ∃ xv, xv = dataM (mm.rd.getD j rd0).1 mm.word := ⟨_, rfl⟩
              rw [← hxv] at hD
              obtain ⟨n6, hn6⟩ : ∃ n6, n6 = xv.length := ⟨_, rfl⟩
              have HN6 := Lib.hid hn6
              have HXV := Lib.hid hxv
              have HD := Lib.hid hD
              obtain ⟨A, cap, hvv, z1, z2⟩ := HLj.out.form
              obtain ⟨n9, hn9⟩ : ∃ n9, n9 = (pN d m j).length := ⟨_, rfl⟩
              have hn9k : n9 ≤ 100000 := by omega
              rw [← hn9] at hvv z1
              subst hvv
              have HN9 := Lib.hid hn9
              have HIN := Lib.hid hin'
              have HBK : Hid ((mm.rd.getD j rd0).2 ≠ [] → ∀ k, (Value.slice A5 n5 cc5).ownBlock = some k → (Value.slice A n9 cap).ownBlock ≠ some k ∧ (k < wN.heap.size ∨ wb.heap.size ≤ k)) := Lib.hid fun hne k hk => by
                have h1 := hblk hne k hk
                refine ⟨fun e => ?_, .inl h1⟩
                have h2 := HLj.out.own k e
                have h3 := HWN.out.size
                omega
              have hj6 : (j : Int) ≤ 6 := by omega
              have hm6 : (m : Int) ≤ 6 := by omega
              have CK : Hid (∀ W, Below wb.heap.size wb W → W.cell? ⟨bx, 6, none⟩ = some (.slice (some ⟨b, off, none⟩) nm cm) ∧ W.cell? ⟨b, off + m * 5 + 3, none⟩ = some (.slice (some ⟨b2, off2, none⟩) nr rc) ∧ W.cell? ⟨b2, off2 + j * 2 + 1, none⟩ = some (.slice A5 n5 cc5) ∧ W.cell? ⟨b, off + m * 5, none⟩ = some (.int .i64 mm.addr) ∧ W.cell? ⟨b, off + m * 5 + 1, none⟩ = some (.int .i64 mm.word) ∧ W.cell? ⟨b, off + m * 5 + 2, none⟩ = some (.bool mm.any) ∧ W.cell? ⟨b, off + m * 5 + 4, none⟩ = some (.slice wa nw wc)) := Lib.hid fun W hW =>
                by
                have hW' := HWN.out.trans (hW.mono HWN.out.size)
                exact ⟨HC6.out W hW, cell_below HY.out.2.2.2.1 hW', cell_below qs0 hW', cell_below HY.out.1 hW', cell_below HY.out.2.1 hW', cell_below HY.out.2.2.1 hW', cell_below HY.out.2.2.2.2 hW'⟩
              have HDR : Hid (Below wr.heap.size wr wr.drew) := Lib.hid (Below.refl _ _).drew
              clear hsn hjn hn9 hin hin' hblk hlr hD e2 e3 hn6 hxv qs0
              go_wp2
              go_region_held3 (fun w' => w'.cell? ⟨bx, 6, none⟩ = some (.slice (some ⟨b, off, none⟩) nm cm) ∧ w'.cell? ⟨b, off + m * 5 + 3, none⟩ = some (.slice (some ⟨b2, off2, none⟩) nr rc) ∧ w'.cell? ⟨b2, off2 + j * 2 + 1, none⟩ = some (.slice A5 n5 cc5) ∧ w'.cell? ⟨b, off + m * 5, none⟩ = some (.int .i64 mm.addr) ∧ w'.cell? ⟨b, off + m * 5 + 1, none⟩ = some (.int .i64 mm.word) ∧ w'.cell? ⟨b, off + m * 5 + 2, none⟩ = some (.bool mm.any) ∧ w'.cell? ⟨b, off + m * 5 + 4, none⟩ = some (.slice wa nw wc)) (go_keep) (first
                | (go_at_call 54; (with_reducible refine (HD.out wr.drew HDR.out).mono ?_); rintro e w5 ⟨u6, rfl, ho5⟩; obtain ⟨A6, cc6, rfl, -, -⟩ := ho5.form; rw [← HN6.out] at ho5 ⊢; have HO5 := Lib.hid ho5; obtain ⟨g1, g2, g3, g4, g5, g6, g7⟩ := CK.out w5 (HLj.out.below (HDR.out.trans ho5.2.1)).low; have HNL := Lib.hid ((HLj.out.below (HDR.out.trans ho5.2.1)).below (below_new1 w5 (.cells #[.bool true, .int .i64 m, .int .i64 j, .slice A5 n5 cc5, .slice A6 n6 cc6] 74))); have HRW := Lib.hid HNL.out.row; rw [← HN9.out] at HRW; have HSRC := Lib.hid (src5 (w := w5) true m j (.slice A5 n5 cc5) (.slice A6 n6 cc6)); clear ho5)
                | (refine step_appS rfl (.tmp 51) (.tmp 72) 71 rfl 74 (.agg #[.bool false, .int .i64 0, .int .i64 0, .slice none 0 0, .slice none 0 0]) 5 72 Tryd.underlying71 infoN6 rfl (by decide) (.slice A n9 cap) n9 (flat5 (pN d m j) us2) (by simp [Act.eval]) HRW.out (some ⟨w5.heap.size, 0, none⟩) 1 1 [.bool true, .int .i64 m, .int .i64 j, .slice A5 n5 cc5, .slice A6 n6 cc6] (by simp [Act.eval]) HSRC.out ?h1 ?h2 ?h3 ?_; (case h1 => (intro u hu; simp at hu; rcases hu with rfl | rfl | rfl | rfl | rfl <;> rfl)); (case h2 => (unfold maxLen; omega)); (case h3 => omega); intro v4 w4 h4; obtain ⟨k1, k2, k3, k4, k5, k6, k7⟩ := CK.out w4 (HNL.out.low.trans (h4.2.1.below HNL.out.low.size (fun i hi => HNL.out.own i hi))); have H4 := Lib.hid h4; clear h4))
              clear k1 k2 k3 k4 k5 k6 k7 g1 g2 g3 g4 g5 g6 g7 y0 y1 y2 y3 y4 c6 qs
              go_wp2
              go_roundw
              case rel =>
                refine ⟨j + 1, us2 ++ [(.slice A5 n5 cc5, .slice A6 n6 cc6)], by omega, by go_num, ?_, by rw [HSN.out, List.length_append]; simp; omega⟩
                rw [HSN.out]
                have hb5 : Below w5.heap.size w5 (w5.alloc (.cells #[.bool true, .int .i64 m, .int .i64 j, .slice A5 n5 cc5, .slice A6 n6 cc6] 74)) := below_new1 w5 _
                refine HNL.out.app (x := rdNode m mm.word j (mm.rd.getD j rd0)) ⟨(HIN.out.below (HDR.out.trans HO5.out.2.1)).below hb5, HBK.out⟩ ⟨?_, fun _ q hq => ⟨fun e => ?_, .inr (by have h1 := HO5.out.2.2 q hq; have h3 := HDR.out.size; have h4 := HLj.out.low.size; omega)⟩⟩ (by rw [← HN9.out]; exact H4.out)
                · have h1 := HO5.out.ints.below hb5
                  rw [HXV.out] at h1
                  exact h1
                · have h1 := HO5.out.2.2 q hq
                  have h2 := row_lt HLj.out q (by rw [← HN9.out] at *; exact e)
                  have h3 := HDR.out.size
                  omega
              case measure => simp [intOf]; omega
            · obtain rfl : j = nr := by omega
              have hall : pN d m j = pN d (m + 1) 0 := by rw [HNR.out]; exact HNX.out
              rw [hall] at HLj hlen2
              clear hall
              go_wp2
              go_roundw
              case rel => exact ⟨m + 1, _, by omega, by go_num, HLj.out, by omega⟩
              case measure => simp [intOf]; omega
        · obtain rfl : m = nm := by omega
          have hall : pN d m 0 = nodesN d := by rw [HN.out.mems]; exact pN_end d
          rw [hall] at HLm
          have HF : Hid (RetL wN.heap.size w (nodesN d) (.returned u3) wr) := Lib.hid ⟨_, us, rfl, (HLm.out.rebase HB1.out).weaken (Nat.le_refl _) HB1.out.size⟩
          go_wp2
          go_ret
          exact HF.out
end Go.Proofs.YtlahecdpcpejpaaDoor
/-
  The document's Levels, Check, walked.
-/
namespace Go.Proofs.YtlahecdpcpejpaaDoor
open Go.ChangeShapes Go.WideShapes Go.ChangeAt Go.RowKit
set_option linter.unusedVariables false
set_option linter.unusedSimpArgs false
attribute [local go_sem ↓] Go.wp_at_zero Go.wp_at_succ
/-- What the document's Levels tells. -/
def LvQ (w : World) (d : NetD) (e : Ending) (w' : World) : Prop :=
  Below w.heap.size w w' ∧
  ((soundN d ≠ 0 ∧ e = .returned (.tuple #[.slice none 0 0, .bool false])) ∨
   (soundN d = 0 ∧ ∃ V, SoundD d V ∧ ((¬ Acyc (nodesN d) V ∧ e = .returned (.tuple #[.slice none 0 0, .bool false])) ∨
     ∃ bl, ∃ o : Int → Int, e = .returned (.tuple #[.slice (some ⟨bl, 0, none⟩) (V + 1) (V + 1), .bool true]) ∧ VBlk w' bl 3 (V + 1) (fun i => .int .i64 (o i)) ∧ w.heap.size ≤ bl ∧ ∀ v : Int, 0 ≤ v → v ≤ V → 0 ≤ o v ∧ Lev (nodesN d) v (o v).toNat)))
def o0 (ls : List NodeD) (k : Nat) (v : Int) : Int := if ofK ls k v = 0 then 0 else -1
theorem o0_part (ls : List NodeD) (k : Nat) (v : Int) : (if v ∈ (ls.getD k node0).vars then -1 else o0 ls k v) = o0 ls (k + 1) v := by
  unfold o0
  rw [show ofK ls (k + 1) v = if v ∈ (ls.getD k node0).vars then k + 1 else ofK ls k v from rfl]
  by_cases h : v ∈ (ls.getD k node0).vars
  · rw [if_pos h, if_pos h, if_neg (by omega)]
  · rw [if_neg h, if_neg h]
theorem RInv.bound {l : List NodeD} {V r i left : Nat} {o : Int → Int} (ok : NodesOK l V) (h : RInv l V r i left o) {v : Int} (h0 : 0 ≤ v) (h1 : v ≤ V) : o v ≤ l.length := by
  rcases Int.lt_or_le (o v) 0 with h2 | h2
  · omega
  · have := (h.told v h0 h1 h2).bound ok
    omega
set_option maxHeartbeats 16000000 in
set_option maxRecDepth 100000 in
theorem r06_Levels {w : World} {d : NetD} {vi vl vo vb vc vm va : Value} (h : NetP w d vi vl vo vb vc vm va) (hl0 : lightN d = true) :
    Calls Tryd.prog 20 #[netV d vi vl vo vb vc vm va] w (LvQ w d) := by
  obtain ⟨ai, ci, ni, al, cl, nl, ao, co, no, ab, cb, nb, ac, cc, nc, am, cm, nm, aa, ca, na, rfl, rfl, rfl, rfl, rfl, rfl, rfl, -, -⟩ := h.open_ (lightN_iff hl0).1
  obtain ⟨wb, hwb⟩ : ∃ wb, wb = w.alloc (.cells #[.int .i64 d.vars, .slice ai ni ci, .slice al nl cl, .slice ao no co, .slice ab nb cb, .slice ac nc cc, .slice am nm cm, .slice aa na ca] 28) := ⟨_, rfl⟩
  obtain ⟨bx, hbx⟩ : ∃ bx, bx = w.heap.size := ⟨_, rfl⟩
  have HB1 : Hid (Below w.heap.size w wb) := Lib.hid (by rw [hwb]; exact below_new1 w _)
  have HBX : Hid (NBox wb bx d (.slice ai ni ci) (.slice al nl cl) (.slice ao no co) (.slice ab nb cb) (.slice ac nc cc) (.slice am nm cm) (.slice aa na ca)) := Lib.hid (by rw [hwb, hbx]; exact NBox.new w _ _ _ _ _ _ _ _)
  have HP := Lib.hid (h.below HB1.out)
  have hso := r05_Sound HP.out hl0
  unfold netV at hso ⊢
  rw [hwb] at hso
  have HSO := Lib.hid hso
  have HW1 := Lib.hid hwb
  have HBE := Lib.hid hbx
  have HL := Lib.hid hl0
  obtain ⟨f, hf⟩ : ∃ f, f = soundN d := ⟨_, rfl⟩
  rw [← hf] at HSO
  have HF0 := Lib.hid hf
  clear h hl0 hwb hbx hso hf
  by_cases hf0 : f = 0
  · have hb0 : (f != 0) = false := by rw [bne_eq_false_iff_eq]; exact hf0
    have HS0 : Hid (soundN d = 0) := Lib.hid (by rw [← HF0.out]; exact hf0)
    obtain ⟨V, hs⟩ := soundN_ok HS0.out
    have hV := hs.lim
    have HS := Lib.hid hs
    have HOK := Lib.hid hs.nodes
    have HLEN := Lib.hid (nodes_len hs)
    have hmk := fun W => run_makeN (P := Tryd.prog) 23 3 (.int .i64 0) 1 8 Tryd.underlying23 infoI .i64 .i64 (V + 1) (V + 1) (Nat.le_refl _) (by omega) (by omega) W
    rw [show ((V + 1 : Nat) : Int) = (V : Int) + 1 by omega] at hmk
    clear hs hf0
    rw [HS.out.vars] at HSO HW1
    rw [HS.out.vars]
    go_enter Tryd.func20, Tryd.ntmps20
    go_wp2_with fail
    refine HSO.out.mono ?_
    rintro e w2 ⟨rfl, hb⟩
    rw [← HW1.out] at hb
    have HB2 := Lib.hid hb
    obtain ⟨c0, c1, c2, c3, c4, c5, c6, c7⟩ := (HBX.out.later (hb.trans ((below_new1 w2 (.cells (madeCells #[.int .i64 0] (V + 1)) 3)).mono hb.size))).all
    have d0 := (HBX.out.later hb).c0
    rw [HS.out.vars] at c0 d0
    rw [HBE.out] at c0 c1 c2 c3 c4 c5 c6 c7 d0
    obtain ⟨bl, hbl⟩ : ∃ bl, bl = w2.heap.size := ⟨_, rfl⟩
    obtain ⟨w3, hw3⟩ : ∃ w3, w3 = w2.alloc (.cells (madeCells #[.int .i64 0] (V + 1)) 3) := ⟨_, rfl⟩
    have HV3 : Hid (VBlk w3 bl 3 (V + 1) (fun i => .int .i64 (o0 (nodesN d) 0 i))) := Lib.hid (by rw [hw3, hbl]; exact VBlk.made1 w2 3 (.int .i64 0) (V + 1) (fun i _ => rfl))
    have HB3 : Hid (Below wb.heap.size wb w3) := Lib.hid (by rw [hw3]; exact hb.alloc hb.size _)
    have hnd := r06_Nodes HP.out HB3.out HL.out
    unfold netV at hnd
    rw [hw3, HS.out.vars] at hnd
    have HND := Lib.hid hnd
    have HBL : Hid (wb.heap.size ≤ bl ∧ bl < w3.heap.size) := Lib.hid (by rw [hbl, hw3]; have := hb.size; simp; omega)
    have HE3 := Lib.hid hw3
    have HEL := Lib.hid hbl
    clear hb HSO hnd hw3 hbl
    go_wp2_with fail
    refine HND.out.mono ?_
    rintro e w4 ⟨v4, us, rfl, hn4⟩
    rw [← HE3.out] at hn4
    rw [← HEL.out]
    obtain ⟨ls, hls⟩ : ∃ ls, ls = nodesN d := ⟨_, rfl⟩
    rw [← hls] at hn4 HV3 HOK HLEN
    obtain ⟨n, hn⟩ : ∃ n, n = ls.length := ⟨_, rfl⟩
    obtain ⟨A, cap, hv4, z1, z2⟩ := hn4.form
    rw [← hn] at hv4 z1
    subst hv4
    have HLS := Lib.hid hls
    have HN := Lib.hid hn
    have HN4 := Lib.hid hn4
    have HV4 := Lib.hid (HV3.out.later hn4.low)
    have HSB : Hid (∀ k, k = bl → wb.heap.size ≤ k ∧ k < w3.heap.size) := Lib.hid fun k hk => by rw [hk]; exact HBL.out
    have hn9 : n ≤ 2016 := by rw [hn]; exact HLEN.out
    have HBW : Hid (∀ W, Below w3.heap.size w3 W → Below w.heap.size w W) := Lib.hid fun W hW => HB1.out.trans ((HB3.out.trans (hW.mono HB3.out.size)).mono HB1.out.size)
    have HVL : Hid (∀ W, VBlk W bl 3 (V + 1) (fun i => .int .i64 0) → True) := Lib.hid fun _ _ => trivial
    clear hls hn hn4 c0 c1 c2 c3 c4 c5 c6 c7 d0 hmk HND HVL
    have HNB := Lib.hid (HN4.out.rebase HB3.out)
    obtain ⟨C, hC⟩ : ∃ C, C = w3.heap.size := ⟨_, rfl⟩
    obtain ⟨B, hB⟩ : ∃ B, B = wb.heap.size := ⟨_, rfl⟩
    have HSC : Hid (∀ k, k = bl → B ≤ k ∧ k < C) := Lib.hid fun k hk => by rw [hB, hC]; exact HSB.out k hk
    rw [← hC, ← hB] at HNB
    have HBB := Lib.hid hB
    clear hC hB
    go_wp2
    go_loopw [6, 7] (fun i _ wr => ∃ k : Nat, k ≤ n ∧ i = .int .i64 k ∧ NList B C wb wr (.slice A n cap) ls us ∧ VBlk wr bl 3 (V + 1) (fun i => .int .i64 (o0 ls k i))) (fun i _ _ => n - (intOf i).toNat)
    case atStart => exact ⟨0, Nat.zero_le _, rfl, HNB.out, HV4.out⟩
    case round =>
      obtain ⟨k, hk, rfl, hNL, hVB⟩ := hrel
      have HNL := Lib.hid hNL
      have HVB := Lib.hid hVB
      by_cases hlt : (k : Int) < (n : Int)
      · have hkn : k < ls.length := by have := HN.out; omega
        obtain ⟨g, cap', he, -, -, -, -, -, -, q4, -, hin⟩ := hNL.node hkn
        injection he with e1 e2 e3
        subst e1
        obtain ⟨xv, hxv⟩ : ∃ xv, xv = (ls.getD k node0).vars := ⟨_, rfl⟩
        obtain ⟨u4, hu4⟩ : ∃ u, u = (us.getD k (undef, undef)).2 := ⟨_, rfl⟩
        rw [← hxv, ← hu4] at hin
        rw [← hu4] at q4
        obtain ⟨A4, c4, hu4e, -, y1, y2, -⟩ := id hin.1
        obtain ⟨nx, hnx⟩ : ∃ nx, nx = xv.length := ⟨_, rfl⟩
        rw [← hnx] at hu4e y1
        subst hu4e
        unfold maxLen at y2
        have HU4 := Lib.hid hu4
        have HXV := Lib.hid hxv
        have HNX := Lib.hid hnx
        have HKN := Lib.hid hkn
        have HVR : Hid (∀ v ∈ xv, 1 ≤ v ∧ v ≤ (V : Int)) := Lib.hid (by rw [hxv]; exact HOK.out.vrng k hkn)
        have HV0 : Hid (VBlk wr bl 3 (V + 1) (fun i => .int .i64 (if (i : Int) ∈ xv.take 0 then -1 else o0 ls k i))) := Lib.hid (by simpa using HVB.out)
        clear hNL hVB q4 hin hu4 hxv hnx hkn e2 e3
        go_wp2
        go_loopw [7] (fun i wr => ∃ t : Nat, t ≤ nx ∧ i = .int .i64 t ∧ NList B C wb wr (.slice (some ⟨g, 0, none⟩) n cap) ls us ∧ VBlk wr bl 3 (V + 1) (fun i => .int .i64 (if (i : Int) ∈ xv.take t then -1 else o0 ls k i))) (fun i _ => nx - (intOf i).toNat)
        case atStart => exact ⟨0, Nat.zero_le _, rfl, HNL.out, HV0.out⟩
        case round =>
          obtain ⟨t, ht, rfl, hNL, hVB⟩ := hrel
          have HNLt := Lib.hid hNL
          have HVBt := Lib.hid hVB
          obtain ⟨g', cap', he, -, -, -, -, -, -, q4, -, hin⟩ := hNL.node HKN.out
          injection he with e1 e2 e3
          injection e1 with e1
          injection e1 with e1
          subst e1
          rw [← HU4.out] at q4 hin
          rw [← HXV.out] at hin
          clear hNL hVB e2 e3
          by_cases hltt : (t : Int) < (nx : Int)
          · have htn : t < xv.length := by have := HNX.out; omega
            obtain ⟨-, hii⟩ := ints_hii hin.1
            obtain ⟨b, off, rfl, hcs⟩ := hii.resolve_left (fun e => by rw [e] at htn; simp at htn)
            have q := hcs t htn
            have hv := HVR.out (xv.getD t 0) (mem_getD 0 htn)
            have hts := take_snocI htn
            obtain ⟨v, hv9⟩ : ∃ v, v = xv.getD t 0 := ⟨_, rfl⟩
            rw [← hv9] at q hv hts
            obtain ⟨vn, rfl⟩ : ∃ vn : Nat, v = vn := ⟨v.toNat, by omega⟩
            have hvV : vn < V + 1 := by omega
            have co' := HVBt.out.cell hvV
            have fo' := HVBt.out.frozen vn
            generalize (Value.int .i64 (if ((vn : Nat) : Int) ∈ xv.take t then -1 else o0 ls k vn)) = old at co'
            have HTS := Lib.hid hts
            have hv1 : 0 ≤ (vn : Int) := by omega
            have hv2 : (vn : Int) < (V : Int) + 1 := by omega
            clear hcs hii hts hv9 htn hv hin
            go_wp2
            go_roundw
            case rel =>
              refine ⟨t + 1, by omega, by go_num, ?_, ?_⟩
              · exact HNLt.out.chg ((Chg.refl (fun k => k = bl) wr).setCell (p := ⟨bl, vn, none⟩) (.inl rfl) _) HSC.out (HNLt.out.low.setCell (by have := HBL.out; simp; omega) _)
              · refine (HVBt.out.set_ vn (.int .i64 (-1))).ext (fun i _ => ?_)
                rw [HTS.out]
                by_cases e : i = vn
                · subst e; simp
                · have e2 : (i : Int) ≠ (vn : Int) := by omega
                  simp [e, e2]
            case measure => simp [intOf]; omega
          · obtain rfl : t = nx := by omega
            have HFIN : Hid (VBlk wr bl 3 (V + 1) (fun i => .int .i64 (o0 ls (k + 1) i))) := Lib.hid (HVBt.out.ext (fun i _ => by
              rw [List.take_of_length_le (by have := HNX.out; omega), ← o0_part, HXV.out]))
            clear hin
            go_wp2
            go_roundw
            case rel => exact ⟨k + 1, by omega, by go_num, HNLt.out, HFIN.out⟩
            case measure => simp [intOf]; omega
      · obtain rfl : k = n := by omega
        have hR0 : RInv ls V 0 0 0 (fun v => o0 ls k v) := RInv.start HOK.out (fun v => by unfold o0 ofN; rw [← HN.out])
        have HR0 := Lib.hid hR0
        obtain ⟨wq, rfl⟩ : ∃ wq : World, wq = wr := ⟨_, rfl⟩
        clear hR0 hNL hVB
        go_wp2
        go_loopw [8, 9, 10, 11, 12] (fun lf i _ _ _ wr => ∃ r left : Nat, ∃ o : Int → Int, r ≤ k + 1 ∧ i = .int .i64 r ∧ lf = .int .i64 left ∧ left ≤ k ∧ (r ≤ k → RInv ls V r 0 0 o) ∧ (∀ q, r = q + 1 → RInv ls V q ls.length left o) ∧ NList B C wb wr (.slice A k cap) ls us ∧ VBlk wr bl 3 (V + 1) (fun i => .int .i64 (o i))) (fun _ i _ _ _ _ => k + 1 - (intOf i).toNat)
        case atStart => exact ⟨0, 0, _, Nat.zero_le _, rfl, rfl, Nat.zero_le _, (fun _ => HR0.out), (fun q hq => by omega), HNL.out, HVB.out⟩
        case round =>
          obtain ⟨r, left, o, hr, rfl, rfl, hlf, hR1, hR2, hNL, hVB⟩ := hrel
          have HNLr := Lib.hid hNL
          have HVBr := Lib.hid hVB
          have HR2 := Lib.hid hR2
          clear hNL hVB hR2
          by_cases hltr : (r : Int) ≤ (k : Int)
          · have HR1 := Lib.hid (hR1 (by omega))
            obtain ⟨wp, rfl⟩ : ∃ wp : World, wp = wr := ⟨_, rfl⟩
            clear hR1
            go_wp2
            go_loopw [8, 10, 11, 12] (fun lf i _ _ wr => ∃ j left : Nat, ∃ o : Int → Int, j ≤ k ∧ i = .int .i64 j ∧ lf = .int .i64 left ∧ left ≤ j ∧ RInv ls V r j left o ∧ NList B C wb wr (.slice A k cap) ls us ∧ VBlk wr bl 3 (V + 1) (fun i => .int .i64 (o i))) (fun _ i _ _ _ => k - (intOf i).toNat)
            case atStart => exact ⟨0, 0, o, Nat.zero_le _, rfl, rfl, Nat.zero_le _, HR1.out, HNLr.out, HVBr.out⟩
            case round =>
              obtain ⟨j, left, o, hj, rfl, rfl, hlf, hRj, hNL, hVB⟩ := hrel
              have HNLj := Lib.hid hNL
              have HVBj := Lib.hid hVB
              have HRJ := Lib.hid hRj
              by_cases hltj : (j : Int) < (k : Int)
              · have hjn : j < ls.length := by have := HN.out; omega
                obtain ⟨g, cap', he, -, -, q0, q1, q2, q3, q4, hin3, hin4⟩ := hNL.node hjn
                injection he with e1 e2 e3
                subst e1
                obtain ⟨x, hx⟩ : ∃ x, x = ls.getD j node0 := ⟨_, rfl⟩
                obtain ⟨u4, hu4⟩ : ∃ u, u = (us.getD j (undef, undef)).2 := ⟨_, rfl⟩
                obtain ⟨u3, hu3⟩ : ∃ u, u = (us.getD j (undef, undef)).1 := ⟨_, rfl⟩
                have hstep := hRj.step HOK.out hjn
                have hfr : ∀ y ∈ x.frm, 0 ≤ y ∧ y ≤ 2 * (V : Int) + 1 := by rw [hx]; exact HOK.out.frng j hjn
                have HVR : Hid (∀ v ∈ x.vars, 1 ≤ v ∧ v ≤ (V : Int)) := Lib.hid (by rw [hx]; exact HOK.out.vrng j hjn)
                rw [← hx] at q0 q1 q2 hin3 hin4 hstep
                rw [← hu3] at q3 hin3
                rw [← hu4] at q4 hin4
                have hlv := r06_level hin3.1 hin4.1 hVB hfr hV (fun v h0 h1 => by have := hRj.bound HOK.out h0 h1; have := HLEN.out; omega)
                obtain ⟨A3, c3, hu3e, -⟩ := id hin3.1
                obtain ⟨A4, c4, hu4e, -, y1, y2, -⟩ := id hin4.1
                obtain ⟨xv, hxv⟩ : ∃ xv, xv = x.vars := ⟨_, rfl⟩
                obtain ⟨nx, hnx⟩ : ∃ nx, nx = xv.length := ⟨_, rfl⟩
                rw [← hxv] at hu4e y1 hstep HVR
                rw [← hnx] at hu4e y1
                generalize x.frm.length = n3 at hu3e
                subst hu3e hu4e
                obtain ⟨a9, ha9⟩ : ∃ a, a = told1 x.frm o := ⟨_, rfl⟩
                rw [← ha9] at hlv hstep
                have ha1 : -1 ≤ a9 := by
                  rw [ha9]; unfold told1; split <;> omega
                obtain ⟨rd, hrd⟩ : ∃ r, r = x.read := ⟨_, rfl⟩
                obtain ⟨xm, hxm⟩ : ∃ r, r = x.mem := ⟨_, rfl⟩
                obtain ⟨xp, hxp⟩ : ∃ r, r = x.pos := ⟨_, rfl⟩
                rw [← hrd] at q0 hlv
                rw [← hxm] at q1 hlv
                rw [← hxp] at q2 hlv
                have HLVL := Lib.hid hlv
                have HST := Lib.hid hstep
                have HU4 := Lib.hid hu4
                have HXV : Hid (xv = (ls.getD j node0).vars) := Lib.hid (by rw [hxv, hx])
                have HNX := Lib.hid hnx
                have HJN := Lib.hid hjn
                unfold maxLen at y2
                clear hNL hVB hRj hin3 hin4 hstep hfr hlv hx hu3 hu4 hxv hnx ha9 hrd hxm hxp hjn e2 e3
                have HAFT : Hid (∀ left' : Nat, left' = (if a9 < 0 then left + 1 else left) → RInv ls V r (j + 1) left' (put1 xv a9 o)) := Lib.hid fun l hl => by rw [hl]; exact HST.out
                by_cases hneg : a9 < 0
                all_goals
                  go_wp2_with fail
                  refine HLVL.out.mono ?_
                  rintro e w5 ⟨rfl, hb5⟩
                  have HNL5 := Lib.hid (HNLj.out.below hb5)
                  have HVB5 : Hid (VBlk w5 bl 3 (V + 1) (fun i => .int .i64 (put1 (xv.take 0) a9 o i))) := Lib.hid (by have h1 := HVBj.out.later hb5; simpa [put1] using h1)
                  have q45 := cell_below q4 hb5
                  clear hb5 q0 q1 q2 q3 q4
                  go_wp2
                  clear q45
                  go_loopw [12] (fun i wr => ∃ t : Nat, t ≤ nx ∧ i = .int .i64 t ∧ NList B C wb wr (.slice (some ⟨g, 0, none⟩) k cap) ls us ∧ VBlk wr bl 3 (V + 1) (fun i => .int .i64 (put1 (xv.take t) a9 o i))) (fun i _ => nx - (intOf i).toNat)
                  case atStart => exact ⟨0, Nat.zero_le _, rfl, HNL5.out, HVB5.out⟩
                  case round =>
                    obtain ⟨t, ht, rfl, hNL, hVB⟩ := hrel
                    have HNLt := Lib.hid hNL
                    have HVBt := Lib.hid hVB
                    obtain ⟨g', cap', he, -, -, -, -, -, -, q4, -, hin⟩ := hNL.node HJN.out
                    injection he with e1 e2 e3
                    injection e1 with e1
                    injection e1 with e1
                    subst e1
                    rw [← HU4.out] at q4 hin
                    rw [← HXV.out] at hin
                    clear hNL hVB e2 e3
                    by_cases hltt : (t : Int) < (nx : Int)
                    · have htn : t < xv.length := by have := HNX.out; omega
                      obtain ⟨-, hii⟩ := ints_hii hin.1
                      obtain ⟨b, off, rfl, hcs⟩ := hii.resolve_left (fun e => by rw [e] at htn; simp at htn)
                      have q := hcs t htn
                      have hv := HVR.out (xv.getD t 0) (mem_getD 0 htn)
                      have hts := take_snocI htn
                      obtain ⟨v, hv9⟩ : ∃ v, v = xv.getD t 0 := ⟨_, rfl⟩
                      rw [← hv9] at q hv hts
                      obtain ⟨vn, rfl⟩ : ∃ vn : Nat, v = vn := ⟨v.toNat, by omega⟩
                      have hvV : vn < V + 1 := by omega
                      have co' := HVBt.out.cell hvV
                      have fo' := HVBt.out.frozen vn
                      generalize (Value.int .i64 (put1 (xv.take t) a9 o vn)) = old at co'
                      have HTS := Lib.hid hts
                      have hv1 : 0 ≤ (vn : Int) := by omega
                      have hv2 : (vn : Int) < (V : Int) + 1 := by omega
                      clear hcs hii hts hv9 htn hv hin
                      go_wp2
                      go_roundw
                      case rel =>
                        refine ⟨t + 1, by omega, by go_num, ?_, ?_⟩
                        · exact HNLt.out.chg ((Chg.refl (fun k => k = bl) wr).setCell (p := ⟨bl, vn, none⟩) (.inl rfl) _) HSC.out (HNLt.out.low.setCell (by have := HBL.out; simp; omega) _)
                        · refine (HVBt.out.set_ vn (.int .i64 a9)).ext (fun i _ => ?_)
                          rw [HTS.out]
                          unfold put1
                          by_cases e : i = vn
                          · subst e; simp
                          · have e2 : (i : Int) ≠ (vn : Int) := by omega
                            simp [e, e2]
                      case measure => simp [intOf]; omega
                    · obtain rfl : t = nx := by omega
                      have HFIN : Hid (VBlk wr bl 3 (V + 1) (fun i => .int .i64 (put1 xv a9 o i))) := Lib.hid (HVBt.out.ext (fun i _ => by rw [List.take_of_length_le (by have := HNX.out; omega)]))
                      clear hin
                      go_wp2
                      go_roundw
                      case rel =>
                        first
                          | exact ⟨j + 1, left + 1, _, by omega, by go_num, by go_num, by omega, HAFT.out _ (by rw [if_pos (by omega)]), HNLt.out, HFIN.out⟩
                          | exact ⟨j + 1, left, _, by omega, by go_num, rfl, by omega, HAFT.out _ (by rw [if_neg (by omega)]), HNLt.out, HFIN.out⟩
                      case measure => simp [intOf]; omega
              · obtain rfl : j = k := by omega
                have HNX : Hid (RInv ls V r ls.length left o) := Lib.hid (by rw [← HN.out]; exact HRJ.out)
                clear hRj hNL hVB
                go_wp2
                go_roundw
                case rel => exact ⟨r + 1, left, o, by omega, by go_num, rfl, by omega, (fun _ => HNX.out.next HOK.out), (fun q hq => by rw [show q = r by omega]; exact HNX.out), HNLj.out, HVBj.out⟩
                case measure => simp [intOf]; omega
          · obtain rfl : r = k + 1 := by omega
            have HEND := Lib.hid (HR2.out k rfl)
            have HBE2 : Hid (Below w.heap.size w wr) := Lib.hid (HB1.out.trans (HNLr.out.low.mono HB1.out.size))
            clear hR1
            by_cases hl0 : 0 < (left : Int)
            · have HF : Hid (LvQ w d (.returned (.tuple #[.slice none 0 0, .bool false])) wr) := Lib.hid ⟨HBE2.out, .inr ⟨HS0.out, V, HS.out, .inl ⟨by rw [← HLS.out]; exact HEND.out.no HOK.out (by have := HN.out; omega) (by omega), rfl⟩⟩⟩
              go_wp2
              go_ret2
              exact HF.out
            · obtain rfl : left = 0 := by omega
              have HF : Hid (LvQ w d (.returned (.tuple #[.slice (some ⟨bl, 0, none⟩) (V + 1) (V + 1), .bool true])) wr) := Lib.hid ⟨HBE2.out, .inr ⟨HS0.out, V, HS.out, .inr ⟨bl, o, rfl, HVBr.out, Nat.le_trans HB1.out.size HBL.out.1, by rw [← HLS.out]; exact HEND.out.yes HOK.out⟩⟩⟩
              clear hl0
              go_wp2
              go_ret2
              exact HF.out
  · have hb0 : (f != 0) = true := by rw [bne_iff_ne]; exact hf0
    have HNE : Hid (soundN d ≠ 0) := Lib.hid (by rw [← HF0.out]; exact hf0)
    clear hf0
    go_enter Tryd.func20, Tryd.ntmps20
    go_wp2_with fail
    refine HSO.out.mono ?_
    rintro e w2 ⟨rfl, hb⟩
    rw [← HW1.out] at hb
    have HF : Hid (LvQ w d (.returned (.tuple #[.slice none 0 0, .bool false])) w2) := Lib.hid ⟨HB1.out.trans (hb.mono HB1.out.size), .inl ⟨HNE.out, rfl⟩⟩
    clear hb
    go_wp2
    go_ret2
    exact HF.out
end Go.Proofs.YtlahecdpcpejpaaDoor
