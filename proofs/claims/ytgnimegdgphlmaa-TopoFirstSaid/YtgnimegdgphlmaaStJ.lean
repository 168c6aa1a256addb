/-
  Chapter 06: levels and orders as plain data; TopoOrders walked.
-/
import Derived.Test.YtgnimegdgphlmaaStG
import Derived.Test.YtgnimegdgphlmaaR6D
import Derived.Test.YtgnimegdgphlmaaSame
import Derived.Test.YtgnimegdgphlmaaTopJ
namespace Go.Proofs.Ytgnimegdgphlmaa
open Go.ChangeShapes Go.WideShapes Go.ChangeAt Go.RowKit
set_option linter.unusedVariables false
set_option linter.unusedSimpArgs false
attribute [local go_sem ↓] Go.wp_at_zero Go.wp_at_succ
open Classical in
/-- A variable's level. -/
noncomputable def levF (d : NetD) (v : Int) : Nat := if h : ∃ k, Lev (nodesN d) v k then Classical.choose h else 0
theorem levF_eq {d : NetD} {V : Nat} (hs : SoundD d V) {v : Int} {k : Nat} (h : Lev (nodesN d) v k) : levF d v = k := by
  have hx : ∃ k, Lev (nodesN d) v k := ⟨k, h⟩
  unfold levF
  rw [dif_pos hx]
  exact (Classical.choose_spec hx).uniq hs.nodes h
/-- The levels, and the order, as lists. -/
noncomputable def levL (d : NetD) : List Int := if checkN d = 0 then (List.range (d.vars.toNat + 1)).map (fun v : Nat => ((levF d v : Nat) : Int)) else []
noncomputable def ordD (d : NetD) : List NodeD := if checkN d = 0 then ordN (nodesN d) (fun v => (levF d v : Int)) (nodesN d).length else []
noncomputable def goodB (d : NetD) : Bool := decide (checkN d = 0)
theorem goodB_yes {d : NetD} (h : checkN d = 0) : goodB d = true := by unfold goodB; simp [h]
theorem goodB_no {d : NetD} (h : checkN d ≠ 0) : goodB d = false := by unfold goodB; simp [h]
theorem ints_vblk {w : World} {bl n : Nat} {f : Nat → Int} (h : VBlk w bl 3 n (fun i => .int .i64 (f i))) (hn : n ≤ 9223372036854775807) : Ints w (.slice (some ⟨bl, 0, none⟩) n n) ((List.range n).map f) := by
  refine ⟨some ⟨bl, 0, none⟩, n, by simp, fun e => (by cases e), by simp, by simpa [maxLen] using hn, .inr ⟨bl, 0, rfl, fun j hj => ?_⟩⟩
  rw [List.length_map, List.length_range] at hj
  rw [Nat.zero_add, h.cell hj]
  simp [List.getD, hj]
def LevU (w : World) (d : NetD) (e : Ending) (w' : World) : Prop := ∃ u, e = .returned (.tuple #[u, .bool (goodB d)]) ∧ Ints w' u (levL d) ∧ Below w.heap.size w w'
theorem levL_of {d : NetD} {V : Nat} (hs : SoundD d V) (hc : checkN d = 0) {lv : Int → Int} (h : ∀ v : Int, 0 ≤ v → v ≤ V → 0 ≤ lv v ∧ Lev (nodesN d) v (lv v).toNat) : levL d = (List.range (V + 1)).map (fun v : Nat => lv v) := by
  have hV : d.vars.toNat = V := by have := hs.vars; omega
  unfold levL
  rw [if_pos hc, hV]
  refine List.map_congr_left fun v hv => ?_
  rw [List.mem_range] at hv
  obtain ⟨h0, h1⟩ := h v (by omega) (by omega)
  rw [levF_eq hs h1]
  omega
theorem LevQ.u {w : World} {d : NetD} {e : Ending} {w' : World} (h : LevQ w d e w') : LevU w d e w' := by
  obtain ⟨hb, ⟨hc, rfl⟩ | ⟨hc, V, hs, bl, lv, rfl, hv, -, hl⟩⟩ := h
  · exact ⟨_, by rw [goodB_no hc], by unfold levL; rw [if_neg hc]; exact ints_nil _, hb⟩
  · refine ⟨_, by rw [goodB_yes hc], ?_, hb⟩
    rw [levL_of hs hc (lv := fun v => (lv v : Int)) (fun v a b => ⟨by omega, by simpa using hl v a b⟩)]
    exact ints_vblk (f := fun i => ((lv i : Nat) : Int)) hv (by have := hs.lim; omega)
theorem LvQ.u {w : World} {d : NetD} {e : Ending} {w' : World} (h : LvQ w d e w') : LevU w d e w' := by
  obtain ⟨hb, ⟨h1, rfl⟩ | ⟨h0, V, hs, ⟨hn, rfl⟩ | ⟨bl, o, rfl, hv, -, hl⟩⟩⟩ := h
  · have hc : checkN d ≠ 0 := by rw [checkN_bad h1]; exact h1
    exact ⟨_, by rw [goodB_no hc], by unfold levL; rw [if_neg hc]; exact ints_nil _, hb⟩
  · have hc : checkN d ≠ 0 := by rw [checkN_no h0 hs hn]; decide
    exact ⟨_, by rw [goodB_no hc], by unfold levL; rw [if_neg hc]; exact ints_nil _, hb⟩
  · have hc : checkN d = 0 := checkN_yes h0 hs fun v a b => ⟨_, (hl v a b).2⟩
    refine ⟨_, by rw [goodB_yes hc], ?_, hb⟩
    rw [levL_of hs hc hl]
    exact ints_vblk (f := fun i => o (i : Int)) hv (by have := hs.lim; omega)
theorem ordD_of {d : NetD} {V : Nat} (hs : SoundD d V) (hc : checkN d = 0) {lv : Int → Int} (h : ∀ v : Int, 0 ≤ v → v ≤ V → 0 ≤ lv v ∧ Lev (nodesN d) v (lv v).toNat) : ordD d = ordN (nodesN d) lv (nodesN d).length := by
  unfold ordD
  rw [if_pos hc]
  refine ordN_congr (fun x hx => ?_) _
  obtain ⟨h0, h1, -⟩ := head_lev hs.nodes hx
  obtain ⟨a, b⟩ := h _ h0 h1
  rw [levF_eq hs b]
  omega
def OrdTU (w : World) (d : NetD) (e : Ending) (w' : World) : Prop := ∃ v, e = .returned (.tuple #[v, .bool (goodB d)]) ∧ TNodes w w' v (ordD d) ∧ Below w.heap.size w w'
def OrdRU (B : Nat) (w : World) (d : NetD) (e : Ending) (w' : World) : Prop := ∃ v us, e = .returned (.tuple #[v, .bool (goodB d)]) ∧ NList B w.heap.size w w' v (ordD d) us ∧ Below w.heap.size w w'
theorem OrdT.u {w : World} {d : NetD} {e : Ending} {w' : World} (h : OrdT w d e w') : OrdTU w d e w' := by
  obtain ⟨hb, ⟨hc, rfl⟩ | ⟨hc, V, hs, lv, v, rfl, hl, ht⟩⟩ := h
  · exact ⟨_, by rw [goodB_no hc], by unfold ordD; rw [if_neg hc]; exact ⟨World.ownsRow_nil _ _ _ _, fun k hk => by simp [Value.ownBlock] at hk⟩, hb⟩
  · refine ⟨_, by rw [goodB_yes hc], ?_, hb⟩
    rw [ordD_of hs hc (lv := fun v => (lv v : Int)) (fun v a b => ⟨by omega, by simpa using hl v a b⟩)]
    exact ht
theorem OrdQ.u {B : Nat} {w : World} {d : NetD} {e : Ending} {w' : World} (h : OrdQ B w d e w') : OrdRU B w d e w' := by
  obtain ⟨hb, ⟨hn, rfl⟩ | ⟨h0, V, hs, o, v, us, rfl, hl, ht⟩⟩ := h
  · have hc : checkN d ≠ 0 := fun hc => hn (good_iff.1 hc)
    exact ⟨_, [], by rw [goodB_no hc], by unfold ordD; rw [if_neg hc]; exact (NList.start B w).below hb, hb⟩
  · have hc : checkN d = 0 := checkN_yes h0 hs fun v a b => ⟨_, (hl v a b).2⟩
    refine ⟨_, us, by rw [goodB_yes hc], ?_, hb⟩
    rw [ordD_of hs hc hl]
    exact ht
theorem ordN_len (l : List NodeD) (o : Int → Int) : ∀ a : Nat, (ordN l o a).length = l.countP (fun x => decide (1 ≤ o (x.vars.headD 0) ∧ o (x.vars.headD 0) ≤ (a : Int)))
  | 0 => by
    rw [List.countP_eq_zero.2 (fun x _ h => by have := of_decide_eq_true h; omega)]
    rfl
  | a + 1 => by
    rw [ordN_succ, List.length_append, ordN_len l o a, ← List.countP_eq_length_filter]
    have : ∀ l : List NodeD, l.countP (fun x => decide (1 ≤ o (x.vars.headD 0) ∧ o (x.vars.headD 0) ≤ (a : Int))) + l.countP (lvAt o a) = l.countP (fun x => decide (1 ≤ o (x.vars.headD 0) ∧ o (x.vars.headD 0) ≤ ((a + 1 : Nat) : Int))) := by
      intro l
      induction l with
      | nil => rfl
      | cons x l ih =>
        simp only [List.countP_cons]
        rw [← ih]
        unfold lvAt
        by_cases h1 : 1 ≤ o (x.vars.headD 0) ∧ o (x.vars.headD 0) ≤ (a : Int)
        · rw [decide_eq_true h1, decide_eq_true (p := 1 ≤ o (x.vars.headD 0) ∧ o (x.vars.headD 0) ≤ ((a + 1 : Nat) : Int)) (by omega), decide_eq_false (by omega)]
          simp
          omega
        · by_cases h2 : o (x.vars.headD 0) = ((a + 1 : Nat) : Int)
          · rw [decide_eq_false h1, decide_eq_true (p := 1 ≤ o (x.vars.headD 0) ∧ o (x.vars.headD 0) ≤ ((a + 1 : Nat) : Int)) (by omega), decide_eq_true h2]
            simp
            omega
          · rw [decide_eq_false h1, decide_eq_false (p := 1 ≤ o (x.vars.headD 0) ∧ o (x.vars.headD 0) ≤ ((a + 1 : Nat) : Int)) (by omega), decide_eq_false h2]
            simp
    exact this l
theorem ordD_good {d : NetD} (hc : checkN d = 0) : (ordD d).length = (nodesN d).length ∧ ∀ x ∈ ordD d, x ∈ nodesN d := by
  obtain ⟨h0, V, hs, ha⟩ := good_iff.1 hc
  refine ⟨?_, fun x hx => ?_⟩
  · unfold ordD
    rw [if_pos hc, ordN_len]
    refine List.countP_eq_length.2 fun x hx => ?_
    obtain ⟨g0, g1, i, hi, rfl, hm⟩ := head_lev hs.nodes hx
    have hlv : ∀ v : Int, 0 ≤ v → v ≤ V → 0 ≤ ((levF d v : Nat) : Int) ∧ Lev (nodesN d) v ((levF d v : Nat) : Int).toNat := fun v a b => by
      obtain ⟨k, hk⟩ := ha v a b
      rw [levF_eq hs hk]
      exact ⟨by omega, by simpa using hk⟩
    obtain ⟨a1, a2, a3⟩ := node_lev (o := fun v => ((levF d v : Nat) : Int)) hs.nodes hlv hi hm (hlv _ g0 g1).2
    rw [decide_eq_true_eq]
    omega
  · unfold ordD at hx
    rw [if_pos hc] at hx
    exact (ordN_mem.1 hx).1
theorem ordD_len (d : NetD) : (ordD d).length ≤ 2016 ∧ ∀ x ∈ ordD d, x ∈ nodesN d := by
  by_cases hc : checkN d = 0
  · obtain ⟨h0, V, hs, ha⟩ := good_iff.1 hc
    have hl := nodes_len hs
    obtain ⟨h1, h2⟩ := ordD_good hc
    exact ⟨by omega, h2⟩
  · unfold ordD
    rw [if_neg hc]
    exact ⟨by simp, fun x hx => by simp at hx⟩
end Go.Proofs.Ytgnimegdgphlmaa
/-
  Chapter 06: TopoOrders walked.
-/
namespace Go.Proofs.Ytgnimegdgphlmaa
open Go.ChangeShapes Go.WideShapes Go.ChangeAt Go.RowKit
set_option linter.unusedVariables false
set_option linter.unusedSimpArgs false
attribute [local go_sem ↓] Go.wp_at_zero Go.wp_at_succ
theorem row3_form {w : World} {v : Value} {ls : List NodeD} (h : Row w 44 3 v ls.length (ls.flatMap nodeC)) : ∃ A cap, v = .slice A ls.length cap ∧ ls.length ≤ cap ∧ cap ≤ 9223372036854775807 := by
  rcases h.form with ⟨h1, h0, -⟩ | ⟨g, cap, h1, h2, h3, -, hc⟩
  · exact ⟨none, 0, by rw [h1, h0], by omega, by omega⟩
  · unfold maxLen at h3; exact ⟨_, cap, h1, h2, by omega⟩
theorem row3_node {w : World} {v : Value} {ls : List NodeD} (h : Row w 44 3 v ls.length (ls.flatMap nodeC)) {k : Nat} (hk : k < ls.length) : ∃ g cap, v = .slice (some ⟨g, 0, none⟩) ls.length cap ∧
    w.cell? ⟨g, k * 3, none⟩ = some (.bool (ls.getD k node0).read) ∧ w.cell? ⟨g, k * 3 + 1, none⟩ = some (.int .i64 (ls.getD k node0).mem) ∧ w.cell? ⟨g, k * 3 + 2, none⟩ = some (.int .i64 (ls.getD k node0).pos) := by
  rcases h.form with ⟨-, h0, -⟩ | ⟨g, cap, h1, h2, h3, -, hc⟩
  · omega
  · have hl := flat3_len ls
    refine ⟨g, cap, h1, ?_, ?_, ?_⟩
    · have := (hc (k * 3) (by omega)).1
      rw [show k * 3 = k * 3 + 0 by omega, flat3 ls k 0 hk (by omega)] at this
      exact this
    · rw [(hc (k * 3 + 1) (by omega)).1, flat3 ls k 1 hk (by omega)]; rfl
    · rw [(hc (k * 3 + 2) (by omega)).1, flat3 ls k 2 hk (by omega)]; rfl
set_option maxHeartbeats 8000000 in
set_option maxRecDepth 100000 in
theorem claw_orders {w : World} {d : NetD} {vi vl vo vb vc vm va : Value} (h : NetP w d vi vl vo vb vc vm va) :
    Calls Try.prog 5 #[netV d vi vl vo vb vc vm va] w fun e w' => e = .returned (.bool true) ∧ Below w.heap.size w w' := by
  obtain ⟨ai, ci, h1, -⟩ := id h.inp
  obtain ⟨al, cl, h2, -⟩ := h.lat.form
  obtain ⟨ao, co, h3, -⟩ := id h.out
  obtain ⟨ab, cb, h4, -⟩ := id h.bad
  obtain ⟨ac, cc, h5, -⟩ := id h.con
  obtain ⟨am, cm, h6, -⟩ := h.mems.form
  obtain ⟨aa, ca, h7, -⟩ := h.ands.form
  subst h1 h2 h3 h4 h5 h6 h7
  generalize hni : d.inp.length = ni at *
  generalize hnl : d.lat.length = nl at *
  generalize hno : d.out.length = no at *
  generalize hnb : d.bad.length = nb at *
  generalize hnc : d.con.length = nc at *
  generalize hnm : d.mems.length = nm at *
  generalize hna : d.ands.length = na at *
  obtain ⟨wb, hwb⟩ : ∃ wb, wb = w.alloc (.cells #[.int .i64 d.vars, .slice ai ni ci, .slice al nl cl, .slice ao no co, .slice ab nb cb, .slice ac nc cc, .slice am nm cm, .slice aa na ca] 27) := ⟨_, rfl⟩
  have hB1 : Below w.heap.size w wb := by rw [hwb]; exact below_new1 w _
  have hBX : NBox wb w.heap.size d (.slice ai ni ci) (.slice al nl cl) (.slice ao no co) (.slice ab nb cb) (.slice ac nc cc) (.slice am nm cm) (.slice aa na ca) := by rw [hwb]; exact NBox.new w _ _ _ _ _ _ _ _
  have hP := h.below hB1
  have hli := w06_light hP
  unfold netV at hli ⊢
  rw [hwb] at hli
  have HLI := Lib.hid hli
  have HB1 := Lib.hid hB1
  have HW1 := Lib.hid hwb
  have HBX := Lib.hid hBX
  have HP := Lib.hid hP
  clear h hli hwb hB1 hBX hP hna hni hnl hno hnb hnc hnm
  cases hq : lightD d with
  | false =>
    rw [hq] at HLI
    go_enter Try.func5, Try.ntmps5
    go_wp2_with fail
    refine HLI.out.mono ?_
    rintro e w2 ⟨rfl, hb⟩
    have HB2 := Lib.hid ((below_new1 w _).trans (hb.mono (by simp)))
    clear hb hq HLI
    go_wp2_with (go_at_call 8; refine (w06_alive w2).mono ?_; rintro e w3 ⟨rfl, hb3⟩; have HB3 := Lib.hid (HB2.out.trans (hb3.mono HB2.out.size)); clear hb3)
    go_ret
    exact ⟨rfl, HB3.out⟩
  | true =>
    rw [hq] at HLI
    have HQ := Lib.hid (lightD_iff hq)
    clear hq
    go_enter Try.func5, Try.ntmps5
    go_wp2_with fail
    refine HLI.out.mono ?_
    rintro e w2 ⟨rfl, hb⟩
    rw [← HW1.out] at hb
    have HB2 : Hid (Below w.heap.size w w2) := Lib.hid (HB1.out.trans (hb.mono HB1.out.size))
    have CK : Hid (∀ W, Below w2.heap.size w2 W → NBox W w.heap.size d (.slice ai ni ci) (.slice al nl cl) (.slice ao no co) (.slice ab nb cb) (.slice ac nc cc) (.slice am nm cm) (.slice aa na ca)) := Lib.hid fun W hW => (HBX.out.later hb).later hW
    have HP2 := Lib.hid (HP.out.below hb)
    have H1 : Hid (∀ W, Below w2.heap.size w2 W → Calls Try.prog 14 #[.agg #[.int .i64 d.vars, .slice ai ni ci, .slice al nl cl, .slice ao no co, .slice ab nb cb, .slice ac nc cc, .slice am nm cm, .slice aa na ca]] W (LevU W d)) := Lib.hid fun W hW => (topo_Levels (HP2.out.below hW) HQ.out.1).mono fun e w' hh => hh.u
    have H2 : Hid (∀ W, Below w2.heap.size w2 W → Calls Try.prog 15 #[.agg #[.int .i64 d.vars, .slice ai ni ci, .slice al nl cl, .slice ao no co, .slice ab nb cb, .slice ac nc cc, .slice am nm cm, .slice aa na ca]] W (LevU W d)) := Lib.hid fun W hW => (r06_Levels (HP2.out.below hW) HQ.out.1).mono fun e w' hh => hh.u
    have H3 : Hid (∀ W, Below w2.heap.size w2 W → Calls Try.prog 16 #[.agg #[.int .i64 d.vars, .slice ai ni ci, .slice al nl cl, .slice ao no co, .slice ab nb cb, .slice ac nc cc, .slice am nm cm, .slice aa na ca]] W (OrdTU W d)) := Lib.hid fun W hW => (topo_Order (HP2.out.below hW) HQ.out.1).mono fun e w' hh => hh.u
    have H4 : Hid (∀ W, Below w2.heap.size w2 W → Calls Try.prog 17 #[.agg #[.int .i64 d.vars, .slice ai ni ci, .slice al nl cl, .slice ao no co, .slice ab nb cb, .slice ac nc cc, .slice am nm cm, .slice aa na ca]] W (OrdRU W.heap.size W d)) := Lib.hid fun W hW => (r06_Order (HP2.out.below hW) (Below.refl _ _) HQ.out.1).mono fun e w' hh => hh.u
    have hlen := (ordD_len d).1
    obtain ⟨L, hL⟩ : ∃ L, L = levL d := ⟨_, rfl⟩
    obtain ⟨O, hO⟩ : ∃ O, O = ordD d := ⟨_, rfl⟩
    obtain ⟨G, hG⟩ : ∃ G, G = goodB d := ⟨_, rfl⟩
    unfold LevU at H1 H2
    unfold OrdTU at H3
    unfold OrdRU at H4
    rw [← hL, ← hG] at H1 H2
    rw [← hO, ← hG] at H3 H4
    rw [← hO] at hlen
    obtain ⟨n, hn⟩ : ∃ n, n = O.length := ⟨_, rfl⟩
    rw [← hn] at hlen
    have HN := Lib.hid hn
    obtain ⟨c0, c1, c2, c3, c4, c5, c6, c7⟩ := (CK.out w2 (Below.refl _ _)).all
    clear hb HLI hL hO hG hn
    go_wp2_with fail
    refine (H1.out _ (Below.refl _ _)).mono ?_
    rintro e w3 ⟨u1, rfl, i1, b1⟩
    have I1 := Lib.hid i1
    have B1 := Lib.hid b1
    clear c0 c1 c2 c3 c4 c5 c6 c7 i1 b1
    obtain ⟨c0, c1, c2, c3, c4, c5, c6, c7⟩ := (CK.out w3 B1.out).all
    go_wp2_with fail
    refine (H2.out _ B1.out).mono ?_
    rintro e w4 ⟨u2, rfl, i2, b2⟩
    have I2 := Lib.hid i2
    have B2s := Lib.hid b2
    have B2 := Lib.hid (B1.out.trans (b2.mono B1.out.size))
    clear c0 c1 c2 c3 c4 c5 c6 c7 i2 b2
    obtain ⟨c0, c1, c2, c3, c4, c5, c6, c7⟩ := (CK.out w4 B2.out).all
    go_wp2_with fail
    refine (H3.out _ B2.out).mono ?_
    rintro e w5 ⟨v3, rfl, t3, b3⟩
    have B3s := Lib.hid b3
    have B3 := Lib.hid (B2.out.trans (b3.mono B2.out.size))
    have T3 := Lib.hid t3.1
    obtain ⟨A3, cap3, rfl, z31, z32⟩ := row3_form t3.1
    clear c0 c1 c2 c3 c4 c5 c6 c7 t3 b3
    obtain ⟨c0, c1, c2, c3, c4, c5, c6, c7⟩ := (CK.out w5 B3.out).all
    go_wp2_with fail
    refine (H4.out _ B3.out).mono ?_
    rintro e w6 ⟨v4, us, rfl, t4, b4⟩
    have B4 := Lib.hid (B3.out.trans (b4.mono B3.out.size))
    have T4 := Lib.hid t4
    have T3' := Lib.hid (T3.out.chg (S := fun _ => False) (Chg.of_below b4) (fun _ _ h => h))
    have I1' := Lib.hid (I1.out.below ((B2s.out.trans (B3s.out.mono B2s.out.size)).trans (b4.mono (Nat.le_trans B2s.out.size B3s.out.size))))
    have I2' := Lib.hid (I2.out.below (B3s.out.trans (b4.mono B3s.out.size)))
    obtain ⟨A4, cap4, rfl, z41, z42⟩ := t4.form
    clear c0 c1 c2 c3 c4 c5 c6 c7 t4 b4
    rw [← HN.out] at T3' T4 z31 z41
    have HBW : Hid (Below w.heap.size w w6) := Lib.hid (HB2.out.trans (B4.out.mono HB2.out.size))
    clear H1 H2 H3 H4 T3
    rw [← HN.out]
    cases G
    all_goals
      go_wp2_with (go_at_call 11; refine (r01_Same I1'.out I2'.out).mono ?_; rintro e we ⟨rfl, ne, rfl⟩; rw [sameB_self])
      go_loopw [11] (fun c wr => ∃ j : Nat, j ≤ n ∧ c = .int .i64 j ∧ ∃ k, wr = w6.drewN k) (fun c _ => n - (intOf c).toNat)
      case atStart => exact ⟨0, Nat.zero_le _, rfl, ne, rfl⟩
      case round =>
        obtain ⟨j, hj, rfl, k, rfl⟩ := hrel
        by_cases hlt : (j : Int) < (n : Int)
        · have hjn : j < O.length := by have := HN.out; omega
          obtain ⟨g3, cp3, e3, q0, q1, q2⟩ := row3_node (ls := O) (by have := T3'.out; rw [HN.out] at this; exact this) hjn
          obtain ⟨g4, cp4, e4, -, -, p0, p1, p2, -⟩ := NList.node (ls := O) (by have := T4.out; rw [HN.out] at this; exact this) hjn
          injection e3 with e31 e32 e33
          injection e4 with e41 e42 e43
          subst e31 e41
          obtain ⟨x, hx⟩ : ∃ x, x = O.getD j node0 := ⟨_, rfl⟩
          rw [← hx] at q0 q1 q2 p0 p1 p2
          obtain ⟨xr, hxr⟩ : ∃ r, r = x.read := ⟨_, rfl⟩
          rw [← hxr] at q0 p0
          generalize x.mem = xm at *
          generalize x.pos = xp at *
          have hk1 : ∀ a, (w6.drewN k).cell? a = w6.cell? a := fun _ => rfl
          have hne1 : ((xm : Int) != (xm : Int)) = false := by simp
          have hne2 : ((xp : Int) != (xp : Int)) = false := by simp
          clear e32 e33 e42 e43 hx hxr hjn hk1
          cases xr
          all_goals
            go_wp2
            go_quiet (fail)
            go_wp2
            go_roundw
            case rel => exact ⟨j + 1, by omega, by go_num, _, rfl⟩
            case measure => simp [intOf]; omega
        · obtain rfl : j = n := by omega
          go_wp2_with (go_at_call 8; refine (w06_alive _).mono ?_; rintro e wf ⟨rfl, hq⟩; have HF := Lib.hid ((HBW.out.trans ((below_drewN (Below.refl _ w6) k).mono HBW.out.size)).trans (hq.mono HBW.out.size)); clear hq)
          go_ret
          exact ⟨rfl, HF.out⟩
end Go.Proofs.Ytgnimegdgphlmaa
