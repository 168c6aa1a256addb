/-
  Package trail: Back.
-/
import Derived.Test.YtkaklgjdmlddmaaTrail5
import Derived.Deep.LoopGhost
import Derived.BigRegion
namespace Go.Proofs.Ytkaklgjdmlddmaa
open Go.ChangeShapes Go.WideShapes Go.ChangeAt Go.RowKit
set_option linter.unusedVariables false

def clearV (ms : List Mk) (v : Int) : List Mk := ms.set v.toNat (0, 0, 0)
/-- The marks when the literals from place i on have gone. -/
def goneMs (s : TS) (i : Nat) : List Mk := ((s.l.drop i).reverse.map varOf).foldl clearV s.ms
def goneVs (s : TS) (i : Nat) : List Int := (s.l.drop i).reverse.map varOf
theorem goneMs_len (s : TS) (i : Nat) : (goneMs s i).length = s.ms.length := by
  unfold goneMs
  generalize (s.l.drop i).reverse.map varOf = vs
  have : ∀ (vs : List Int) (ms : List Mk), (vs.foldl clearV ms).length = ms.length := by
    intro vs
    induction vs with
    | nil => intro ms; rfl
    | cons v vs ih => intro ms; rw [List.foldl_cons, ih]; simp [clearV]
  exact this vs s.ms
theorem drop_rev (s : TS) (i : Nat) (h : i < s.l.length) : (s.l.drop i).reverse = (s.l.drop (i + 1)).reverse ++ [s.l.getD i 0] := by
  rw [List.drop_eq_getElem_cons h, List.reverse_cons]
  simp [List.getD, h]
theorem goneVs_step (s : TS) (i : Nat) (h : i < s.l.length) : goneVs s i = goneVs s (i + 1) ++ [varOf (s.l.getD i 0)] := by
  unfold goneVs; rw [drop_rev s i h]; simp
theorem goneMs_step (s : TS) (i : Nat) (h : i < s.l.length) : goneMs s i = clearV (goneMs s (i + 1)) (varOf (s.l.getD i 0)) := by
  unfold goneMs; rw [drop_rev s i h]; simp
theorem gone_end (s : TS) : goneVs s s.l.length = [] ∧ goneMs s s.l.length = s.ms := by
  unfold goneVs goneMs; simp

/-- What holds of a trail at all times. -/
structure TS.ok (s : TS) : Prop where
  vars : ∀ x ∈ s.l, s.has (varOf x) = true
  lev : ∀ p ∈ s.lv, 0 ≤ p ∧ p ≤ (s.l.length : Int)
  wh : s.wh.length = s.l.length
  lvl : s.lv.length ≤ s.l.length
  small : s.l.length ≤ 1099511627776
  now0 : 0 ≤ s.now

def TS.back (s : TS) (level : Nat) : TS :=
  if s.lv.length ≤ level then s
  else { l := s.l.take (s.lv.getD level 0).toNat, ms := goneMs s (s.lv.getD level 0).toNat, lv := s.lv.take level, wh := s.wh.take (s.lv.getD level 0).toNat, now := s.now }
def TS.backVs (s : TS) (level : Nat) : List Int := if s.lv.length ≤ level then [] else goneVs s (s.lv.getD level 0).toNat

set_option maxRecDepth 100000 in
theorem trail_Back_none {w : World} {t : Nat} {s : TS} {fp : List Nat} (h : TrailAt w t s fp) (level : Int) (hf : (s.lv.length : Int) ≤ level) :
    Calls Try.prog 23 #[.pointer (some ⟨t, 0, none⟩), .int .i64 level] w fun e w' => e = .returned (.slice none 0 0) ∧ w = w' := by
  have hl : 0 ≤ level := by omega
  go_enter Try.func23, Try.ntmps23
  go_wp2
  go_step3
  go_wp2_with ((go_at_call 22; refine (trail_Depth h).mono ?_; rintro e w' ⟨rfl, rfl⟩))
  try rw [Exit.noGoto_ret]
  go_ret
  exact ⟨rfl, rfl⟩

/-- The loop of Back: the literals from place n - k on have gone. -/
def BackRel (w : World) (t gm cm n : Nat) (vl vv vw : Value) (s : TS) (j : Nat) (out : Value) (wr : World) : Prop :=
  Parts wr t vl (.slice (some ⟨gm, 0, none⟩) n cm) vv vw s.now { s with ms := goneMs s j } ∧ Row wr 3 1 out (goneVs s j).length ((goneVs s j).map i64) ∧ (∀ k, out.ownBlock = some k → w.heap.size ≤ k) ∧ Chg (fun k => k = gm) w wr

theorem BackRel.start {w : World} {t gm cm n : Nat} {vl vv vw : Value} {s : TS} (p : Parts w t vl (.slice (some ⟨gm, 0, none⟩) n cm) vv vw s.now s) : BackRel w t gm cm n vl vv vw s s.l.length (.slice none 0 0) w := by
  obtain ⟨e1, e2⟩ := gone_end s
  refine ⟨?_, ?_, ?_, Chg.refl _ _⟩
  · rw [e2]; exact p
  · rw [e1]; exact World.ownsRow_nil _ _ _ _
  · intro k hk; simp [Value.ownBlock] at hk

theorem getD_map (l : List Int) (i : Nat) (h : i < l.length) : (l.map i64).getD i undef = .int .i64 (l.getD i 0) := by simp [List.getD, h, i64]
theorem clear_at (s : TS) (hok : s.ok) (i : Nat) (hi : i < s.l.length) : s.has (varOf (s.l.getD i 0)) = true := by
  refine hok.vars _ ?_
  simp only [List.getD, List.getElem?_eq_getElem hi, Option.getD_some]
  exact List.getElem_mem _

/-- What a round of Back reads. -/
theorem BackRel.reads {w wr : World} {t gm cm gl cl : Nat} {vv vw out : Value} {s : TS} {j : Nat} (h : BackRel w t gm cm s.ms.length (.slice (some ⟨gl, 0, none⟩) s.l.length cl) vv vw s j out wr) (hok : s.ok) (i : Nat) (hi : i < s.l.length) :
    ∃ x v : Int, x = s.l.getD i 0 ∧ v = varOf x ∧ 0 ≤ v ∧ v < (s.ms.length : Int) ∧ wr.cell? ⟨t, 0, none⟩ = some (.slice (some ⟨gl, 0, none⟩) s.l.length cl) ∧ wr.cell? ⟨t, 1, none⟩ = some (.slice (some ⟨gm, 0, none⟩) s.ms.length cm) ∧ s.ms.length ≤ cm ∧
      wr.cell? ⟨gl, i, none⟩ = some (.int .i64 x) ∧ (∃ m : Mk, wr.cell? ⟨gm, v.toNat * 3, none⟩ = some (.int .i8 m.1) ∧ wr.cell? ⟨gm, v.toNat * 3 + 1, none⟩ = some (.int .i64 m.2.1) ∧ wr.cell? ⟨gm, v.toNat * 3 + 2, none⟩ = some (.int .i64 m.2.2)) ∧
      wr.frozen? ⟨gm, v.toNat * 3, none⟩ = false ∧ wr.frozen? ⟨gm, v.toNat * 3 + 1, none⟩ = false ∧ wr.frozen? ⟨gm, v.toNat * 3 + 2, none⟩ = false := by
  obtain ⟨p, -, -, -⟩ := h
  have hh := clear_at s hok i hi
  have hlen := goneMs_len s j
  have hm := p.m
  simp only [hlen] at hm
  have hc : TrailCells wr t { s with ms := goneMs s j } (.slice (some ⟨gl, 0, none⟩) s.l.length cl) gm cm vv vw :=
    TrailAt.cells (s := { s with ms := goneMs s j }) (by simpa only [hlen] using p.b) (by simpa only [hlen] using p.m)
  have hv := has_lt hh
  have hd := of_decide_eq_true hh
  obtain ⟨m0, m1, m2⟩ := hc.m0 _ (by show _ < (goneMs s j).length; rw [hlen]; exact hv)
  refine ⟨_, _, rfl, rfl, by omega, hd.2, p.c.1, p.c.2.1, by have := hc.ncap; simp only [hlen] at this; exact this, ?_, ⟨_, m0, m1, m2⟩, hc.mf _ ?_, hc.mf _ ?_, hc.mf _ ?_⟩
  · rw [(p.l.at1 i hi).1, getD_map _ _ hi]
  all_goals show _ < (goneMs s j).length * 3; rw [hlen]; omega

/-- A round: the mark goes, the variable is put. -/
theorem BackRel.step {w wr w2 : World} {t gm cm n : Nat} {vl vv vw out v2 : Value} {s : TS} {i : Nat} (h : BackRel w t gm cm n vl vv vw s (i + 1) out wr) (hok : s.ok) (hn : s.ms.length = n) (hi : i < s.l.length) (p0 : Parts w t vl (.slice (some ⟨gm, 0, none⟩) n cm) vv vw s.now s)
    (hp : AppPost ((((wr.setCell ⟨gm, (varOf (s.l.getD i 0)).toNat * 3, none⟩ (.int .i8 0)).setCell ⟨gm, (varOf (s.l.getD i 0)).toNat * 3 + 1, none⟩ (.int .i64 0)).setCell ⟨gm, (varOf (s.l.getD i 0)).toNat * 3 + 2, none⟩ (.int .i64 0)).alloc (.cells #[.int .i64 (varOf (s.l.getD i 0))] 3)) 3 1 out ((goneVs s (i + 1)).length + 1) ((goneVs s (i + 1)).map i64 ++ [i64 (varOf (s.l.getD i 0))]) v2 w2) :
    BackRel w t gm cm n vl vv vw s i v2 w2 := by
  obtain ⟨p, hr, ho, hc⟩ := h
  have hh := clear_at s hok i hi
  have hlen := goneMs_len s (i + 1)
  obtain ⟨p1, c1⟩ := p.putM (by show (goneMs s (i + 1)).length = n; rw [hlen, hn]) (varOf (s.l.getD i 0)).toNat (by rw [← hn]; exact has_lt hh) (0, 0, 0)
  simp only at p1 c1
  have p2 := p1.alloc (.cells #[.int .i64 (varOf (s.l.getD i 0))] 3)
  have c2 := c1.alloc (.cells #[.int .i64 (varOf (s.l.getD i 0))] 3)
  obtain ⟨r3, c3, o3⟩ := hp
  have old : ∀ k, k < w.heap.size → ¬ out.ownBlock = some k := fun k h1 h2 => by have := ho k h2; omega
  have zw := hc.size
  have hms : (goneMs s (i + 1)).set (varOf (s.l.getD i 0)).toNat (0, 0, 0) = goneMs s i := (goneMs_step s i hi).symm
  refine ⟨?_, ?_, ?_, ?_⟩
  · have := p2.chg c3 (old _ p0.b.lt) (fun g hg => old _ (p0.l.lt g hg)) (fun g hg => old _ (p0.m.lt g hg)) (fun g hg => old _ (p0.v.lt g hg)) (fun g hg => old _ (p0.h.lt g hg))
    rw [hms] at this
    exact this
  · rw [goneVs_step s i hi]
    simpa using r3
  · intro k hk
    rcases o3 with e | e
    · exact ho k (e ▸ hk)
    · rw [e] at hk; injection hk with hk; have := c2.size; omega
  · refine (hc.trans c2 (fun i hi => .inl hi)).trans c3 (fun k hk => ?_)
    right; exact ho k hk
theorem gone_len (s : TS) (i : Nat) : (goneVs s i).length ≤ s.l.length := by unfold goneVs; simp
theorem back_row {w wr : World} {t gm cm n : Nat} {vl vv vw out : Value} {s : TS} {j : Nat} (h : BackRel w t gm cm n vl vv vw s j out wr) (p0 : Parts w t vl (.slice (some ⟨gm, 0, none⟩) n cm) vv vw s.now s) (a b c : Nat) (o : Obj) {x y z : Value} :
    Row ((((wr.setCell ⟨gm, a, none⟩ x).setCell ⟨gm, b, none⟩ y).setCell ⟨gm, c, none⟩ z).alloc o) 3 1 out (goneVs s j).length ((goneVs s j).map i64) := by
  obtain ⟨-, hr, ho, -⟩ := h
  have hn : out.ownBlock ≠ some gm := fun e => by have := ho gm e; have := p0.m.lt gm rfl; omega
  exact (((hr.setCell (p := ⟨gm, a, none⟩) hn _).setCell (p := ⟨gm, b, none⟩) hn _).setCell (p := ⟨gm, c, none⟩) hn _).alloc _
theorem BackRel.step' {w wr w2 : World} {t gm cm n : Nat} {vl vv vw out v2 : Value} {s : TS} {i : Nat} {y v : Int} (h : BackRel w t gm cm n vl vv vw s (i + 1) out wr) (hok : s.ok) (hn : s.ms.length = n) (hi : i < s.l.length) (p0 : Parts w t vl (.slice (some ⟨gm, 0, none⟩) n cm) vv vw s.now s)
    (hy : y = s.l.getD i 0) (hv : v = varOf y)
    (hp : AppPost ((((wr.setCell ⟨gm, v.toNat * 3, none⟩ (.int .i8 0)).setCell ⟨gm, v.toNat * 3 + 1, none⟩ (.int .i64 0)).setCell ⟨gm, v.toNat * 3 + 2, none⟩ (.int .i64 0)).alloc (.cells #[.int .i64 v] 3)) 3 1 out ((goneVs s (i + 1)).length + 1) ((goneVs s (i + 1)).map i64 ++ [.int .i64 v]) v2 w2) :
    BackRel w t gm cm n vl vv vw s i v2 w2 := by
  subst hv hy
  exact h.step hok hn hi p0 hp
/-- What Back leaves. -/
def BackPost (w : World) (fp : List Nat) (t : Nat) (s : TS) (level : Nat) (v : Value) (w' : World) : Prop :=
  Row w' 3 1 v (s.backVs level).length ((s.backVs level).map i64) ∧ (∀ k, v.ownBlock = some k → w.heap.size ≤ k) ∧ Done w fp t (s.back level) w'

theorem back_close {w wr : World} {t gm cm gl cl gv cv gw cw : Nat} {out : Value} {s : TS} {level f : Nat} (h : BackRel w t gm cm s.ms.length (.slice (some ⟨gl, 0, none⟩) s.l.length cl) (.slice (some ⟨gv, 0, none⟩) s.lv.length cv) (.slice (some ⟨gw, 0, none⟩) s.wh.length cw) s f out wr)
    (p0 : Parts w t (.slice (some ⟨gl, 0, none⟩) s.l.length cl) (.slice (some ⟨gm, 0, none⟩) s.ms.length cm) (.slice (some ⟨gv, 0, none⟩) s.lv.length cv) (.slice (some ⟨gw, 0, none⟩) s.wh.length cw) s.now s)
    (hok : s.ok) (hl : level < s.lv.length) (hf : s.lv.getD level 0 = f) (hfl : f ≤ s.l.length) (n : Nat) {w' : World} (hw' : w' = (((wr.setCell ⟨t, 0, none⟩ (.slice (some ⟨gl, 0, none⟩) f cl)).setCell ⟨t, 2, none⟩ (.slice (some ⟨gv, 0, none⟩) level cv)).setCell ⟨t, 3, none⟩ (.slice (some ⟨gw, 0, none⟩) f cw)).drewN n) :
    BackPost w (t :: gm :: ((Value.slice (some ⟨gl, 0, none⟩) s.l.length cl).ownBlock.toList ++ ((Value.slice (some ⟨gv, 0, none⟩) s.lv.length cv).ownBlock.toList ++ (Value.slice (some ⟨gw, 0, none⟩) s.wh.length cw).ownBlock.toList))) t s level out w' := by
  subst hw'
  obtain ⟨p, hr, ho, hc⟩ := h
  have hvs : s.backVs level = goneVs s f := by unfold TS.backVs; rw [if_neg (by omega), hf]; rfl
  have hbk : s.back level = { l := s.l.take f, ms := goneMs s f, lv := s.lv.take level, wh := s.wh.take f, now := s.now } := by
    unfold TS.back; rw [if_neg (by omega), hf]; rfl
  have hwf : f ≤ s.wh.length := by rw [hok.wh]; exact hfl
  have hgt : ∀ k, out.ownBlock = some k → k ≠ t := fun k hk e => by have := ho k hk; have := p0.b.lt; omega
  have hset : ∀ (i : Nat) (u : Value) (W : World) (e : TypeId) (size : Nat) (y : Value) (m : Nat) (ys : List Value), Row W e size y m ys → y.ownBlock ≠ some t → Row (W.setCell ⟨t, i, none⟩ u) e size y m ys := fun i u W e size y m ys h1 h2 => h1.setCell (p := ⟨t, i, none⟩) h2 u
  obtain ⟨⟨a1, a2, a3, a4⟩, -⟩ := p.sep
  have hcT : Chg (fun k => k = gm ∨ k = t) w ((((wr.setCell ⟨t, 0, none⟩ (.slice (some ⟨gl, 0, none⟩) f cl)).setCell ⟨t, 2, none⟩ (.slice (some ⟨gv, 0, none⟩) level cv)).setCell ⟨t, 3, none⟩ (.slice (some ⟨gw, 0, none⟩) f cw)).drewN n) :=
    ((((hc.mono (fun i hi => .inl hi)).setCell (p := ⟨t, 0, none⟩) (.inl (.inr rfl)) _).setCell (p := ⟨t, 2, none⟩) (.inl (.inr rfl)) _).setCell (p := ⟨t, 3, none⟩) (.inl (.inr rfl)) _).drewN n
  refine ⟨?_, ho, ?_⟩
  · rw [hvs]
    have h1 : out.ownBlock ≠ some t := fun e => hgt _ e rfl
    exact hset 3 _ _ _ _ _ _ _ (hset 2 _ _ _ _ _ _ _ (hset 0 _ _ _ _ _ _ _ hr h1) h1) h1
  · rw [hbk]
    refine ⟨_, Parts.trail' (s0 := { l := s.l.take f, ms := goneMs s f, lv := s.lv.take level, wh := s.wh.take f, now := s.now }) (vl := .slice (some ⟨gl, 0, none⟩) f cl) (gm := gm) (cm := cm) (n := s.ms.length) (vv := .slice (some ⟨gv, 0, none⟩) level cv) (vw := .slice (some ⟨gw, 0, none⟩) f cw) (now := s.now) ?_ (goneMs_len s f) rfl rfl rfl rfl rfl, ?_, ?_⟩
    · have nd := p.nd
      refine ⟨((p.b.set_ 0 _).set_ 2 _).set_ 3 _, ?_, ?_, ?_, ?_, nd⟩
      · have := hset 3 (.slice (some ⟨gw, 0, none⟩) f cw) _ _ _ _ _ _ (hset 2 (.slice (some ⟨gv, 0, none⟩) level cv) _ _ _ _ _ _ (hset 0 (.slice (some ⟨gl, 0, none⟩) f cl) _ _ _ _ _ _ (p.l.take f hfl) a2) a2) a2
        have e : (List.take f s.l).length = f := by rw [List.length_take]; omega
        simp only [e, List.map_take]
        have this2 : Row (((wr.setCell ⟨t, 0, none⟩ (.slice (some ⟨gl, 0, none⟩) f cl)).setCell ⟨t, 2, none⟩ (.slice (some ⟨gv, 0, none⟩) level cv)).setCell ⟨t, 3, none⟩ (.slice (some ⟨gw, 0, none⟩) f cw)) 3 1 (.slice (some ⟨gl, 0, none⟩) f cl) f (List.take f (List.map i64 s.l)) := by simpa using this
        exact this2
      · exact hset 3 _ _ _ _ _ _ _ (hset 2 _ _ _ _ _ _ _ (hset 0 _ _ _ _ _ _ _ p.m a1) a1) a1
      · have := hset 3 (.slice (some ⟨gw, 0, none⟩) f cw) _ _ _ _ _ _ (hset 2 (.slice (some ⟨gv, 0, none⟩) level cv) _ _ _ _ _ _ (hset 0 (.slice (some ⟨gl, 0, none⟩) f cl) _ _ _ _ _ _ (p.v.take level (by show level ≤ s.lv.length; omega)) a3) a3) a3
        have e : (List.take level s.lv).length = level := by rw [List.length_take]; omega
        simp only [e, List.map_take]
        have this2 : Row (((wr.setCell ⟨t, 0, none⟩ (.slice (some ⟨gl, 0, none⟩) f cl)).setCell ⟨t, 2, none⟩ (.slice (some ⟨gv, 0, none⟩) level cv)).setCell ⟨t, 3, none⟩ (.slice (some ⟨gw, 0, none⟩) f cw)) 3 1 (.slice (some ⟨gv, 0, none⟩) level cv) level (List.take level (List.map i64 s.lv)) := by simpa using this
        exact this2
      · have := hset 3 (.slice (some ⟨gw, 0, none⟩) f cw) _ _ _ _ _ _ (hset 2 (.slice (some ⟨gv, 0, none⟩) level cv) _ _ _ _ _ _ (hset 0 (.slice (some ⟨gl, 0, none⟩) f cl) _ _ _ _ _ _ (p.h.take f hwf) a4) a4) a4
        have e : (List.take f s.wh).length = f := by rw [List.length_take]; omega
        simp only [e, List.map_take]
        have this2 : Row (((wr.setCell ⟨t, 0, none⟩ (.slice (some ⟨gl, 0, none⟩) f cl)).setCell ⟨t, 2, none⟩ (.slice (some ⟨gv, 0, none⟩) level cv)).setCell ⟨t, 3, none⟩ (.slice (some ⟨gw, 0, none⟩) f cw)) 3 1 (.slice (some ⟨gw, 0, none⟩) f cw) f (List.take f (List.map i64 s.wh)) := by simpa using this
        exact this2
    · refine hcT.mono ?_
      rintro i (rfl | rfl) <;> simp
    · intro k hk
      left
      simpa [Value.ownBlock] using hk

set_option maxHeartbeats 1000000 in
set_option maxRecDepth 100000 in
theorem trail_Back_some {w : World} {t : Nat} {s : TS} {fp : List Nat} (h : TrailAt w t s fp) (hok : s.ok) (level : Nat) (hf : level < s.lv.length) (x : Int) (hx : x = level ∨ (x < 0 ∧ level = 0)) :
    Calls Try.prog 23 #[.pointer (some ⟨t, 0, none⟩), .int .i64 x] w fun e w' => ∃ v, e = .returned v ∧ BackPost w fp t s level v w' := by
  obtain ⟨vl, gm, cm, vv, vw, hp, rfl⟩ := h.parts
  have hlvl := hok.lvl
  obtain ⟨gv, cv, rfl, hcv, -, -⟩ := hp.v.some_ (by omega)
  obtain ⟨gl, cl, rfl, hcl, -, -⟩ := hp.l.some_ (by omega)
  obtain ⟨gw, cw, rfl, hcw, -, -⟩ := hp.h.some_ (by rw [hok.wh]; omega)
  obtain ⟨k0, -, k2, -, -, -⟩ := hp.c
  obtain ⟨f, hfe⟩ : ∃ f : Nat, s.lv.getD level 0 = f := by
    have := hok.lev (s.lv.getD level 0) (by simp only [List.getD, List.getElem?_eq_getElem hf, Option.getD_some]; exact List.getElem_mem _)
    exact ⟨_, (Int.toNat_of_nonneg this.1).symm⟩
  have hfl : f ≤ s.l.length := by
    have := hok.lev (s.lv.getD level 0) (by simp only [List.getD, List.getElem?_eq_getElem hf, Option.getD_some]; exact List.getElem_mem _)
    omega
  have hcellv : w.cell? ⟨gv, level, none⟩ = some (.int .i64 f) := by
    rw [(hp.v.at1 level hf).1, getD_map _ _ hf, hfe]
  have hwl := hok.wh
  have hfw : f ≤ s.wh.length := by omega
  have hsm := hok.small
  have HREL := Lib.hid (BackRel.start hp)
  have HP := Lib.hid hp
  have HT := Lib.hid h
  have HOK := Lib.hid hok
  have HFE := Lib.hid hfe
  have hlv : (level : Int) < (s.lv.length : Int) := by omega
  have hdec : decide (s.lv.length ≤ level) = false := by simp; omega
  clear hok hp h hfe hwl hlvl
  rcases hx with rfl | ⟨hx, rfl⟩
  case' inr =>
    have hnn : decide (s.lv = []) = false := by
      rw [decide_eq_false_iff_not]; intro e; rw [e] at hf; simp at hf
  all_goals
    go_enter Try.func23, Try.ntmps23
    go_wp2
    go_step3
    go_wp2_with ((go_at_call 22; refine (trail_Depth HT.out).mono ?_; rintro e w' ⟨rfl, rfl⟩))
    go_step3
    go_wp2
    go_loopw [4, 6] (fun out i wr => ∃ j : Nat, f ≤ j ∧ j ≤ s.l.length ∧ i = .int .i64 ((j : Int) - 1) ∧ BackRel w t gm cm s.ms.length (.slice (some ⟨gl, 0, none⟩) s.l.length cl) (.slice (some ⟨gv, 0, none⟩) s.lv.length cv) (.slice (some ⟨gw, 0, none⟩) s.wh.length cw) s j out wr) (fun _ i _ => (intOf i + 1).toNat)
    case atStart => exact ⟨s.l.length, hfl, Nat.le_refl _, rfl, HREL.out⟩
    case round =>
      obtain ⟨j, hj1, hj2, rfl, hrel⟩ := hrel
      by_cases hj : j = f
      · have hlt : (j : Int) - 1 < (f : Int) := by omega
        subst hj
        obtain ⟨q0, -, q2, q3, -, r0, r2, r3, -, qt⟩ := hrel.1.c
        have HR := Lib.hid hrel
        clear hrel
        go_wp2
        go_region
        go_wp2
        try rw [Exit.noGoto_ret]
        go_ret
        exact ⟨_, rfl, back_close HR.out HP.out HOK.out hf HFE.out hfl 1 rfl⟩
      · have hlt : (f : Int) ≤ (j : Int) - 1 := by omega
        obtain ⟨i, rfl⟩ : ∃ i, j = i + 1 := ⟨j - 1, by omega⟩
        have ei : ((i + 1 : Nat) : Int) - 1 = (i : Int) := by omega
        rw [ei] at hlt ⊢
        have hil : (i : Int) < (s.l.length : Int) := by omega
        obtain ⟨y, v, hy, hv, hv0, hv1, q0, q1, hmc, qx, ⟨m, m0, m1, m2⟩, f0, f1, f2⟩ := hrel.reads HOK.out i (by omega)
        have HY := Lib.hid hy
        have HV := Lib.hid hv
        have HR := Lib.hid hrel
        clear hrel hj ei hy hv
        go_wp2_with fail
        refine (trail_split y _).mono ?_
        rintro e w1 ⟨rfl, rfl⟩
        rw [← HV.out]
        go_wp2_with (at_builtin; refine wpList_app rfl _ _ _ rfl 3 (.int .i64 0) 1 8 Try.underlying23 infoInt rfl (by decide) u4 (goneVs s (i + 1)).length ((goneVs s (i + 1)).map i64) rfl ?ho _ _ 1 1 [.int .i64 v] rfl rfl ?hn ?hs ?c1 ?c2 ?_)
        case ho => exact back_row HR.out HP.out _ _ _ _
        case hn => exact cell_new _ _ _ _ (by simp)
        case hs => exact one_cell rfl
        case c1 => have := gone_len s (i + 1); unfold maxLen; omega
        case c2 => have := gone_len s (i + 1); omega
        intro v2 w2 hp2
        have HP2 := Lib.hid hp2
        clear hp2
        go_wp2
        go_roundw
        case rel => exact ⟨i, by omega, by omega, rfl, HR.out.step' HOK.out rfl (by omega) HP.out HY.out HV.out HP2.out⟩
        case measure => simp [intOf]
end Go.Proofs.Ytkaklgjdmlddmaa
