/-
  Package trail: Back.
-/
import Derived.Test.YtghlgegfokjgbaaTrail5
import Derived.Deep.LoopGhost
import Derived.BigRegion
import Derived.Deep.QuietTactic
import Derived.BigQuiet
namespace Go.Proofs.Ytghlgegfokjgbaa
open Go.ChangeShapes Go.WideShapes Go.ChangeAt Go.RowKit
set_option linter.unusedVariables false

def clearV (ms : List Mk) (v : Int) : List Mk := ms.set v.toNat (0, 0, 0)
/-- The marks when the literals from place i on have gone. -/
def goneMs (s : TS) (i : Nat) : List Mk := ((s.l.drop i).reverse.map varOf).foldl clearV s.ms
def goneVs (s : TS) (i : Nat) : List Int := (s.l.drop i).reverse.map varOf
theorem goneMs_len (s : TS) (i : Nat) : (goneMs s i).length = s.ms.length := by
  unfold goneMs
  generalize (s.l.drop i).reverse.map varOf = vs
  have : ∀ (vs : List Int) (ms : List Mk), (vs.foldl clearV ms).length = ms.length := by
    intro vs
    induction vs with
    | nil => intro ms; rfl
    | cons v vs ih => intro ms; rw [List.foldl_cons, ih]; simp [clearV]
  exact this vs s.ms
theorem drop_rev (s : TS) (i : Nat) (h : i < s.l.length) : (s.l.drop i).reverse = (s.l.drop (i + 1)).reverse ++ [s.l.getD i 0] := by
  rw [List.drop_eq_getElem_cons h, List.reverse_cons]
  simp [List.getD, h]
theorem goneVs_step (s : TS) (i : Nat) (h : i < s.l.length) : goneVs s i = goneVs s (i + 1) ++ [varOf (s.l.getD i 0)] := by
  unfold goneVs; rw [drop_rev s i h]; simp
theorem goneMs_step (s : TS) (i : Nat) (h : i < s.l.length) : goneMs s i = clearV (goneMs s (i + 1)) (varOf (s.l.getD i 0)) := by
  unfold goneMs; rw [drop_rev s i h]; simp
theorem gone_end (s : TS) : goneVs s s.l.length = [] ∧ goneMs s s.l.length = s.ms := by
  unfold goneVs goneMs; simp

/-- What holds of a trail at all times. -/
structure TS.ok (s : TS) : Prop where
  vars : ∀ x ∈ s.l, s.has (varOf x) = true
  lev : ∀ p ∈ s.lv, 0 ≤ p ∧ p ≤ (s.l.length : Int)
  wh : s.wh.length = s.l.length
  lvl : s.lv.length ≤ s.l.length
  small : s.l.length ≤ 1099511627776
  now0 : 0 ≤ s.now

def TS.back (s : TS) (level : Nat) : TS :=
  if s.lv.length ≤ level then s
  else { l := s.l.take (s.lv.getD level 0).toNat, ms := goneMs s (s.lv.getD level 0).toNat, lv := s.lv.take level, wh := s.wh.take (s.lv.getD level 0).toNat, now := s.now }
def TS.backVs (s : TS) (level : Nat) : List Int := if s.lv.length ≤ level then [] else goneVs s (s.lv.getD level 0).toNat

/-- The loop of Back: the literals from place n - k on have gone. -/
def BackRel (w : World) (t gm cm n : Nat) (vl vv vw : Value) (s : TS) (j : Nat) (out : Value) (wr : World) : Prop :=
  Parts wr t vl (.slice (some ⟨gm, 0, none⟩) n cm) vv vw s.now { s with ms := goneMs s j } ∧ Row wr 3 1 out (goneVs s j).length ((goneVs s j).map i64) ∧ (∀ k, out.ownBlock = some k → w.heap.size ≤ k) ∧ Chg (fun k => k = gm) w wr

theorem BackRel.start {w : World} {t gm cm n : Nat} {vl vv vw : Value} {s : TS} (p : Parts w t vl (.slice (some ⟨gm, 0, none⟩) n cm) vv vw s.now s) : BackRel w t gm cm n vl vv vw s s.l.length (.slice none 0 0) w := by
  obtain ⟨e1, e2⟩ := gone_end s
  refine ⟨?_, ?_, ?_, Chg.refl _ _⟩
  · rw [e2]; exact p
  · rw [e1]; exact World.ownsRow_nil _ _ _ _
  · intro k hk; simp [Value.ownBlock] at hk

theorem getD_map (l : List Int) (i : Nat) (h : i < l.length) : (l.map i64).getD i undef = .int .i64 (l.getD i 0) := by simp [List.getD, h, i64]
theorem clear_at (s : TS) (hok : s.ok) (i : Nat) (hi : i < s.l.length) : s.has (varOf (s.l.getD i 0)) = true := by
  refine hok.vars _ ?_
  simp only [List.getD, List.getElem?_eq_getElem hi, Option.getD_some]
  exact List.getElem_mem _

/-- What a round of Back reads. -/
theorem BackRel.reads {w wr : World} {t gm cm gl cl : Nat} {vv vw out : Value} {s : TS} {j : Nat} (h : BackRel w t gm cm s.ms.length (.slice (some ⟨gl, 0, none⟩) s.l.length cl) vv vw s j out wr) (hok : s.ok) (i : Nat) (hi : i < s.l.length) :
    ∃ x v : Int, x = s.l.getD i 0 ∧ v = varOf x ∧ 0 ≤ v ∧ v < (s.ms.length : Int) ∧ wr.cell? ⟨t, 0, none⟩ = some (.slice (some ⟨gl, 0, none⟩) s.l.length cl) ∧ wr.cell? ⟨t, 1, none⟩ = some (.slice (some ⟨gm, 0, none⟩) s.ms.length cm) ∧ s.ms.length ≤ cm ∧
      wr.cell? ⟨gl, i, none⟩ = some (.int .i64 x) ∧ (∃ m : Mk, wr.cell? ⟨gm, v.toNat * 3, none⟩ = some (.int .i8 m.1) ∧ wr.cell? ⟨gm, v.toNat * 3 + 1, none⟩ = some (.int .i64 m.2.1) ∧ wr.cell? ⟨gm, v.toNat * 3 + 2, none⟩ = some (.int .i64 m.2.2)) ∧
      wr.frozen? ⟨gm, v.toNat * 3, none⟩ = false ∧ wr.frozen? ⟨gm, v.toNat * 3 + 1, none⟩ = false ∧ wr.frozen? ⟨gm, v.toNat * 3 + 2, none⟩ = false := by
  obtain ⟨p, -, -, -⟩ := h
  have hh := clear_at s hok i hi
  have hlen := goneMs_len s j
  have hm := p.m
  simp only [hlen] at hm
  have hc : TrailCells wr t { s with ms := goneMs s j } (.slice (some ⟨gl, 0, none⟩) s.l.length cl) gm cm vv vw :=
    TrailAt.cells (s := { s with ms := goneMs s j }) (by simpa only [hlen] using p.b) (by simpa only [hlen] using p.m)
  have hv := has_lt hh
  have hd := of_decide_eq_true hh
  obtain ⟨m0, m1, m2⟩ := hc.m0 _ (by show _ < (goneMs s j).length; rw [hlen]; exact hv)
  refine ⟨_, _, rfl, rfl, by omega, hd.2, p.c.1, p.c.2.1, by have := hc.ncap; simp only [hlen] at this; exact this, ?_, ⟨_, m0, m1, m2⟩, hc.mf _ ?_, hc.mf _ ?_, hc.mf _ ?_⟩
  · rw [(p.l.at1 i hi).1, getD_map _ _ hi]
  all_goals show _ < (goneMs s j).length * 3; rw [hlen]; omega

/-- A round: the mark goes, the variable is put. -/
theorem BackRel.step {w wr w2 : World} {t gm cm n : Nat} {vl vv vw out v2 : Value} {s : TS} {i : Nat} (h : BackRel w t gm cm n vl vv vw s (i + 1) out wr) (hok : s.ok) (hn : s.ms.length = n) (hi : i < s.l.length) (p0 : Parts w t vl (.slice (some ⟨gm, 0, none⟩) n cm) vv vw s.now s)
    (hp : AppPost ((((wr.setCell ⟨gm, (varOf (s.l.getD i 0)).toNat * 3, none⟩ (.int .i8 0)).setCell ⟨gm, (varOf (s.l.getD i 0)).toNat * 3 + 1, none⟩ (.int .i64 0)).setCell ⟨gm, (varOf (s.l.getD i 0)).toNat * 3 + 2, none⟩ (.int .i64 0)).alloc (.cells #[.int .i64 (varOf (s.l.getD i 0))] 3)) 3 1 out ((goneVs s (i + 1)).length + 1) ((goneVs s (i + 1)).map i64 ++ [i64 (varOf (s.l.getD i 0))]) v2 w2) :
    BackRel w t gm cm n vl vv vw s i v2 w2 := by
  obtain ⟨p, hr, ho, hc⟩ := h
  have hh := clear_at s hok i hi
  have hlen := goneMs_len s (i + 1)
  obtain ⟨p1, c1⟩ := p.putM (by show (goneMs s (i + 1)).length = n; rw [hlen, hn]) (varOf (s.l.getD i 0)).toNat (by rw [← hn]; exact has_lt hh) (0, 0, 0)
  simp only at p1 c1
  have p2 := p1.alloc (.cells #[.int .i64 (varOf (s.l.getD i 0))] 3)
  have c2 := c1.alloc (.cells #[.int .i64 (varOf (s.l.getD i 0))] 3)
  obtain ⟨r3, c3, o3⟩ := hp
  have old : ∀ k, k < w.heap.size → ¬ out.ownBlock = some k := fun k h1 h2 => by have := ho k h2; omega
  have zw := hc.size
  have hms : (goneMs s (i + 1)).set (varOf (s.l.getD i 0)).toNat (0, 0, 0) = goneMs s i := (goneMs_step s i hi).symm
  refine ⟨?_, ?_, ?_, ?_⟩
  · have := p2.chg c3 (old _ p0.b.lt) (fun g hg => old _ (p0.l.lt g hg)) (fun g hg => old _ (p0.m.lt g hg)) (fun g hg => old _ (p0.v.lt g hg)) (fun g hg => old _ (p0.h.lt g hg))
    rw [hms] at this
    exact this
  · rw [goneVs_step s i hi]
    simpa using r3
  · intro k hk
    rcases o3 with e | e
    · exact ho k (e ▸ hk)
    · rw [e] at hk; injection hk with hk; have := c2.size; omega
  · refine (hc.trans c2 (fun i hi => .inl hi)).trans c3 (fun k hk => ?_)
    right; exact ho k hk
theorem gone_len (s : TS) (i : Nat) : (goneVs s i).length ≤ s.l.length := by unfold goneVs; simp
theorem back_row {w wr : World} {t gm cm n : Nat} {vl vv vw out : Value} {s : TS} {j : Nat} (h : BackRel w t gm cm n vl vv vw s j out wr) (p0 : Parts w t vl (.slice (some ⟨gm, 0, none⟩) n cm) vv vw s.now s) (a b c : Nat) (o : Obj) {x y z : Value} :
    Row ((((wr.setCell ⟨gm, a, none⟩ x).setCell ⟨gm, b, none⟩ y).setCell ⟨gm, c, none⟩ z).alloc o) 3 1 out (goneVs s j).length ((goneVs s j).map i64) := by
  obtain ⟨-, hr, ho, -⟩ := h
  have hn : out.ownBlock ≠ some gm := fun e => by have := ho gm e; have := p0.m.lt gm rfl; omega
  exact (((hr.setCell (p := ⟨gm, a, none⟩) hn _).setCell (p := ⟨gm, b, none⟩) hn _).setCell (p := ⟨gm, c, none⟩) hn _).alloc _
theorem BackRel.step' {w wr w2 : World} {t gm cm n : Nat} {vl vv vw out v2 : Value} {s : TS} {i : Nat} {y v : Int} (h : BackRel w t gm cm n vl vv vw s (i + 1) out wr) (hok : s.ok) (hn : s.ms.length = n) (hi : i < s.l.length) (p0 : Parts w t vl (.slice (some ⟨gm, 0, none⟩) n cm) vv vw s.now s)
    (hy : y = s.l.getD i 0) (hv : v = varOf y)
    (hp : AppPost ((((wr.setCell ⟨gm, v.toNat * 3, none⟩ (.int .i8 0)).setCell ⟨gm, v.toNat * 3 + 1, none⟩ (.int .i64 0)).setCell ⟨gm, v.toNat * 3 + 2, none⟩ (.int .i64 0)).alloc (.cells #[.int .i64 v] 3)) 3 1 out ((goneVs s (i + 1)).length + 1) ((goneVs s (i + 1)).map i64 ++ [.int .i64 v]) v2 w2) :
    BackRel w t gm cm n vl vv vw s i v2 w2 := by
  subst hv hy
  exact h.step hok hn hi p0 hp
/-- What Back leaves. -/
def BackPost (w : World) (fp : List Nat) (t : Nat) (s : TS) (level : Nat) (v : Value) (w' : World) : Prop :=
  Row w' 3 1 v (s.backVs level).length ((s.backVs level).map i64) ∧ (∀ k, v.ownBlock = some k → w.heap.size ≤ k) ∧ Done w fp t (s.back level) w'

theorem back_close {w wr : World} {t gm cm gl cl gv cv gw cw : Nat} {out : Value} {s : TS} {level f : Nat} (h : BackRel w t gm cm s.ms.length (.slice (some ⟨gl, 0, none⟩) s.l.length cl) (.slice (some ⟨gv, 0, none⟩) s.lv.length cv) (.slice (some ⟨gw, 0, none⟩) s.wh.length cw) s f out wr)
    (p0 : Parts w t (.slice (some ⟨gl, 0, none⟩) s.l.length cl) (.slice (some ⟨gm, 0, none⟩) s.ms.length cm) (.slice (some ⟨gv, 0, none⟩) s.lv.length cv) (.slice (some ⟨gw, 0, none⟩) s.wh.length cw) s.now s)
    (hok : s.ok) (hl : level < s.lv.length) (hf : s.lv.getD level 0 = f) (hfl : f ≤ s.l.length) (n : Nat) {w' : World} (hw' : w' = (((wr.setCell ⟨t, 0, none⟩ (.slice (some ⟨gl, 0, none⟩) f cl)).setCell ⟨t, 2, none⟩ (.slice (some ⟨gv, 0, none⟩) level cv)).setCell ⟨t, 3, none⟩ (.slice (some ⟨gw, 0, none⟩) f cw)).drewN n) :
    BackPost w (t :: gm :: ((Value.slice (some ⟨gl, 0, none⟩) s.l.length cl).ownBlock.toList ++ ((Value.slice (some ⟨gv, 0, none⟩) s.lv.length cv).ownBlock.toList ++ (Value.slice (some ⟨gw, 0, none⟩) s.wh.length cw).ownBlock.toList))) t s level out w' := by
  subst hw'
  obtain ⟨p, hr, ho, hc⟩ := h
  have hvs : s.backVs level = goneVs s f := by unfold TS.backVs; rw [if_neg (by omega), hf]; rfl
  have hbk : s.back level = { l := s.l.take f, ms := goneMs s f, lv := s.lv.take level, wh := s.wh.take f, now := s.now } := by
    unfold TS.back; rw [if_neg (by omega), hf]; rfl
  have hwf : f ≤ s.wh.length := by rw [hok.wh]; exact hfl
  have hgt : ∀ k, out.ownBlock = some k → k ≠ t := fun k hk e => by have := ho k hk; have := p0.b.lt; omega
  have hset : ∀ (i : Nat) (u : Value) (W : World) (e : TypeId) (size : Nat) (y : Value) (m : Nat) (ys : List Value), Row W e size y m ys → y.ownBlock ≠ some t → Row (W.setCell ⟨t, i, none⟩ u) e size y m ys := fun i u W e size y m ys h1 h2 => h1.setCell (p := ⟨t, i, none⟩) h2 u
  obtain ⟨⟨a1, a2, a3, a4⟩, -⟩ := p.sep
  have hcT : Chg (fun k => k = gm ∨ k = t) w ((((wr.setCell ⟨t, 0, none⟩ (.slice (some ⟨gl, 0, none⟩) f cl)).setCell ⟨t, 2, none⟩ (.slice (some ⟨gv, 0, none⟩) level cv)).setCell ⟨t, 3, none⟩ (.slice (some ⟨gw, 0, none⟩) f cw)).drewN n) :=
    ((((hc.mono (fun i hi => .inl hi)).setCell (p := ⟨t, 0, none⟩) (.inl (.inr rfl)) _).setCell (p := ⟨t, 2, none⟩) (.inl (.inr rfl)) _).setCell (p := ⟨t, 3, none⟩) (.inl (.inr rfl)) _).drewN n
  refine ⟨?_, ho, ?_⟩
  · rw [hvs]
    have h1 : out.ownBlock ≠ some t := fun e => hgt _ e rfl
    exact hset 3 _ _ _ _ _ _ _ (hset 2 _ _ _ _ _ _ _ (hset 0 _ _ _ _ _ _ _ hr h1) h1) h1
  · rw [hbk]
    refine ⟨_, Parts.trail' (s0 := { l := s.l.take f, ms := goneMs s f, lv := s.lv.take level, wh := s.wh.take f, now := s.now }) (vl := .slice (some ⟨gl, 0, none⟩) f cl) (gm := gm) (cm := cm) (n := s.ms.length) (vv := .slice (some ⟨gv, 0, none⟩) level cv) (vw := .slice (some ⟨gw, 0, none⟩) f cw) (now := s.now) ?_ (goneMs_len s f) rfl rfl rfl rfl rfl, ?_, ?_⟩
    · have nd := p.nd
      refine ⟨((p.b.set_ 0 _).set_ 2 _).set_ 3 _, ?_, ?_, ?_, ?_, nd⟩
      · have := hset 3 (.slice (some ⟨gw, 0, none⟩) f cw) _ _ _ _ _ _ (hset 2 (.slice (some ⟨gv, 0, none⟩) level cv) _ _ _ _ _ _ (hset 0 (.slice (some ⟨gl, 0, none⟩) f cl) _ _ _ _ _ _ (p.l.take f hfl) a2) a2) a2
        have e : (List.take f s.l).length = f := by rw [List.length_take]; omega
        simp only [e, List.map_take]
        have this2 : Row (((wr.setCell ⟨t, 0, none⟩ (.slice (some ⟨gl, 0, none⟩) f cl)).setCell ⟨t, 2, none⟩ (.slice (some ⟨gv, 0, none⟩) level cv)).setCell ⟨t, 3, none⟩ (.slice (some ⟨gw, 0, none⟩) f cw)) 3 1 (.slice (some ⟨gl, 0, none⟩) f cl) f (List.take f (List.map i64 s.l)) := by simpa using this
        exact this2
      · exact hset 3 _ _ _ _ _ _ _ (hset 2 _ _ _ _ _ _ _ (hset 0 _ _ _ _ _ _ _ p.m a1) a1) a1
      · have := hset 3 (.slice (some ⟨gw, 0, none⟩) f cw) _ _ _ _ _ _ (hset 2 (.slice (some ⟨gv, 0, none⟩) level cv) _ _ _ _ _ _ (hset 0 (.slice (some ⟨gl, 0, none⟩) f cl) _ _ _ _ _ _ (p.v.take level (by show level ≤ s.lv.length; omega)) a3) a3) a3
        have e : (List.take level s.lv).length = level := by rw [List.length_take]; omega
        simp only [e, List.map_take]
        have this2 : Row (((wr.setCell ⟨t, 0, none⟩ (.slice (some ⟨gl, 0, none⟩) f cl)).setCell ⟨t, 2, none⟩ (.slice (some ⟨gv, 0, none⟩) level cv)).setCell ⟨t, 3, none⟩ (.slice (some ⟨gw, 0, none⟩) f cw)) 3 1 (.slice (some ⟨gv, 0, none⟩) level cv) level (List.take level (List.map i64 s.lv)) := by simpa using this
        exact this2
      · have := hset 3 (.slice (some ⟨gw, 0, none⟩) f cw) _ _ _ _ _ _ (hset 2 (.slice (some ⟨gv, 0, none⟩) level cv) _ _ _ _ _ _ (hset 0 (.slice (some ⟨gl, 0, none⟩) f cl) _ _ _ _ _ _ (p.h.take f hwf) a4) a4) a4
        have e : (List.take f s.wh).length = f := by rw [List.length_take]; omega
        simp only [e, List.map_take]
        have this2 : Row (((wr.setCell ⟨t, 0, none⟩ (.slice (some ⟨gl, 0, none⟩) f cl)).setCell ⟨t, 2, none⟩ (.slice (some ⟨gv, 0, none⟩) level cv)).setCell ⟨t, 3, none⟩ (.slice (some ⟨gw, 0, none⟩) f cw)) 3 1 (.slice (some ⟨gw, 0, none⟩) f cw) f (List.take f (List.map i64 s.wh)) := by simpa using this
        exact this2
    · refine hcT.mono ?_
      rintro i (rfl | rfl) <;> simp
    · intro k hk
      left
      simpa [Value.ownBlock] using hk

end Go.Proofs.Ytghlgegfokjgbaa
/-
  Package trail: New, Lits; a copy of a slice of numbers; are two slices of numbers the same?
-/
namespace Go.Proofs.Ytghlgegfokjgbaa
open Go.ChangeShapes Go.WideShapes Go.ChangeAt Go.RowKit
set_option linter.unusedVariables false

theorem infoMark : (Try.prog.info? 83).map (fun i => (i.zero, i.size, i.bytes)) = some (some (.agg #[.int .i8 0, .int .i64 0, .int .i64 0]), 3, 24) := by kernel_rfl
def TS.new (n : Nat) : TS := { l := [], ms := List.replicate (n + 1) (0, 0, 0), lv := [], wh := [], now := 0 }

theorem flat_replicate (n : Nat) : (List.replicate n [Value.int .i8 0, .int .i64 0, .int .i64 0]).flatten = (List.replicate n ((0, 0, 0) : Mk)).flatMap mkCells := by
  induction n with
  | zero => rfl
  | succ n ih => rw [List.replicate_succ, List.replicate_succ, List.flatten_cons, List.flatMap_cons, ih]; rfl

theorem trail_New (n : Nat) (hn : n ≤ 1048576) (w : World) : Calls Try.prog 10 #[.int .i64 n] w fun e w' => e = .returned (.pointer (some ⟨w.heap.size + 1, 0, none⟩)) ∧ TrailAt w' (w.heap.size + 1) (TS.new n) [w.heap.size + 1, w.heap.size] ∧ Below w.heap.size w w' := by
  have hmk := fun W => run_makeN (P := Try.prog) 54 83 (.agg #[.int .i8 0, .int .i64 0, .int .i64 0]) 3 24 Try.underlying54 infoMark .i64 .i64 (n + 1) (n + 1) (Nat.le_refl _) (by omega) (by omega) W
  have e1 : (((n + 1 : Nat) : Int)) = (n : Int) + 1 := by omega
  rw [e1] at hmk
  have h0 : decide ((n : Int) < 0) = false := by simp
  have h1 : decide (1048576 < (n : Int)) = false := by simp; omega
  clear e1
  go_enter Try.func10, Try.ntmps10
  go_wp2
  go_ret
  refine ⟨rfl, ?_, ((Below.refl _ w).alloc (Nat.le_refl _) _).alloc (by simp) _⟩
  have hrow := Row.made w 83 #[.int .i8 0, .int .i64 0, .int .i64 0] 3 (n + 1) (n + 1) rfl (by omega) (Nat.le_refl _) (by unfold maxLen; omega)
  have hp : Parts ((w.alloc (.cells (madeCells #[.int .i8 0, .int .i64 0, .int .i64 0] ((n + 1) * 3)) 83)).alloc (.cells #[.slice none 0 0, .slice (some ⟨w.heap.size, 0, none⟩) (n + 1) (n + 1), .slice none 0 0, .slice none 0 0, .int .i64 0] 56)) (w.heap.size + 1)
      (.slice none 0 0) (.slice (some ⟨w.heap.size, 0, none⟩) (n + 1) (n + 1)) (.slice none 0 0) (.slice none 0 0) 0 (TS.new n) := by
    refine ⟨?_, World.ownsRow_nil _ _ _ _, ?_, World.ownsRow_nil _ _ _ _, World.ownsRow_nil _ _ _ _, ?_⟩
    · have := Blk.new (w.alloc (.cells (madeCells #[.int .i8 0, .int .i64 0, .int .i64 0] ((n + 1) * 3)) 83)) 56 #[.slice none 0 0, .slice (some ⟨w.heap.size, 0, none⟩) (n + 1) (n + 1), .slice none 0 0, .slice none 0 0, .int .i64 0]
      simpa [i64] using this
    · have := hrow.alloc (.cells #[.slice none 0 0, .slice (some ⟨w.heap.size, 0, none⟩) (n + 1) (n + 1), .slice none 0 0, .slice none 0 0, .int .i64 0] 56)
      rw [show (#[Value.int .i8 0, .int .i64 0, .int .i64 0] : Array Value).toList = [Value.int .i8 0, .int .i64 0, .int .i64 0] from rfl, flat_replicate] at this
      have e : (TS.new n).ms.length = n + 1 := by simp [TS.new]
      rw [e]; exact this
    · simp [Value.ownBlock]
  have := hp.trail' (s := TS.new n) (by simp [TS.new]) rfl rfl rfl rfl rfl
  simpa [Value.ownBlock] using this
end Go.Proofs.Ytghlgegfokjgbaa
