/-
  Package trail: Imply, Decide.
-/
import Derived.Test.YtkaklgjdmlddmaaTrail3
namespace Go.Proofs.Ytkaklgjdmlddmaa
open Go.ChangeShapes Go.WideShapes Go.ChangeAt Go.RowKit

theorem own_slice {w : World} {e : TypeId} {size n : Nat} {v : Value} {xs : List Value} (h : Row w e size v n xs) : ∃ a cap, v = .slice a n cap := by
  rcases h.form with ⟨rfl, rfl, -⟩ | ⟨g, cap, rfl, -⟩
  · exact ⟨none, 0, rfl⟩
  · exact ⟨_, _, rfl⟩
theorem cell_new (w : World) (u : Value) (e : TypeId) (k : Nat) (hk : k = w.heap.size) : ∀ (j : Nat) (x : Value), [u][j]? = some x → (w.alloc (.cells #[u] e)).cell? ⟨k, 0 + j, none⟩ = some x := by
  intro j x hj
  subst hk
  match j, hj with
  | 0, hj => simp at hj; subst hj; simp [World.cell?_alloc_at]
theorem one_cell {u : Value} (h : u.oneCell' = true) : ∀ x ∈ [u], x.oneCell' = true := fun x hx => by simp at hx; subst hx; exact h

/-- The fields' cells, for the walk. -/
theorem Parts.c {w : World} {t : Nat} {vl vm vv vw : Value} {now : Int} {s : TS} (p : Parts w t vl vm vv vw now s) :
    w.cell? ⟨t, 0, none⟩ = some vl ∧ w.cell? ⟨t, 1, none⟩ = some vm ∧ w.cell? ⟨t, 2, none⟩ = some vv ∧ w.cell? ⟨t, 3, none⟩ = some vw ∧ w.cell? ⟨t, 4, none⟩ = some (.int .i64 now) ∧
    w.frozen? ⟨t, 0, none⟩ = false ∧ w.frozen? ⟨t, 2, none⟩ = false ∧ w.frozen? ⟨t, 3, none⟩ = false ∧ w.frozen? ⟨t, 4, none⟩ = false ∧ t < w.heap.size :=
  ⟨p.b.cell 0, p.b.cell 1, p.b.cell 2, p.b.cell 3, p.b.cell 4, p.b.frozen 0, p.b.frozen 2, p.b.frozen 3, p.b.frozen 4, p.b.lt⟩

/-- What stands behind 'x.l = append(x.l, l)'. -/
theorem Parts.putL {w w' : World} {t : Nat} {vl vm vv vw v' : Value} {now : Int} {s : TS} (p : Parts w t vl vm vv vw now s) (x : Int) (hp : AppPost w 3 1 vl (s.l.length + 1) (s.l.map i64 ++ [i64 x]) v' w') :
    Blk w' t 57 #[vl, vm, vv, vw, i64 now] ∧ Parts (w'.setCell ⟨t, 0, none⟩ v') t v' vm vv vw now { s with l := s.l ++ [x] } ∧
    Chg (fun k => k = t ∨ vl.ownBlock = some k) w (w'.setCell ⟨t, 0, none⟩ v') ∧ (∀ k, v'.ownBlock = some k → vl.ownBlock = some k ∨ w.heap.size ≤ k) := by
  obtain ⟨hr, hc, ho⟩ := hp
  obtain ⟨⟨a1, a2, a3, a4⟩, b, c, d⟩ := p.sep
  have hb : Blk w' t _ _ := p.b.chg hc (fun e => a2 e)
  have old : ∀ k, v'.ownBlock = some k → vl.ownBlock = some k ∨ w.heap.size ≤ k := fun k hk => by
    rcases ho with e | e
    · exact .inl (e ▸ hk)
    · right; rw [e] at hk; injection hk with hk; omega
  have hne : ∀ (y : Value), (∀ g, y.ownBlock = some g → vl.ownBlock ≠ some g ∧ g < w.heap.size) → ∀ g, y.ownBlock = some g → v'.ownBlock ≠ some g := fun y hy g hg e => by
    rcases old g e with h | h
    · exact (hy g hg).1 h
    · have := (hy g hg).2; omega
  have hvt : v'.ownBlock ≠ some t := fun e => by
    rcases old t e with h | h
    · exact a2 h
    · have := p.b.lt; omega
  have hset : ∀ (e : TypeId) (size : Nat) (y : Value) (n : Nat) (ys : List Value), Row w e size y n ys → y.ownBlock ≠ some t → (∀ g, y.ownBlock = some g → vl.ownBlock ≠ some g) → Row (w'.setCell ⟨t, 0, none⟩ v') e size y n ys :=
    fun e size y n ys h h1 h2 => (h.chg hc (fun g hg e => h2 g hg e)).setCell (p := ⟨t, 0, none⟩) h1 _
  have hm := hset _ _ _ _ _ p.m a1 (fun g hg => (b g hg).1)
  have hv := hset _ _ _ _ _ p.v a3 (fun g hg e => (c g e).1 hg)
  have hh := hset _ _ _ _ _ p.h a4 (fun g hg e => (c g e).2 hg)
  refine ⟨hb, Parts.mk' (hb.set_ 0 v') ?_ hm hv hh ⟨a1, hvt, a3, a4⟩ ?_ ?_ d, ?_, old⟩
  · have := hr.setCell (p := ⟨t, 0, none⟩) hvt v'
    simpa using this
  · exact fun g hg => ⟨hne vm (fun g hg => ⟨(b g hg).1, p.m.lt g hg⟩) g hg, (b g hg).2⟩
  · exact fun g hg => ⟨fun e => hne vv (fun g hg => ⟨fun e => (c g e).1 hg, p.v.lt g hg⟩) g e hg, fun e => hne vw (fun g hg => ⟨fun e => (c g e).2 hg, p.h.lt g hg⟩) g e hg⟩
  · exact (hc.mono (fun i hi => .inr hi)).setCell (p := ⟨t, 0, none⟩) (.inl (.inl rfl)) _
theorem Parts.putV {w w' : World} {t : Nat} {vl vm vv vw v' : Value} {now : Int} {s : TS} (p : Parts w t vl vm vv vw now s) (x : Int) (hp : AppPost w 3 1 vv (s.lv.length + 1) (s.lv.map i64 ++ [i64 x]) v' w') :
    Blk w' t 57 #[vl, vm, vv, vw, i64 now] ∧ Parts (w'.setCell ⟨t, 2, none⟩ v') t vl vm v' vw now { s with lv := s.lv ++ [x] } ∧
    Chg (fun k => k = t ∨ vv.ownBlock = some k) w (w'.setCell ⟨t, 2, none⟩ v') ∧ (∀ k, v'.ownBlock = some k → vv.ownBlock = some k ∨ w.heap.size ≤ k) := by
  obtain ⟨hr, hc, ho⟩ := hp
  obtain ⟨⟨a1, a2, a3, a4⟩, b, c, d⟩ := p.sep
  have hb : Blk w' t _ _ := p.b.chg hc (fun e => a3 e)
  have old : ∀ k, v'.ownBlock = some k → vv.ownBlock = some k ∨ w.heap.size ≤ k := fun k hk => by
    rcases ho with e | e
    · exact .inl (e ▸ hk)
    · right; rw [e] at hk; injection hk with hk; omega
  have hne : ∀ (y : Value), (∀ g, y.ownBlock = some g → vv.ownBlock ≠ some g ∧ g < w.heap.size) → ∀ g, y.ownBlock = some g → v'.ownBlock ≠ some g := fun y hy g hg e => by
    rcases old g e with h | h
    · exact (hy g hg).1 h
    · have := (hy g hg).2; omega
  have hvt : v'.ownBlock ≠ some t := fun e => by
    rcases old t e with h | h
    · exact a3 h
    · have := p.b.lt; omega
  have hset : ∀ (e : TypeId) (size : Nat) (y : Value) (n : Nat) (ys : List Value), Row w e size y n ys → y.ownBlock ≠ some t → (∀ g, y.ownBlock = some g → vv.ownBlock ≠ some g) → Row (w'.setCell ⟨t, 2, none⟩ v') e size y n ys :=
    fun e size y n ys h h1 h2 => (h.chg hc (fun g hg e => h2 g hg e)).setCell (p := ⟨t, 2, none⟩) h1 _
  have hm := hset _ _ _ _ _ p.m a1 (fun g hg => (b g hg).2.1)
  have hl := hset _ _ _ _ _ p.l a2 (fun g hg => (c g hg).1)
  have hh := hset _ _ _ _ _ p.h a4 (fun g hg e => d g e hg)
  refine ⟨hb, Parts.mk' (hb.set_ 2 v') hl hm ?_ hh ⟨a1, a2, hvt, a4⟩ ?_ ?_ ?_, ?_, old⟩
  · have := hr.setCell (p := ⟨t, 2, none⟩) hvt v'
    simpa using this
  · exact fun g hg => ⟨(b g hg).1, hne vm (fun g hg => ⟨(b g hg).2.1, p.m.lt g hg⟩) g hg, (b g hg).2.2⟩
  · exact fun g hg => ⟨hne vl (fun g hg => ⟨(c g hg).1, p.l.lt g hg⟩) g hg, (c g hg).2⟩
  · exact fun g hg e => hne vw (fun g hg => ⟨fun e => d g e hg, p.h.lt g hg⟩) g e hg
  · exact (hc.mono (fun i hi => .inr hi)).setCell (p := ⟨t, 2, none⟩) (.inl (.inl rfl)) _
theorem Parts.putW {w w' : World} {t : Nat} {vl vm vv vw v' : Value} {now : Int} {s : TS} (p : Parts w t vl vm vv vw now s) (x : Int) (hp : AppPost w 3 1 vw (s.wh.length + 1) (s.wh.map i64 ++ [i64 x]) v' w') :
    Blk w' t 57 #[vl, vm, vv, vw, i64 now] ∧ Parts (w'.setCell ⟨t, 3, none⟩ v') t vl vm vv v' now { s with wh := s.wh ++ [x] } ∧
    Chg (fun k => k = t ∨ vw.ownBlock = some k) w (w'.setCell ⟨t, 3, none⟩ v') ∧ (∀ k, v'.ownBlock = some k → vw.ownBlock = some k ∨ w.heap.size ≤ k) := by
  obtain ⟨hr, hc, ho⟩ := hp
  obtain ⟨⟨a1, a2, a3, a4⟩, b, c, d⟩ := p.sep
  have hb : Blk w' t _ _ := p.b.chg hc (fun e => a4 e)
  have old : ∀ k, v'.ownBlock = some k → vw.ownBlock = some k ∨ w.heap.size ≤ k := fun k hk => by
    rcases ho with e | e
    · exact .inl (e ▸ hk)
    · right; rw [e] at hk; injection hk with hk; omega
  have hne : ∀ (y : Value), (∀ g, y.ownBlock = some g → vw.ownBlock ≠ some g ∧ g < w.heap.size) → ∀ g, y.ownBlock = some g → v'.ownBlock ≠ some g := fun y hy g hg e => by
    rcases old g e with h | h
    · exact (hy g hg).1 h
    · have := (hy g hg).2; omega
  have hvt : v'.ownBlock ≠ some t := fun e => by
    rcases old t e with h | h
    · exact a4 h
    · have := p.b.lt; omega
  have hset : ∀ (e : TypeId) (size : Nat) (y : Value) (n : Nat) (ys : List Value), Row w e size y n ys → y.ownBlock ≠ some t → (∀ g, y.ownBlock = some g → vw.ownBlock ≠ some g) → Row (w'.setCell ⟨t, 3, none⟩ v') e size y n ys :=
    fun e size y n ys h h1 h2 => (h.chg hc (fun g hg e => h2 g hg e)).setCell (p := ⟨t, 3, none⟩) h1 _
  have hm := hset _ _ _ _ _ p.m a1 (fun g hg => (b g hg).2.2)
  have hl := hset _ _ _ _ _ p.l a2 (fun g hg => (c g hg).2)
  have hv := hset _ _ _ _ _ p.v a3 (fun g hg => d g hg)
  refine ⟨hb, Parts.mk' (hb.set_ 3 v') hl hm hv ?_ ⟨a1, a2, a3, hvt⟩ ?_ ?_ ?_, ?_, old⟩
  · have := hr.setCell (p := ⟨t, 3, none⟩) hvt v'
    simpa using this
  · exact fun g hg => ⟨(b g hg).1, (b g hg).2.1, hne vm (fun g hg => ⟨(b g hg).2.2, p.m.lt g hg⟩) g hg⟩
  · exact fun g hg => ⟨(c g hg).1, hne vl (fun g hg => ⟨(c g hg).2, p.l.lt g hg⟩) g hg⟩
  · exact fun g hg => hne vv (fun g hg => ⟨d g hg, p.v.lt g hg⟩) g hg
  · exact (hc.mono (fun i hi => .inr hi)).setCell (p := ⟨t, 3, none⟩) (.inl (.inl rfl)) _
theorem Parts.putNow {w : World} {t : Nat} {vl vm vv vw : Value} {now : Int} {s : TS} (p : Parts w t vl vm vv vw now s) (x : Int) :
    Parts (w.setCell ⟨t, 4, none⟩ (.int .i64 x)) t vl vm vv vw x s ∧ Chg (fun k => k = t) w (w.setCell ⟨t, 4, none⟩ (.int .i64 x)) := by
  obtain ⟨⟨a1, a2, a3, a4⟩, -⟩ := p.sep
  exact ⟨⟨p.b.set_ 4 _, p.l.setCell (p := ⟨t, 4, none⟩) a2 _, p.m.setCell (p := ⟨t, 4, none⟩) a1 _, p.v.setCell (p := ⟨t, 4, none⟩) a3 _, p.h.setCell (p := ⟨t, 4, none⟩) a4 _, p.nd⟩, (Chg.refl (fun k => k = t) w).setCell (p := ⟨t, 4, none⟩) (.inl rfl) _⟩
theorem Parts.putM {w : World} {t gm n cm : Nat} {vl vv vw : Value} {now : Int} {s : TS} (p : Parts w t vl (.slice (some ⟨gm, 0, none⟩) n cm) vv vw now s) (hn : s.ms.length = n) (i : Nat) (hi : i < n) (m : Mk) :
    Parts (((w.setCell ⟨gm, i * 3, none⟩ (.int .i8 m.1)).setCell ⟨gm, i * 3 + 1, none⟩ (.int .i64 m.2.1)).setCell ⟨gm, i * 3 + 2, none⟩ (.int .i64 m.2.2)) t vl (.slice (some ⟨gm, 0, none⟩) n cm) vv vw now { s with ms := s.ms.set i m } ∧
    Chg (fun k => k = gm) w (((w.setCell ⟨gm, i * 3, none⟩ (.int .i8 m.1)).setCell ⟨gm, i * 3 + 1, none⟩ (.int .i64 m.2.1)).setCell ⟨gm, i * 3 + 2, none⟩ (.int .i64 m.2.2)) := by
  obtain ⟨⟨a1, a2, a3, a4⟩, b, -⟩ := p.sep
  obtain ⟨b1, b2, b3⟩ := b gm rfl
  have hgt : t ≠ gm := fun e => a1 (by rw [e]; rfl)
  have hc := (((Chg.refl (fun k => k = gm) w).setCell (p := ⟨gm, i * 3, none⟩) (.inl rfl) (.int .i8 m.1)).setCell (p := ⟨gm, i * 3 + 1, none⟩) (.inl rfl) (.int .i64 m.2.1)).setCell (p := ⟨gm, i * 3 + 2, none⟩) (.inl rfl) (.int .i64 m.2.2)
  have hm := p.m
  rw [hn] at hm
  have hm' := hm.setMark hn i hi m
  refine ⟨⟨p.b.chg hc hgt, p.l.chg hc (fun g hg e => b1 (by rw [hg, e])), ?_, p.v.chg hc (fun g hg e => b2 (by rw [hg, e])), p.h.chg hc (fun g hg e => b3 (by rw [hg, e])), p.nd⟩, hc⟩
  simp only [List.length_set, hn]
  exact hm'

theorem Parts.trail' {w : World} {t : Nat} {s s0 : TS} {vl : Value} {gm cm n : Nat} {vv vw : Value} {now : Int} (p : Parts w t vl (.slice (some ⟨gm, 0, none⟩) n cm) vv vw now s0) (hn : s.ms.length = n) (hnow : s.now = now)
    (h1 : s0.l = s.l) (h2 : s0.ms = s.ms) (h3 : s0.lv = s.lv) (h4 : s0.wh = s.wh) : TrailAt w t s (t :: gm :: (vl.ownBlock.toList ++ (vv.ownBlock.toList ++ vw.ownBlock.toList))) := by
  subst hn hnow
  have h := p
  obtain ⟨b, l, m, v, hh, nd⟩ := h
  rw [h1] at l; rw [h2] at m; rw [h3] at v; rw [h4] at hh
  exact Parts.trail ⟨b, l, m, v, hh, nd⟩
theorem mem_own {x : Value} {k : Nat} (h : x.ownBlock = some k) : k ∈ x.ownBlock.toList := by rw [h]; simp
theorem own_mem {x : Value} {k : Nat} (h : k ∈ x.ownBlock.toList) : x.ownBlock = some k := by simpa using h
/-- What a method leaves: the trail is s now; of what lay there its own blocks alone have turned. -/
def Done (w : World) (fp : List Nat) (t : Nat) (s : TS) (w' : World) : Prop := ∃ fp', TrailAt w' t s fp' ∧ Chg (· ∈ fp) w w' ∧ ∀ k ∈ fp', k ∈ fp ∨ w.heap.size ≤ k
/-- What Imply leaves, put together. -/
theorem imply_close {w W1 WB W2 WE WF : World} {t gm cm : Nat} {s : TS} {vl vv vw v1 v3 : Value} {l r : Int} {s0 : TS} (hfl : s0.l = s.l ++ [l]) (hfm : s0.ms = s.ms.set (varOf l).toNat (signOf l, (s.lv.length : Int), r)) (hfv : s0.lv = s.lv) (hfw : s0.wh = s.wh ++ [s.now + 1])
    (h1 : Chg (fun k => k = gm) w W1) (h2 : Chg (fun k => k = t ∨ vl.ownBlock = some k) W1 WB) (h3 : Chg (fun k => k = t) WB W2) (h4 : Chg (fun _ => False) W2 WE) (h5 : Chg (fun k => k = t ∨ vw.ownBlock = some k) WE WF)
    (n1 : ∀ k, v1.ownBlock = some k → vl.ownBlock = some k ∨ W1.heap.size ≤ k) (n3 : ∀ k, v3.ownBlock = some k → vw.ownBlock = some k ∨ WE.heap.size ≤ k)
    (p : Parts WF t v1 (.slice (some ⟨gm, 0, none⟩) s.ms.length cm) vv v3 (s.now + 1) s0) :
    Done w (t :: gm :: (vl.ownBlock.toList ++ (vv.ownBlock.toList ++ vw.ownBlock.toList))) t (s.put l r) WF := by
  refine ⟨_, p.trail' (s := s.put l r) (by simp [TS.put]) rfl hfl hfm hfv hfw, ?_, ?_⟩
  · refine (((((h1.mono ?_).trans h2 ?_).trans h3 ?_).trans h4 ?_).trans h5 ?_)
    · rintro i rfl; simp
    · rintro i (rfl | h)
      · left; simp
      · left; simp [h]
    · rintro i rfl; left; simp
    · exact fun i h => h.elim
    · rintro i (rfl | h)
      · left; simp
      · left; simp [h]
  · intro k hk
    have z1 := h1.size
    have z2 := h2.size
    have z3 := h3.size
    have z4 := h4.size
    simp only [List.mem_cons, List.mem_append] at hk ⊢
    rcases hk with rfl | rfl | hk | hk | hk
    · left; simp
    · left; simp
    · rcases n1 k (own_mem hk) with h | h
      · left; right; right; left; exact mem_own h
      · right; omega
    · left; right; right; right; left; exact hk
    · rcases n3 k (own_mem hk) with h | h
      · left; right; right; right; right; exact mem_own h
      · right; omega
/-- A step within the trail, then a method. -/
theorem Done.after {w W1 W2 : World} {fp fp1 : List Nat} {t : Nat} {s : TS} {S : Nat → Prop} (hc : Chg S w W1) (hS : ∀ k, S k → k ∈ fp ∨ w.heap.size ≤ k) (hf : ∀ k ∈ fp1, k ∈ fp ∨ w.heap.size ≤ k) (h : Done W1 fp1 t s W2) : Done w fp t s W2 := by
  obtain ⟨fp', hT, h2, h3⟩ := h
  have z := hc.size
  refine ⟨fp', hT, ?_, fun k hk => ?_⟩
  · exact ((Chg.refl (· ∈ fp) w).trans hc hS).trans h2 hf
  · rcases h3 k hk with h | h
    · exact hf k h
    · right; omega
end Go.Proofs.Ytkaklgjdmlddmaa
