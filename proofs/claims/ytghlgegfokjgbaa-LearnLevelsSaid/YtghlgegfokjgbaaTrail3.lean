/-
  Package trail: Imply, Decide.
-/
import Derived.Test.YtghlgegfokjgbaaTrail2
namespace Go.Proofs.Ytghlgegfokjgbaa
open Go.ChangeShapes Go.WideShapes Go.ChangeAt Go.RowKit

theorem infoInt : (Try.prog.info? 3).map (fun i => (i.zero, i.size, i.bytes)) = some (some (.int .i64 0), 1, 8) := by kernel_rfl
def TS.put (s : TS) (l r : Int) : TS := { l := s.l ++ [l], ms := s.ms.set (varOf l).toNat (signOf l, (s.lv.length : Int), r), lv := s.lv, wh := s.wh ++ [s.now + 1], now := s.now + 1 }

/-- The trail's parts, while one of its methods goes. -/
structure Parts (w : World) (t : Nat) (vl vm vv vw : Value) (now : Int) (s : TS) : Prop where
  b : Blk w t 56 #[vl, vm, vv, vw, i64 now]
  l : Row w 3 1 vl s.l.length (s.l.map i64)
  m : Row w 83 3 vm s.ms.length (s.ms.flatMap mkCells)
  v : Row w 3 1 vv s.lv.length (s.lv.map i64)
  h : Row w 3 1 vw s.wh.length (s.wh.map i64)
  nd : (t :: (vm.ownBlock.toList ++ (vl.ownBlock.toList ++ (vv.ownBlock.toList ++ vw.ownBlock.toList)))).Nodup

theorem not_in {x : Value} {t : Nat} {ls : List Nat} (h : t ∉ x.ownBlock.toList ++ ls) : x.ownBlock ≠ some t := fun e => h (by rw [e]; simp)
theorem Parts.sep {w : World} {t : Nat} {vl vm vv vw : Value} {now : Int} {s : TS} (p : Parts w t vl vm vv vw now s) :
    (vm.ownBlock ≠ some t ∧ vl.ownBlock ≠ some t ∧ vv.ownBlock ≠ some t ∧ vw.ownBlock ≠ some t) ∧
    (∀ g, vm.ownBlock = some g → vl.ownBlock ≠ some g ∧ vv.ownBlock ≠ some g ∧ vw.ownBlock ≠ some g) ∧
    (∀ g, vl.ownBlock = some g → vv.ownBlock ≠ some g ∧ vw.ownBlock ≠ some g) ∧ (∀ g, vv.ownBlock = some g → vw.ownBlock ≠ some g) := by
  have h := p.nd
  simp only [List.nodup_cons, List.mem_append, not_or] at h
  obtain ⟨⟨h1, h2, h3, h4⟩, h⟩ := h
  have k : ∀ x : Value, t ∉ x.ownBlock.toList → x.ownBlock ≠ some t := fun x hx e => hx (by rw [e]; simp)
  refine ⟨⟨k _ h1, k _ h2, k _ h3, k _ h4⟩, fun g e => ?_, fun g e => ?_, fun g e => ?_⟩
  · rw [e] at h
    simp only [Option.toList_some, List.cons_append, List.nil_append, List.nodup_cons, List.mem_append, not_or] at h
    obtain ⟨⟨q1, q2, q3⟩, -⟩ := h
    exact ⟨fun e => q1 (by rw [e]; simp), fun e => q2 (by rw [e]; simp), fun e => q3 (by rw [e]; simp)⟩
  · have h' := (List.nodup_append.1 h).2.1
    rw [e] at h'
    simp only [Option.toList_some, List.cons_append, List.nil_append, List.nodup_cons, List.mem_append, not_or] at h'
    obtain ⟨⟨q2, q3⟩, -⟩ := h'
    exact ⟨fun e => q2 (by rw [e]; simp), fun e => q3 (by rw [e]; simp)⟩
  · have h' := (List.nodup_append.1 (List.nodup_append.1 h).2.1).2.1
    rw [e] at h'
    simp only [Option.toList_some, List.cons_append, List.nil_append, List.nodup_cons] at h'
    exact fun e => h'.1 (by rw [e]; simp)
theorem Parts.mk' {w : World} {t : Nat} {vl vm vv vw : Value} {now : Int} {s : TS} (b : Blk w t 56 #[vl, vm, vv, vw, i64 now])
    (l : Row w 3 1 vl s.l.length (s.l.map i64)) (m : Row w 83 3 vm s.ms.length (s.ms.flatMap mkCells)) (v : Row w 3 1 vv s.lv.length (s.lv.map i64)) (h : Row w 3 1 vw s.wh.length (s.wh.map i64))
    (q1 : vm.ownBlock ≠ some t ∧ vl.ownBlock ≠ some t ∧ vv.ownBlock ≠ some t ∧ vw.ownBlock ≠ some t)
    (q2 : ∀ g, vm.ownBlock = some g → vl.ownBlock ≠ some g ∧ vv.ownBlock ≠ some g ∧ vw.ownBlock ≠ some g)
    (q3 : ∀ g, vl.ownBlock = some g → vv.ownBlock ≠ some g ∧ vw.ownBlock ≠ some g) (q4 : ∀ g, vv.ownBlock = some g → vw.ownBlock ≠ some g) : Parts w t vl vm vv vw now s := by
  refine ⟨b, l, m, v, h, ?_⟩
  have k : ∀ (x : Value) (i : Nat), x.ownBlock ≠ some i → i ∉ x.ownBlock.toList := fun x i hx e => hx (by simpa using e)
  have n1 : ∀ x : Value, x.ownBlock.toList.Nodup := fun x => by cases x.ownBlock <;> simp
  have d : ∀ (x : Value) (ls : List Nat), ls.Nodup → (∀ g, x.ownBlock = some g → g ∉ ls) → (x.ownBlock.toList ++ ls).Nodup := fun x ls hn hx => by
    cases e : x.ownBlock with
    | none => simpa using hn
    | some g => simp only [Option.toList_some, List.cons_append, List.nil_append, List.nodup_cons]; exact ⟨hx g e, hn⟩
  refine List.nodup_cons.2 ⟨?_, d _ _ (d _ _ (d _ _ (n1 _) ?_) ?_) ?_⟩
  · simp only [List.mem_append, not_or]; exact ⟨k _ _ q1.1, k _ _ q1.2.1, k _ _ q1.2.2.1, k _ _ q1.2.2.2⟩
  · exact fun g e => k _ _ (q4 g e)
  · exact fun g e => by simp only [List.mem_append, not_or]; exact ⟨k _ _ (q3 g e).1, k _ _ (q3 g e).2⟩
  · exact fun g e => by simp only [List.mem_append, not_or]; exact ⟨k _ _ (q2 g e).1, k _ _ (q2 g e).2.1, k _ _ (q2 g e).2.2⟩

theorem TrailAt.parts {w : World} {t : Nat} {s : TS} {fp : List Nat} (h : TrailAt w t s fp) : ∃ vl gm cm vv vw, Parts w t vl (.slice (some ⟨gm, 0, none⟩) s.ms.length cm) vv vw s.now s ∧ fp = t :: gm :: (vl.ownBlock.toList ++ (vv.ownBlock.toList ++ vw.ownBlock.toList)) := by
  obtain ⟨vl, gm, cm, vv, vw, hb, hl, hm, hv, hw, rfl, hnd⟩ := h
  exact ⟨vl, gm, cm, vv, vw, ⟨hb, hl, hm, hv, hw, by simpa [Value.ownBlock] using hnd⟩, rfl⟩
theorem Parts.trail {w : World} {t : Nat} {s : TS} {vl : Value} {gm cm : Nat} {vv vw : Value} (p : Parts w t vl (.slice (some ⟨gm, 0, none⟩) s.ms.length cm) vv vw s.now s) :
    TrailAt w t s (t :: gm :: (vl.ownBlock.toList ++ (vv.ownBlock.toList ++ vw.ownBlock.toList))) :=
  ⟨vl, gm, cm, vv, vw, p.b, p.l, p.m, p.v, p.h, rfl, by simpa [Value.ownBlock] using p.nd⟩

/-- A step that turns none of the trail's blocks. -/
theorem Parts.chg {w w' : World} {t : Nat} {vl vm vv vw : Value} {now : Int} {s : TS} {S : Nat → Prop} (p : Parts w t vl vm vv vw now s) (hc : Chg S w w')
    (h0 : ¬ S t) (h1 : ∀ g, vl.ownBlock = some g → ¬ S g) (h2 : ∀ g, vm.ownBlock = some g → ¬ S g) (h3 : ∀ g, vv.ownBlock = some g → ¬ S g) (h4 : ∀ g, vw.ownBlock = some g → ¬ S g) : Parts w' t vl vm vv vw now s :=
  ⟨p.b.chg hc h0, p.l.chg hc h1, p.m.chg hc h2, p.v.chg hc h3, p.h.chg hc h4, p.nd⟩
theorem Parts.alloc {w : World} {t : Nat} {vl vm vv vw : Value} {now : Int} {s : TS} (p : Parts w t vl vm vv vw now s) (o : Obj) : Parts (w.alloc o) t vl vm vv vw now s :=
  p.chg ((Chg.refl (fun _ => False) w).alloc o) (fun h => h) (fun _ _ h => h) (fun _ _ h => h) (fun _ _ h => h) (fun _ _ h => h)
theorem Parts.drew {w : World} {t : Nat} {vl vm vv vw : Value} {now : Int} {s : TS} (p : Parts w t vl vm vv vw now s) : Parts w.drew t vl vm vv vw now s := ⟨p.b, p.l, p.m, p.v, p.h, p.nd⟩

theorem flat_set (m : Mk) : ∀ (ms : List Mk) (i : Nat), i < ms.length → (((ms.flatMap mkCells).set (i * 3) (.int .i8 m.1)).set (i * 3 + 1) (.int .i64 m.2.1)).set (i * 3 + 2) (.int .i64 m.2.2) = (ms.set i m).flatMap mkCells := by
  intro ms
  induction ms with
  | nil => intro i h; simp at h
  | cons a ms ih =>
    intro i h
    cases i with
    | zero => simp [mkCells]
    | succ i =>
      have := ih i (by simpa using h)
      have e0 : (i + 1) * 3 = i * 3 + 3 := by omega
      have e1 : (i + 1) * 3 + 1 = i * 3 + 1 + 3 := by omega
      have e2 : (i + 1) * 3 + 2 = i * 3 + 2 + 3 := by omega
      rw [e1, e2, e0, List.set_cons_succ, List.flatMap_cons, List.flatMap_cons, ← this]
      simp [mkCells]
/-- A mark is written. -/
theorem Row.setMark {w : World} {gm cm n : Nat} {ms : List Mk} (h : Row w 83 3 (.slice (some ⟨gm, 0, none⟩) n cm) n (ms.flatMap mkCells)) (hn : ms.length = n) (i : Nat) (hi : i < n) (m : Mk) :
    Row (((w.setCell ⟨gm, i * 3, none⟩ (.int .i8 m.1)).setCell ⟨gm, i * 3 + 1, none⟩ (.int .i64 m.2.1)).setCell ⟨gm, i * 3 + 2, none⟩ (.int .i64 m.2.2)) 83 3 (.slice (some ⟨gm, 0, none⟩) n cm) n ((ms.set i m).flatMap mkCells) := by
  have := ((h.set1 (i * 3) (.int .i8 m.1)).set1 (i * 3 + 1) (.int .i64 m.2.1)).set1 (i * 3 + 2) (.int .i64 m.2.2)
  rw [flat_set m ms i (by omega)] at this
  exact this
end Go.Proofs.Ytghlgegfokjgbaa
/-
  Package trail: Imply, Decide.
-/
namespace Go.Proofs.Ytghlgegfokjgbaa
open Go.ChangeShapes Go.WideShapes Go.ChangeAt Go.RowKit

theorem own_slice {w : World} {e : TypeId} {size n : Nat} {v : Value} {xs : List Value} (h : Row w e size v n xs) : ∃ a cap, v = .slice a n cap := by
  rcases h.form with ⟨rfl, rfl, -⟩ | ⟨g, cap, rfl, -⟩
  · exact ⟨none, 0, rfl⟩
  · exact ⟨_, _, rfl⟩
theorem cell_new (w : World) (u : Value) (e : TypeId) (k : Nat) (hk : k = w.heap.size) : ∀ (j : Nat) (x : Value), [u][j]? = some x → (w.alloc (.cells #[u] e)).cell? ⟨k, 0 + j, none⟩ = some x := by
  intro j x hj
  subst hk
  match j, hj with
  | 0, hj => simp at hj; subst hj; simp [World.cell?_alloc_at]
theorem one_cell {u : Value} (h : u.oneCell' = true) : ∀ x ∈ [u], x.oneCell' = true := fun x hx => by simp at hx; subst hx; exact h

/-- The fields' cells, for the walk. -/
theorem Parts.c {w : World} {t : Nat} {vl vm vv vw : Value} {now : Int} {s : TS} (p : Parts w t vl vm vv vw now s) :
    w.cell? ⟨t, 0, none⟩ = some vl ∧ w.cell? ⟨t, 1, none⟩ = some vm ∧ w.cell? ⟨t, 2, none⟩ = some vv ∧ w.cell? ⟨t, 3, none⟩ = some vw ∧ w.cell? ⟨t, 4, none⟩ = some (.int .i64 now) ∧
    w.frozen? ⟨t, 0, none⟩ = false ∧ w.frozen? ⟨t, 2, none⟩ = false ∧ w.frozen? ⟨t, 3, none⟩ = false ∧ w.frozen? ⟨t, 4, none⟩ = false ∧ t < w.heap.size :=
  ⟨p.b.cell 0, p.b.cell 1, p.b.cell 2, p.b.cell 3, p.b.cell 4, p.b.frozen 0, p.b.frozen 2, p.b.frozen 3, p.b.frozen 4, p.b.lt⟩

/-- What stands behind 'x.l = append(x.l, l)'. -/
theorem Parts.putL {w w' : World} {t : Nat} {vl vm vv vw v' : Value} {now : Int} {s : TS} (p : Parts w t vl vm vv vw now s) (x : Int) (hp : AppPost w 3 1 vl (s.l.length + 1) (s.l.map i64 ++ [i64 x]) v' w') :
    Blk w' t 56 #[vl, vm, vv, vw, i64 now] ∧ Parts (w'.setCell ⟨t, 0, none⟩ v') t v' vm vv vw now { s with l := s.l ++ [x] } ∧
    Chg (fun k => k = t ∨ vl.ownBlock = some k) w (w'.setCell ⟨t, 0, none⟩ v') ∧ (∀ k, v'.ownBlock = some k → vl.ownBlock = some k ∨ w.heap.size ≤ k) := by
  obtain ⟨hr, hc, ho⟩ := hp
  obtain ⟨⟨a1, a2, a3, a4⟩, b, c, d⟩ := p.sep
  have hb : Blk w' t _ _ := p.b.chg hc (fun e => a2 e)
  have old : ∀ k, v'.ownBlock = some k → vl.ownBlock = some k ∨ w.heap.size ≤ k := fun k hk => by
    rcases ho with e | e
    · exact .inl (e ▸ hk)
    · right; rw [e] at hk; injection hk with hk; omega
  have hne : ∀ (y : Value), (∀ g, y.ownBlock = some g → vl.ownBlock ≠ some g ∧ g < w.heap.size) → ∀ g, y.ownBlock = some g → v'.ownBlock ≠ some g := fun y hy g hg e => by
    rcases old g e with h | h
    · exact (hy g hg).1 h
    · have := (hy g hg).2; omega
  have hvt : v'.ownBlock ≠ some t := fun e => by
    rcases old t e with h | h
    · exact a2 h
    · have := p.b.lt; omega
  have hset : ∀ (e : TypeId) (size : Nat) (y : Value) (n : Nat) (ys : List Value), Row w e size y n ys → y.ownBlock ≠ some t → (∀ g, y.ownBlock = some g → vl.ownBlock ≠ some g) → Row (w'.setCell ⟨t, 0, none⟩ v') e size y n ys :=
    fun e size y n ys h h1 h2 => (h.chg hc (fun g hg e => h2 g hg e)).setCell (p := ⟨t, 0, none⟩) h1 _
  have hm := hset _ _ _ _ _ p.m a1 (fun g hg => (b g hg).1)
  have hv := hset _ _ _ _ _ p.v a3 (fun g hg e => (c g e).1 hg)
  have hh := hset _ _ _ _ _ p.h a4 (fun g hg e => (c g e).2 hg)
  refine ⟨hb, Parts.mk' (hb.set_ 0 v') ?_ hm hv hh ⟨a1, hvt, a3, a4⟩ ?_ ?_ d, ?_, old⟩
  · have := hr.setCell (p := ⟨t, 0, none⟩) hvt v'
    simpa using this
  · exact fun g hg => ⟨hne vm (fun g hg => ⟨(b g hg).1, p.m.lt g hg⟩) g hg, (b g hg).2⟩
  · exact fun g hg => ⟨fun e => hne vv (fun g hg => ⟨fun e => (c g e).1 hg, p.v.lt g hg⟩) g e hg, fun e => hne vw (fun g hg => ⟨fun e => (c g e).2 hg, p.h.lt g hg⟩) g e hg⟩
  · exact (hc.mono (fun i hi => .inr hi)).setCell (p := ⟨t, 0, none⟩) (.inl (.inl rfl)) _
theorem Parts.putV {w w' : World} {t : Nat} {vl vm vv vw v' : Value} {now : Int} {s : TS} (p : Parts w t vl vm vv vw now s) (x : Int) (hp : AppPost w 3 1 vv (s.lv.length + 1) (s.lv.map i64 ++ [i64 x]) v' w') :
    Blk w' t 56 #[vl, vm, vv, vw, i64 now] ∧ Parts (w'.setCell ⟨t, 2, none⟩ v') t vl vm v' vw now { s with lv := s.lv ++ [x] } ∧
    Chg (fun k => k = t ∨ vv.ownBlock = some k) w (w'.setCell ⟨t, 2, none⟩ v') ∧ (∀ k, v'.ownBlock = some k → vv.ownBlock = some k ∨ w.heap.size ≤ k) := by
  obtain ⟨hr, hc, ho⟩ := hp
  obtain ⟨⟨a1, a2, a3, a4⟩, b, c, d⟩ := p.sep
  have hb : Blk w' t _ _ := p.b.chg hc (fun e => a3 e)
  have old : ∀ k, v'.ownBlock = some k → vv.ownBlock = some k ∨ w.heap.size ≤ k := fun k hk => by
    rcases ho with e | e
    · exact .inl (e ▸ hk)
    · right; rw [e] at hk; injection hk with hk; omega
  have hne : ∀ (y : Value), (∀ g, y.ownBlock = some g → vv.ownBlock ≠ some g ∧ g < w.heap.size) → ∀ g, y.ownBlock = some g → v'.ownBlock ≠ some g := fun y hy g hg e => by
    rcases old g e with h | h
    · exact (hy g hg).1 h
    · have := (hy g hg).2; omega
  have hvt : v'.ownBlock ≠ some t := fun e => by
    rcases old t e with h | h
    · exact a3 h
    · have := p.b.lt; omega
  have hset : ∀ (e : TypeId) (size : Nat) (y : Value) (n : Nat) (ys : List Value), Row w e size y n ys → y.ownBlock ≠ some t → (∀ g, y.ownBlock = some g → vv.ownBlock ≠ some g) → Row (w'.setCell ⟨t, 2, none⟩ v') e size y n ys :=
    fun e size y n ys h h1 h2 => (h.chg hc (fun g hg e => h2 g hg e)).setCell (p := ⟨t, 2, none⟩) h1 _
  have hm := hset _ _ _ _ _ p.m a1 (fun g hg => (b g hg).2.1)
  have hl := hset _ _ _ _ _ p.l a2 (fun g hg => (c g hg).1)
  have hh := hset _ _ _ _ _ p.h a4 (fun g hg e => d g e hg)
  refine ⟨hb, Parts.mk' (hb.set_ 2 v') hl hm ?_ hh ⟨a1, a2, hvt, a4⟩ ?_ ?_ ?_, ?_, old⟩
  · have := hr.setCell (p := ⟨t, 2, none⟩) hvt v'
    simpa using this
  · exact fun g hg => ⟨(b g hg).1, hne vm (fun g hg => ⟨(b g hg).2.1, p.m.lt g hg⟩) g hg, (b g hg).2.2⟩
  · exact fun g hg => ⟨hne vl (fun g hg => ⟨(c g hg).1, p.l.lt g hg⟩) g hg, (c g hg).2⟩
  · exact fun g hg e => hne vw (fun g hg => ⟨fun e => d g e hg, p.h.lt g hg⟩) g e hg
  · exact (hc.mono (fun i hi => .inr hi)).setCell (p := ⟨t, 2, none⟩) (.inl (.inl rfl)) _
theorem Parts.putW {w w' : World} {t : Nat} {vl vm vv vw v' : Value} {now : Int} {s : TS} (p : Parts w t vl vm vv vw now s) (x : Int) (hp : AppPost w 3 1 vw (s.wh.length + 1) (s.wh.map i64 ++ [i64 x]) v' w') :
    Blk w' t 56 #[vl, vm, vv, vw, i64 now] ∧ Parts (w'.setCell ⟨t, 3, none⟩ v') t vl vm vv v' now { s with wh := s.wh ++ [x] } ∧
    Chg (fun k => k = t ∨ vw.ownBlock = some k) w (w'.setCell ⟨t, 3, none⟩ v') ∧ (∀ k, v'.ownBlock = some k → vw.ownBlock = some k ∨ w.heap.size ≤ k) := by
  obtain ⟨hr, hc, ho⟩ := hp
  obtain ⟨⟨a1, a2, a3, a4⟩, b, c, d⟩ := p.sep
  have hb : Blk w' t _ _ := p.b.chg hc (fun e => a4 e)
  have old : ∀ k, v'.ownBlock = some k → vw.ownBlock = some k ∨ w.heap.size ≤ k := fun k hk => by
    rcases ho with e | e
    · exact .inl (e ▸ hk)
    · right; rw [e] at hk; injection hk with hk; omega
  have hne : ∀ (y : Value), (∀ g, y.ownBlock = some g → vw.ownBlock ≠ some g ∧ g < w.heap.size) → ∀ g, y.ownBlock = some g → v'.ownBlock ≠ some g := fun y hy g hg e => by
    rcases old g e with h | h
    · exact (hy g hg).1 h
    · have := (hy g hg).2; omega
  have hvt : v'.ownBlock ≠ some t := fun e => by
    rcases old t e with h | h
    · exact a4 h
    · have := p.b.lt; omega
  have hset : ∀ (e : TypeId) (size : Nat) (y : Value) (n : Nat) (ys : List Value), Row w e size y n ys → y.ownBlock ≠ some t → (∀ g, y.ownBlock = some g → vw.ownBlock ≠ some g) → Row (w'.setCell ⟨t, 3, none⟩ v') e size y n ys :=
    fun e size y n ys h h1 h2 => (h.chg hc (fun g hg e => h2 g hg e)).setCell (p := ⟨t, 3, none⟩) h1 _
  have hm := hset _ _ _ _ _ p.m a1 (fun g hg => (b g hg).2.2)
  have hl := hset _ _ _ _ _ p.l a2 (fun g hg => (c g hg).2)
  have hv := hset _ _ _ _ _ p.v a3 (fun g hg => d g hg)
  refine ⟨hb, Parts.mk' (hb.set_ 3 v') hl hm hv ?_ ⟨a1, a2, a3, hvt⟩ ?_ ?_ ?_, ?_, old⟩
  · have := hr.setCell (p := ⟨t, 3, none⟩) hvt v'
    simpa using this
  · exact fun g hg => ⟨(b g hg).1, (b g hg).2.1, hne vm (fun g hg => ⟨(b g hg).2.2, p.m.lt g hg⟩) g hg⟩
  · exact fun g hg => ⟨(c g hg).1, hne vl (fun g hg => ⟨(c g hg).2, p.l.lt g hg⟩) g hg⟩
  · exact fun g hg => hne vv (fun g hg => ⟨d g hg, p.v.lt g hg⟩) g hg
  · exact (hc.mono (fun i hi => .inr hi)).setCell (p := ⟨t, 3, none⟩) (.inl (.inl rfl)) _
theorem Parts.putNow {w : World} {t : Nat} {vl vm vv vw : Value} {now : Int} {s : TS} (p : Parts w t vl vm vv vw now s) (x : Int) :
    Parts (w.setCell ⟨t, 4, none⟩ (.int .i64 x)) t vl vm vv vw x s ∧ Chg (fun k => k = t) w (w.setCell ⟨t, 4, none⟩ (.int .i64 x)) := by
  obtain ⟨⟨a1, a2, a3, a4⟩, -⟩ := p.sep
  exact ⟨⟨p.b.set_ 4 _, p.l.setCell (p := ⟨t, 4, none⟩) a2 _, p.m.setCell (p := ⟨t, 4, none⟩) a1 _, p.v.setCell (p := ⟨t, 4, none⟩) a3 _, p.h.setCell (p := ⟨t, 4, none⟩) a4 _, p.nd⟩, (Chg.refl (fun k => k = t) w).setCell (p := ⟨t, 4, none⟩) (.inl rfl) _⟩
theorem Parts.putM {w : World} {t gm n cm : Nat} {vl vv vw : Value} {now : Int} {s : TS} (p : Parts w t vl (.slice (some ⟨gm, 0, none⟩) n cm) vv vw now s) (hn : s.ms.length = n) (i : Nat) (hi : i < n) (m : Mk) :
    Parts (((w.setCell ⟨gm, i * 3, none⟩ (.int .i8 m.1)).setCell ⟨gm, i * 3 + 1, none⟩ (.int .i64 m.2.1)).setCell ⟨gm, i * 3 + 2, none⟩ (.int .i64 m.2.2)) t vl (.slice (some ⟨gm, 0, none⟩) n cm) vv vw now { s with ms := s.ms.set i m } ∧
    Chg (fun k => k = gm) w (((w.setCell ⟨gm, i * 3, none⟩ (.int .i8 m.1)).setCell ⟨gm, i * 3 + 1, none⟩ (.int .i64 m.2.1)).setCell ⟨gm, i * 3 + 2, none⟩ (.int .i64 m.2.2)) := by
  obtain ⟨⟨a1, a2, a3, a4⟩, b, -⟩ := p.sep
  obtain ⟨b1, b2, b3⟩ := b gm rfl
  have hgt : t ≠ gm := fun e => a1 (by rw [e]; rfl)
  have hc := (((Chg.refl (fun k => k = gm) w).setCell (p := ⟨gm, i * 3, none⟩) (.inl rfl) (.int .i8 m.1)).setCell (p := ⟨gm, i * 3 + 1, none⟩) (.inl rfl) (.int .i64 m.2.1)).setCell (p := ⟨gm, i * 3 + 2, none⟩) (.inl rfl) (.int .i64 m.2.2)
  have hm := p.m
  rw [hn] at hm
  have hm' := hm.setMark hn i hi m
  refine ⟨⟨p.b.chg hc hgt, p.l.chg hc (fun g hg e => b1 (by rw [hg, e])), ?_, p.v.chg hc (fun g hg e => b2 (by rw [hg, e])), p.h.chg hc (fun g hg e => b3 (by rw [hg, e])), p.nd⟩, hc⟩
  simp only [List.length_set, hn]
  exact hm'

theorem Parts.trail' {w : World} {t : Nat} {s s0 : TS} {vl : Value} {gm cm n : Nat} {vv vw : Value} {now : Int} (p : Parts w t vl (.slice (some ⟨gm, 0, none⟩) n cm) vv vw now s0) (hn : s.ms.length = n) (hnow : s.now = now)
    (h1 : s0.l = s.l) (h2 : s0.ms = s.ms) (h3 : s0.lv = s.lv) (h4 : s0.wh = s.wh) : TrailAt w t s (t :: gm :: (vl.ownBlock.toList ++ (vv.ownBlock.toList ++ vw.ownBlock.toList))) := by
  subst hn hnow
  have h := p
  obtain ⟨b, l, m, v, hh, nd⟩ := h
  rw [h1] at l; rw [h2] at m; rw [h3] at v; rw [h4] at hh
  exact Parts.trail ⟨b, l, m, v, hh, nd⟩
theorem mem_own {x : Value} {k : Nat} (h : x.ownBlock = some k) : k ∈ x.ownBlock.toList := by rw [h]; simp
theorem own_mem {x : Value} {k : Nat} (h : k ∈ x.ownBlock.toList) : x.ownBlock = some k := by simpa using h
/-- What a method leaves: the trail is s now; of what lay there its own blocks alone have turned. -/
def Done (w : World) (fp : List Nat) (t : Nat) (s : TS) (w' : World) : Prop := ∃ fp', TrailAt w' t s fp' ∧ Chg (· ∈ fp) w w' ∧ ∀ k ∈ fp', k ∈ fp ∨ w.heap.size ≤ k
/-- What Imply leaves, put together. -/
theorem imply_close {w W1 WB W2 WE WF : World} {t gm cm : Nat} {s : TS} {vl vv vw v1 v3 : Value} {l r : Int} {s0 : TS} (hfl : s0.l = s.l ++ [l]) (hfm : s0.ms = s.ms.set (varOf l).toNat (signOf l, (s.lv.length : Int), r)) (hfv : s0.lv = s.lv) (hfw : s0.wh = s.wh ++ [s.now + 1])
    (h1 : Chg (fun k => k = gm) w W1) (h2 : Chg (fun k => k = t ∨ vl.ownBlock = some k) W1 WB) (h3 : Chg (fun k => k = t) WB W2) (h4 : Chg (fun _ => False) W2 WE) (h5 : Chg (fun k => k = t ∨ vw.ownBlock = some k) WE WF)
    (n1 : ∀ k, v1.ownBlock = some k → vl.ownBlock = some k ∨ W1.heap.size ≤ k) (n3 : ∀ k, v3.ownBlock = some k → vw.ownBlock = some k ∨ WE.heap.size ≤ k)
    (p : Parts WF t v1 (.slice (some ⟨gm, 0, none⟩) s.ms.length cm) vv v3 (s.now + 1) s0) :
    Done w (t :: gm :: (vl.ownBlock.toList ++ (vv.ownBlock.toList ++ vw.ownBlock.toList))) t (s.put l r) WF := by
  refine ⟨_, p.trail' (s := s.put l r) (by simp [TS.put]) rfl hfl hfm hfv hfw, ?_, ?_⟩
  · refine (((((h1.mono ?_).trans h2 ?_).trans h3 ?_).trans h4 ?_).trans h5 ?_)
    · rintro i rfl; simp
    · rintro i (rfl | h)
      · left; simp
      · left; simp [h]
    · rintro i rfl; left; simp
    · exact fun i h => h.elim
    · rintro i (rfl | h)
      · left; simp
      · left; simp [h]
  · intro k hk
    have z1 := h1.size
    have z2 := h2.size
    have z3 := h3.size
    have z4 := h4.size
    simp only [List.mem_cons, List.mem_append] at hk ⊢
    rcases hk with rfl | rfl | hk | hk | hk
    · left; simp
    · left; simp
    · rcases n1 k (own_mem hk) with h | h
      · left; right; right; left; exact mem_own h
      · right; omega
    · left; right; right; right; left; exact hk
    · rcases n3 k (own_mem hk) with h | h
      · left; right; right; right; right; exact mem_own h
      · right; omega
/-- A step within the trail, then a method. -/
theorem Done.after {w W1 W2 : World} {fp fp1 : List Nat} {t : Nat} {s : TS} {S : Nat → Prop} (hc : Chg S w W1) (hS : ∀ k, S k → k ∈ fp ∨ w.heap.size ≤ k) (hf : ∀ k ∈ fp1, k ∈ fp ∨ w.heap.size ≤ k) (h : Done W1 fp1 t s W2) : Done w fp t s W2 := by
  obtain ⟨fp', hT, h2, h3⟩ := h
  have z := hc.size
  refine ⟨fp', hT, ?_, fun k hk => ?_⟩
  · exact ((Chg.refl (· ∈ fp) w).trans hc hS).trans h2 hf
  · rcases h3 k hk with h | h
    · exact hf k h
    · right; omega
end Go.Proofs.Ytghlgegfokjgbaa
