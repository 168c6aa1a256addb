/-
  Package trail: Imply, Decide.
-/
import Derived.Test.YtkaklgjdmlddmaaTrail2
namespace Go.Proofs.Ytkaklgjdmlddmaa
open Go.ChangeShapes Go.WideShapes Go.ChangeAt Go.RowKit

theorem infoInt : (Try.prog.info? 3).map (fun i => (i.zero, i.size, i.bytes)) = some (some (.int .i64 0), 1, 8) := by kernel_rfl
def TS.put (s : TS) (l r : Int) : TS := { l := s.l ++ [l], ms := s.ms.set (varOf l).toNat (signOf l, (s.lv.length : Int), r), lv := s.lv, wh := s.wh ++ [s.now + 1], now := s.now + 1 }

/-- The trail's parts, while one of its methods goes. -/
structure Parts (w : World) (t : Nat) (vl vm vv vw : Value) (now : Int) (s : TS) : Prop where
  b : Blk w t 57 #[vl, vm, vv, vw, i64 now]
  l : Row w 3 1 vl s.l.length (s.l.map i64)
  m : Row w 76 3 vm s.ms.length (s.ms.flatMap mkCells)
  v : Row w 3 1 vv s.lv.length (s.lv.map i64)
  h : Row w 3 1 vw s.wh.length (s.wh.map i64)
  nd : (t :: (vm.ownBlock.toList ++ (vl.ownBlock.toList ++ (vv.ownBlock.toList ++ vw.ownBlock.toList)))).Nodup

theorem not_in {x : Value} {t : Nat} {ls : List Nat} (h : t ∉ x.ownBlock.toList ++ ls) : x.ownBlock ≠ some t := fun e => h (by rw [e]; simp)
theorem Parts.sep {w : World} {t : Nat} {vl vm vv vw : Value} {now : Int} {s : TS} (p : Parts w t vl vm vv vw now s) :
    (vm.ownBlock ≠ some t ∧ vl.ownBlock ≠ some t ∧ vv.ownBlock ≠ some t ∧ vw.ownBlock ≠ some t) ∧
    (∀ g, vm.ownBlock = some g → vl.ownBlock ≠ some g ∧ vv.ownBlock ≠ some g ∧ vw.ownBlock ≠ some g) ∧
    (∀ g, vl.ownBlock = some g → vv.ownBlock ≠ some g ∧ vw.ownBlock ≠ some g) ∧ (∀ g, vv.ownBlock = some g → vw.ownBlock ≠ some g) := by
  have h := p.nd
  simp only [List.nodup_cons, List.mem_append, not_or] at h
  obtain ⟨⟨h1, h2, h3, h4⟩, h⟩ := h
  have k : ∀ x : Value, t ∉ x.ownBlock.toList → x.ownBlock ≠ some t := fun x hx e => hx (by rw [e]; simp)
  refine ⟨⟨k _ h1, k _ h2, k _ h3, k _ h4⟩, fun g e => ?_, fun g e => ?_, fun g e => ?_⟩
  · rw [e] at h
    simp only [Option.toList_some, List.cons_append, List.nil_append, List.nodup_cons, List.mem_append, not_or] at h
    obtain ⟨⟨q1, q2, q3⟩, -⟩ := h
    exact ⟨fun e => q1 (by rw [e]; simp), fun e => q2 (by rw [e]; simp), fun e => q3 (by rw [e]; simp)⟩
  · have h' := (List.nodup_append.1 h).2.1
    rw [e] at h'
    simp only [Option.toList_some, List.cons_append, List.nil_append, List.nodup_cons, List.mem_append, not_or] at h'
    obtain ⟨⟨q2, q3⟩, -⟩ := h'
    exact ⟨fun e => q2 (by rw [e]; simp), fun e => q3 (by rw [e]; simp)⟩
  · have h' := (List.nodup_append.1 (List.nodup_append.1 h).2.1).2.1
    rw [e] at h'
    simp only [Option.toList_some, List.cons_append, List.nil_append, List.nodup_cons] at h'
    exact fun e => h'.1 (by rw [e]; simp)
theorem Parts.mk' {w : World} {t : Nat} {vl vm vv vw : Value} {now : Int} {s : TS} (b : Blk w t 57 #[vl, vm, vv, vw, i64 now])
    (l : Row w 3 1 vl s.l.length (s.l.map i64)) (m : Row w 76 3 vm s.ms.length (s.ms.flatMap mkCells)) (v : Row w 3 1 vv s.lv.length (s.lv.map i64)) (h : Row w 3 1 vw s.wh.length (s.wh.map i64))
    (q1 : vm.ownBlock ≠ some t ∧ vl.ownBlock ≠ some t ∧ vv.ownBlock ≠ some t ∧ vw.ownBlock ≠ some t)
    (q2 : ∀ g, vm.ownBlock = some g → vl.ownBlock ≠ some g ∧ vv.ownBlock ≠ some g ∧ vw.ownBlock ≠ some g)
    (q3 : ∀ g, vl.ownBlock = some g → vv.ownBlock ≠ some g ∧ vw.ownBlock ≠ some g) (q4 : ∀ g, vv.ownBlock = some g → vw.ownBlock ≠ some g) : Parts w t vl vm vv vw now s := by
  refine ⟨b, l, m, v, h, ?_⟩
  have k : ∀ (x : Value) (i : Nat), x.ownBlock ≠ some i → i ∉ x.ownBlock.toList := fun x i hx e => hx (by simpa using e)
  have n1 : ∀ x : Value, x.ownBlock.toList.Nodup := fun x => by cases x.ownBlock <;> simp
  have d : ∀ (x : Value) (ls : List Nat), ls.Nodup → (∀ g, x.ownBlock = some g → g ∉ ls) → (x.ownBlock.toList ++ ls).Nodup := fun x ls hn hx => by
    cases e : x.ownBlock with
    | none => simpa using hn
    | some g => simp only [Option.toList_some, List.cons_append, List.nil_append, List.nodup_cons]; exact ⟨hx g e, hn⟩
  refine List.nodup_cons.2 ⟨?_, d _ _ (d _ _ (d _ _ (n1 _) ?_) ?_) ?_⟩
  · simp only [List.mem_append, not_or]; exact ⟨k _ _ q1.1, k _ _ q1.2.1, k _ _ q1.2.2.1, k _ _ q1.2.2.2⟩
  · exact fun g e => k _ _ (q4 g e)
  · exact fun g e => by simp only [List.mem_append, not_or]; exact ⟨k _ _ (q3 g e).1, k _ _ (q3 g e).2⟩
  · exact fun g e => by simp only [List.mem_append, not_or]; exact ⟨k _ _ (q2 g e).1, k _ _ (q2 g e).2.1, k _ _ (q2 g e).2.2⟩

theorem TrailAt.parts {w : World} {t : Nat} {s : TS} {fp : List Nat} (h : TrailAt w t s fp) : ∃ vl gm cm vv vw, Parts w t vl (.slice (some ⟨gm, 0, none⟩) s.ms.length cm) vv vw s.now s ∧ fp = t :: gm :: (vl.ownBlock.toList ++ (vv.ownBlock.toList ++ vw.ownBlock.toList)) := by
  obtain ⟨vl, gm, cm, vv, vw, hb, hl, hm, hv, hw, rfl, hnd⟩ := h
  exact ⟨vl, gm, cm, vv, vw, ⟨hb, hl, hm, hv, hw, by simpa [Value.ownBlock] using hnd⟩, rfl⟩
theorem Parts.trail {w : World} {t : Nat} {s : TS} {vl : Value} {gm cm : Nat} {vv vw : Value} (p : Parts w t vl (.slice (some ⟨gm, 0, none⟩) s.ms.length cm) vv vw s.now s) :
    TrailAt w t s (t :: gm :: (vl.ownBlock.toList ++ (vv.ownBlock.toList ++ vw.ownBlock.toList))) :=
  ⟨vl, gm, cm, vv, vw, p.b, p.l, p.m, p.v, p.h, rfl, by simpa [Value.ownBlock] using p.nd⟩

/-- A step that turns none of the trail's blocks. -/
theorem Parts.chg {w w' : World} {t : Nat} {vl vm vv vw : Value} {now : Int} {s : TS} {S : Nat → Prop} (p : Parts w t vl vm vv vw now s) (hc : Chg S w w')
    (h0 : ¬ S t) (h1 : ∀ g, vl.ownBlock = some g → ¬ S g) (h2 : ∀ g, vm.ownBlock = some g → ¬ S g) (h3 : ∀ g, vv.ownBlock = some g → ¬ S g) (h4 : ∀ g, vw.ownBlock = some g → ¬ S g) : Parts w' t vl vm vv vw now s :=
  ⟨p.b.chg hc h0, p.l.chg hc h1, p.m.chg hc h2, p.v.chg hc h3, p.h.chg hc h4, p.nd⟩
theorem Parts.alloc {w : World} {t : Nat} {vl vm vv vw : Value} {now : Int} {s : TS} (p : Parts w t vl vm vv vw now s) (o : Obj) : Parts (w.alloc o) t vl vm vv vw now s :=
  p.chg ((Chg.refl (fun _ => False) w).alloc o) (fun h => h) (fun _ _ h => h) (fun _ _ h => h) (fun _ _ h => h) (fun _ _ h => h)
theorem Parts.drew {w : World} {t : Nat} {vl vm vv vw : Value} {now : Int} {s : TS} (p : Parts w t vl vm vv vw now s) : Parts w.drew t vl vm vv vw now s := ⟨p.b, p.l, p.m, p.v, p.h, p.nd⟩

theorem flat_set (m : Mk) : ∀ (ms : List Mk) (i : Nat), i < ms.length → (((ms.flatMap mkCells).set (i * 3) (.int .i8 m.1)).set (i * 3 + 1) (.int .i64 m.2.1)).set (i * 3 + 2) (.int .i64 m.2.2) = (ms.set i m).flatMap mkCells := by
  intro ms
  induction ms with
  | nil => intro i h; simp at h
  | cons a ms ih =>
    intro i h
    cases i with
    | zero => simp [mkCells]
    | succ i =>
      have := ih i (by simpa using h)
      have e0 : (i + 1) * 3 = i * 3 + 3 := by omega
      have e1 : (i + 1) * 3 + 1 = i * 3 + 1 + 3 := by omega
      have e2 : (i + 1) * 3 + 2 = i * 3 + 2 + 3 := by omega
      rw [e1, e2, e0, List.set_cons_succ, List.flatMap_cons, List.flatMap_cons, ← this]
      simp [mkCells]
/-- A mark is written. -/
theorem Row.setMark {w : World} {gm cm n : Nat} {ms : List Mk} (h : Row w 76 3 (.slice (some ⟨gm, 0, none⟩) n cm) n (ms.flatMap mkCells)) (hn : ms.length = n) (i : Nat) (hi : i < n) (m : Mk) :
    Row (((w.setCell ⟨gm, i * 3, none⟩ (.int .i8 m.1)).setCell ⟨gm, i * 3 + 1, none⟩ (.int .i64 m.2.1)).setCell ⟨gm, i * 3 + 2, none⟩ (.int .i64 m.2.2)) 76 3 (.slice (some ⟨gm, 0, none⟩) n cm) n ((ms.set i m).flatMap mkCells) := by
  have := ((h.set1 (i * 3) (.int .i8 m.1)).set1 (i * 3 + 1) (.int .i64 m.2.1)).set1 (i * 3 + 2) (.int .i64 m.2.2)
  rw [flat_set m ms i (by omega)] at this
  exact this
end Go.Proofs.Ytkaklgjdmlddmaa
