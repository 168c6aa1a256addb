/-
  Package trail: what a trail holds, as plain data, and where it lies; its methods that read.
-/
import Derived.Test.YtghlgegfokjgbaaRows
import Derived.Test.YtghlgegfokjgbaaFoot
namespace Go.Proofs.Ytghlgegfokjgbaa
open Go.ChangeShapes Go.WideShapes Go.ChangeAt Go.RowKit

/-- A mark: sign, level, reason. -/
abbrev Mk := Int × Int × Int
structure TS where
  l : List Int
  ms : List Mk
  lv : List Int
  wh : List Int
  now : Int
def i64 (n : Int) : Value := .int .i64 n
def mkCells (m : Mk) : List Value := [.int .i8 m.1, .int .i64 m.2.1, .int .i64 m.2.2]
def TS.mark (s : TS) (v : Int) : Mk := s.ms.getD v.toNat (0, 0, 0)
def varOf (l : Int) : Int := if l < 0 then wrap64 (-l) else l
def signOf (l : Int) : Int := if l < 0 then -1 else 1
def TS.has (s : TS) (v : Int) : Bool := decide (1 ≤ v ∧ v < (s.ms.length : Int))
def TS.isFree (s : TS) (l : Int) : Bool := s.has (varOf l) && decide ((s.mark (varOf l)).1 = 0)
def TS.value (s : TS) (l : Int) : Int := if s.has (varOf l) then (s.mark (varOf l)).1 * signOf l else 0
def TS.level (s : TS) (v : Int) : Int := if s.has v && decide ((s.mark v).1 ≠ 0) then (s.mark v).2.1 else -1
def TS.reason (s : TS) (v : Int) : Int := if s.has v && decide ((s.mark v).1 ≠ 0) then (s.mark v).2.2 else -1

/-- Where a trail lies: block t holds its fields, its slices lie in blocks of their own. -/
def TrailAt (w : World) (t : Nat) (s : TS) (fp : List Nat) : Prop :=
  ∃ vl gm cm vv vw, Blk w t 56 #[vl, .slice (some ⟨gm, 0, none⟩) s.ms.length cm, vv, vw, i64 s.now] ∧
    Row w 3 1 vl s.l.length (s.l.map i64) ∧ Row w 83 3 (.slice (some ⟨gm, 0, none⟩) s.ms.length cm) s.ms.length (s.ms.flatMap mkCells) ∧
    Row w 3 1 vv s.lv.length (s.lv.map i64) ∧ Row w 3 1 vw s.wh.length (s.wh.map i64) ∧
    fp = t :: gm :: (vl.ownBlock.toList ++ (vv.ownBlock.toList ++ vw.ownBlock.toList)) ∧ fp.Nodup

theorem flat_len (ms : List Mk) : (ms.flatMap mkCells).length = ms.length * 3 := by
  induction ms with
  | nil => rfl
  | cons m ms ih => simp only [List.flatMap_cons, List.length_append, ih, List.length_cons, mkCells, List.length_nil]; omega
theorem flat_get (ms : List Mk) (d : Value) : ∀ i, i < ms.length → (ms.flatMap mkCells).getD (i * 3) d = .int .i8 (ms.getD i (0, 0, 0)).1 ∧
    (ms.flatMap mkCells).getD (i * 3 + 1) d = .int .i64 (ms.getD i (0, 0, 0)).2.1 ∧ (ms.flatMap mkCells).getD (i * 3 + 2) d = .int .i64 (ms.getD i (0, 0, 0)).2.2 := by
  induction ms with
  | nil => intro i h; simp at h
  | cons m ms ih =>
    intro i h
    cases i with
    | zero => simp [mkCells]
    | succ i =>
      have := ih i (by simpa using h)
      simp only [List.flatMap_cons, List.getD, mkCells] at this ⊢
      have e0 : (i + 1) * 3 = i * 3 + 3 := by omega
      have e1 : (i + 1) * 3 + 1 = i * 3 + 1 + 3 := by omega
      have e2 : (i + 1) * 3 + 2 = i * 3 + 2 + 3 := by omega
      rw [e1, e2, e0]
      simpa using this

/-- The cells that the methods read. -/
structure TrailCells (w : World) (t : Nat) (s : TS) (vl : Value) (gm cm : Nat) (vv vw : Value) : Prop where
  c0 : w.cell? ⟨t, 0, none⟩ = some vl
  c1 : w.cell? ⟨t, 1, none⟩ = some (.slice (some ⟨gm, 0, none⟩) s.ms.length cm)
  c2 : w.cell? ⟨t, 2, none⟩ = some vv
  c3 : w.cell? ⟨t, 3, none⟩ = some vw
  c4 : w.cell? ⟨t, 4, none⟩ = some (.int .i64 s.now)
  f : ∀ i, w.frozen? ⟨t, i, none⟩ = false
  lt : t < w.heap.size
  lm : gm < w.heap.size
  m0 : ∀ i, i < s.ms.length → w.cell? ⟨gm, i * 3, none⟩ = some (.int .i8 (s.ms.getD i (0, 0, 0)).1) ∧ w.cell? ⟨gm, i * 3 + 1, none⟩ = some (.int .i64 (s.ms.getD i (0, 0, 0)).2.1) ∧ w.cell? ⟨gm, i * 3 + 2, none⟩ = some (.int .i64 (s.ms.getD i (0, 0, 0)).2.2)
  mf : ∀ i, i < s.ms.length * 3 → w.frozen? ⟨gm, i, none⟩ = false
  ncap : s.ms.length ≤ cm
  hcap : cm ≤ maxLen

theorem TrailAt.cells {w : World} {t : Nat} {s : TS} {vl : Value} {gm cm : Nat} {vv vw : Value} (hb : Blk w t 56 #[vl, .slice (some ⟨gm, 0, none⟩) s.ms.length cm, vv, vw, i64 s.now])
    (hm : Row w 83 3 (.slice (some ⟨gm, 0, none⟩) s.ms.length cm) s.ms.length (s.ms.flatMap mkCells)) : TrailCells w t s vl gm cm vv vw := by
  rcases hm.form with ⟨h, -⟩ | ⟨g, cap, h, h1, h2, h3, h4⟩
  · cases h
  · injection h with e1 e2 e3
    injection e1 with e1
    injection e1 with e1
    subst e1 e3
    refine ⟨hb.cell 0, hb.cell 1, hb.cell 2, hb.cell 3, hb.cell 4, hb.frozen, hb.lt, h3, fun i hi => ?_, fun i hi => (h4 i (by rw [flat_len]; exact hi)).2, h1, h2⟩
    obtain ⟨g0, g1, g2⟩ := flat_get s.ms undef i hi
    rw [(h4 (i * 3) (by rw [flat_len]; omega)).1, (h4 (i * 3 + 1) (by rw [flat_len]; omega)).1, (h4 (i * 3 + 2) (by rw [flat_len]; omega)).1, g0, g1, g2]
    exact ⟨rfl, rfl, rfl⟩

theorem trail_split (l : Int) (w : World) : Calls Try.prog 53 #[.int .i64 l] w fun e w' => e = .returned (.tuple #[.int .i64 (varOf l), .int .i8 (signOf l)]) ∧ w = w' := by
  by_cases h : l < 0
  · have e1 : varOf l = wrap64 (-l) := by unfold varOf; rw [if_pos h]
    have e2 : signOf l = -1 := by unfold signOf; rw [if_pos h]
    rw [e1, e2]
    clear e1 e2
    go_enter Try.func53, Try.ntmps53
    go_wp2
    go_ret2
    exact ⟨rfl, rfl⟩
  · have e1 : varOf l = l := by unfold varOf; rw [if_neg h]
    have e2 : signOf l = 1 := by unfold signOf; rw [if_neg h]
    rw [e1, e2]
    clear e1 e2
    go_enter Try.func53, Try.ntmps53
    go_wp2
    go_ret2
    exact ⟨rfl, rfl⟩

theorem trail_of_nil (v : Int) (w : World) : Calls Try.prog 54 #[.pointer none, .int .i64 v] w fun e w' => e = .returned (.pointer none) ∧ w = w' := by
  go_enter Try.func54, Try.ntmps54
  go_wp2
  go_ret
  exact ⟨rfl, rfl⟩
theorem trail_of_no {w : World} {t : Nat} {s : TS} {vl : Value} {gm cm : Nat} {vv vw : Value} (hc : TrailCells w t s vl gm cm vv vw) (v : Int) (h : s.has v = false) :
    Calls Try.prog 54 #[.pointer (some ⟨t, 0, none⟩), .int .i64 v] w fun e w' => e = .returned (.pointer none) ∧ w = w' := by
  have c1 := hc.c1
  have h' : ¬ (1 ≤ v ∧ v < (s.ms.length : Int)) := of_decide_eq_false h
  clear h hc
  rcases (show v < 1 ∨ (1 ≤ v ∧ (s.ms.length : Int) ≤ v) by omega) with h | ⟨h, h2⟩
  all_goals
    clear h'
    go_enter Try.func54, Try.ntmps54
    go_wp2
    go_ret
    exact ⟨rfl, rfl⟩
theorem trail_of_yes {w : World} {t : Nat} {s : TS} {vl : Value} {gm cm : Nat} {vv vw : Value} (hc : TrailCells w t s vl gm cm vv vw) (v : Int) (h : s.has v = true) :
    Calls Try.prog 54 #[.pointer (some ⟨t, 0, none⟩), .int .i64 v] w fun e w' => e = .returned (.pointer (some ⟨gm, v.toNat * 3, none⟩)) ∧ w = w' := by
  have c1 := hc.c1
  have hn := hc.ncap
  obtain ⟨h1, h2⟩ : 1 ≤ v ∧ v < (s.ms.length : Int) := of_decide_eq_true h
  clear h hc
  go_enter Try.func54, Try.ntmps54
  go_wp2
  go_ret
  exact ⟨rfl, rfl⟩
theorem has_lt {s : TS} {v : Int} (h : s.has v = true) : v.toNat < s.ms.length := by have := of_decide_eq_true h; omega

theorem trail_Depth {w : World} {t : Nat} {s : TS} {fp : List Nat} (h : TrailAt w t s fp) : Calls Try.prog 22 #[.pointer (some ⟨t, 0, none⟩)] w fun e w' => e = .returned (.int .i64 s.lv.length) ∧ w = w' := by
  obtain ⟨vl, gm, cm, vv, vw, hb, hl, hm, hv, hw, -, -⟩ := h
  have hc := TrailAt.cells hb hm
  have c2 := hc.c2
  rcases hv.form with ⟨rfl, hn, -⟩ | ⟨g, cap, rfl, -⟩
  · have e : ((s.lv.length : Nat) : Int) = 0 := by omega
    rw [e]
    clear hb hl hm hv hw hc hn e
    go_enter Try.func22, Try.ntmps22
    go_wp2
    go_ret
    exact ⟨rfl, rfl⟩
  · clear hb hl hm hv hw hc
    go_enter Try.func22, Try.ntmps22
    go_wp2
    go_ret
    exact ⟨rfl, rfl⟩
theorem trail_Len {w : World} {t : Nat} {s : TS} {fp : List Nat} (h : TrailAt w t s fp) : Calls Try.prog 33 #[.pointer (some ⟨t, 0, none⟩)] w fun e w' => e = .returned (.int .i64 s.l.length) ∧ w = w' := by
  obtain ⟨vl, gm, cm, vv, vw, hb, hl, hm, hv, hw, -, -⟩ := h
  have hc := TrailAt.cells hb hm
  have c0 := hc.c0
  rcases hl.form with ⟨rfl, hn, -⟩ | ⟨g, cap, rfl, -⟩
  · have e : ((s.l.length : Nat) : Int) = 0 := by omega
    rw [e]
    clear hb hl hm hv hw hc hn e
    go_enter Try.func33, Try.ntmps33
    go_wp2
    go_ret
    exact ⟨rfl, rfl⟩
  · clear hb hl hm hv hw hc
    go_enter Try.func33, Try.ntmps33
    go_wp2
    go_ret
    exact ⟨rfl, rfl⟩
end Go.Proofs.Ytghlgegfokjgbaa
