/-
  TrailUndoes.
-/
import Derived.Test.YtmobejajochlfaaTrailL
import Derived.Deep.RegionWith
namespace Go.Proofs.Ytmobejajochlfaa
open Go.ChangeShapes Go.WideShapes Go.ChangeAt Go.RowKit
set_option linter.unusedVariables false

/-- The slice v of acts reads as xs. -/
def ActsAt (w : World) (v : Value) (xs : List Act) : Prop :=
  ∃ a cap, v = .slice a xs.length cap ∧ xs.length ≤ cap ∧ cap ≤ maxLen ∧ (xs = [] ∨ ∃ b off, a = some ⟨b, off, none⟩ ∧ b < w.heap.size ∧ ∀ j, j < xs.length →
    w.cell? ⟨b, off + j * 3, none⟩ = some (.int .i64 (xs.getD j (0, 0, 0)).1) ∧ w.cell? ⟨b, off + j * 3 + 1, none⟩ = some (.int .i64 (xs.getD j (0, 0, 0)).2.1) ∧ w.cell? ⟨b, off + j * 3 + 2, none⟩ = some (.int .i64 (xs.getD j (0, 0, 0)).2.2))

theorem undoes_big (a b : Option Addr) (n m c d : Nat) (w : World) (h : 60 < n ∨ 60 < m) :
    Calls Try.prog 3 #[.slice a n c, .slice b m d] w fun e w' => e = .returned (.bool true) ∧ Below w.heap.size w w' := by
  rcases (show 60 < (n : Int) ∨ ((n : Int) ≤ 60 ∧ 60 < (m : Int)) by omega) with h | ⟨h, h2⟩
  all_goals
    go_enter Try.func3, Try.ntmps3
    go_wp2_with ((go_at_call 5; refine (alive _).mono ?_; rintro e w' ⟨rfl, hb⟩))
    go_ret
    exact ⟨rfl, hb⟩

theorem take_step {α β : Type} (f : β → α → β) (s : β) (xs : List α) (d : α) (k : Nat) (h : k < xs.length) : (xs.take (k + 1)).foldl f s = f ((xs.take k).foldl f s) (xs.getD k d) := by
  rw [List.take_succ_eq_append_getElem h, List.foldl_append]
  simp [List.getD, h]
def st1 (xs : List Act) (k : Nat) : TS := (xs.take k).foldl act1 (TS.new 9)
theorem st1_step (xs : List Act) (k : Nat) (h : k < xs.length) : st1 xs (k + 1) = act1 (st1 xs k) (xs.getD k (0, 0, 0)) := take_step _ _ _ _ _ h
def st2 (s : TS) (ys : List Act) (k : Nat) : TS × Bool := (ys.take k).foldl act2 (s, false)
theorem st2_step (s : TS) (ys : List Act) (k : Nat) (h : k < ys.length) : st2 s ys (k + 1) = act2 (st2 s ys k) (ys.getD k (0, 0, 0)) := take_step _ _ _ _ _ h
/-- A trail of the law's own, with data s, after at most k acts. -/
def At (w0 : World) (t : Nat) (s : TS) (k : Nat) (w : World) : Prop := Obj w0.heap.size w0 w t s ∧ Good s k
theorem At.below {w0 w w' : World} {t k : Nat} {s : TS} (h : At w0 t s k w) (hb : Below w.heap.size w w') : At w0 t s k w' := ⟨h.1.below hb, h.2⟩
theorem At.mono {w0 w : World} {t k : Nat} {s : TS} (h : At w0 t s k w) : At w0 t s (k + 1) w := ⟨h.1, h.2.mono⟩
theorem At.old {w0 w : World} {t k : Nat} {s : TS} (h : At w0 t s k w) : Below w0.heap.size w0 w := h.1.choose_spec.2.2.1

/-- Decide, on a trail of the law's own. -/
theorem At.decide {w0 w : World} {t k : Nat} {s : TS} (h : At w0 t s k w) (hk : k ≤ 1000) (l : Int) :
    Calls Try.prog 7 #[.pointer (some ⟨t, 0, none⟩), .int .i64 l] w fun e w' => e = .returned (.bool (s.isFree l)) ∧ At w0 t (if s.isFree l then s.up.put l (-1) else s) (k + 1) w' := by
  obtain ⟨⟨fp, hT, hf, hb, hB⟩, hg⟩ := h
  by_cases hl : s.isFree l = true
  · rw [if_pos hl, hl]
    refine (trail_Decide_yes hT l hl (by have := hg.2.2.1; omega) (by rw [hg.1.wh]; have := hg.2.2.1; omega) hg.1.now0 (by have := hg.2.2.2; omega) (by have := hg.1.lvl; have := hg.2.2.1; omega)).mono ?_
    rintro e w' ⟨rfl, hD⟩
    exact ⟨rfl, Obj.done hT hf hb hB hD, hg.upput _ _ hl hk⟩
  · have hl' : s.isFree l = false := by simpa using hl
    rw [if_neg hl, hl']
    refine (trail_Decide_no hT l hl').mono ?_
    rintro e w' ⟨rfl, rfl⟩
    exact ⟨rfl, ⟨fp, hT, hf, hb, hB⟩, hg.mono⟩
theorem At.imply {w0 w : World} {t k : Nat} {s : TS} (h : At w0 t s k w) (hk : k ≤ 1000) (l r : Int) :
    Calls Try.prog 8 #[.pointer (some ⟨t, 0, none⟩), .int .i64 l, .int .i64 r] w fun e w' => e = .returned (.bool (s.isFree l)) ∧ At w0 t (if s.isFree l then s.put l r else s) (k + 1) w' := by
  obtain ⟨⟨fp, hT, hf, hb, hB⟩, hg⟩ := h
  by_cases hl : s.isFree l = true
  · rw [if_pos hl, hl]
    refine (trail_Imply_yes hT l r hl (by have := hg.2.2.1; omega) (by rw [hg.1.wh]; have := hg.2.2.1; omega) hg.1.now0 (by have := hg.2.2.2; omega)).mono ?_
    rintro e w' ⟨rfl, hD⟩
    exact ⟨rfl, Obj.done hT hf hb hB hD, hg.put _ _ hl hk⟩
  · have hl' : s.isFree l = false := by simpa using hl
    rw [if_neg hl, hl']
    refine (trail_Imply_no hT l r hl').mono ?_
    rintro e w' ⟨rfl, rfl⟩
    exact ⟨rfl, ⟨fp, hT, hf, hb, hB⟩, hg.mono⟩
/-- The cells of an act, in any later world. -/
theorem act_cells {w wr : World} {b off : Nat} {xs : List Act} (hb : b < w.heap.size) (h : ∀ j, j < xs.length →
    w.cell? ⟨b, off + j * 3, none⟩ = some (.int .i64 (xs.getD j (0, 0, 0)).1) ∧ w.cell? ⟨b, off + j * 3 + 1, none⟩ = some (.int .i64 (xs.getD j (0, 0, 0)).2.1) ∧ w.cell? ⟨b, off + j * 3 + 2, none⟩ = some (.int .i64 (xs.getD j (0, 0, 0)).2.2))
    (hw : Below w.heap.size w wr) (k : Nat) (hk : k < xs.length) : ∃ q l r : Int, xs.getD k (0, 0, 0) = (q, l, r) ∧ wr.cell? ⟨b, off + k * 3, none⟩ = some (.int .i64 q) ∧ wr.cell? ⟨b, off + k * 3 + 1, none⟩ = some (.int .i64 l) ∧ wr.cell? ⟨b, off + k * 3 + 2, none⟩ = some (.int .i64 r) := by
  obtain ⟨h0, h1, h2⟩ := h k hk
  refine ⟨_, _, _, rfl, ?_, ?_, ?_⟩
  · rw [hw.cell (p := ⟨b, off + k * 3, none⟩) hb]; exact h0
  · rw [hw.cell (p := ⟨b, off + k * 3 + 1, none⟩) hb]; exact h1
  · rw [hw.cell (p := ⟨b, off + k * 3 + 2, none⟩) hb]; exact h2

/-- As At, beside a slice of numbers of the law's own. -/
def At2 (w0 : World) (t : Nat) (s : TS) (k : Nat) (was : Value) (l0 : List Int) (w : World) : Prop :=
  (∃ fp, TrailAt w t s fp ∧ (∀ j ∈ fp, w0.heap.size ≤ j ∧ was.ownBlock ≠ some j) ∧ Below w0.heap.size w0 w ∧ w0.heap.size ≤ w.heap.size ∧ (∀ j, was.ownBlock = some j → j < w.heap.size) ∧ Ints w was l0) ∧ Good s k
theorem At2.old {w0 w : World} {t k : Nat} {s : TS} {was : Value} {l0 : List Int} (h : At2 w0 t s k was l0 w) : Below w0.heap.size w0 w := h.1.choose_spec.2.2.1
theorem at2_done {w0 w w' : World} {t : Nat} {s s' : TS} {fp : List Nat} {was : Value} {l0 : List Int} (hT : TrailAt w t s fp) (hf : ∀ j ∈ fp, w0.heap.size ≤ j ∧ was.ownBlock ≠ some j) (hb : Below w0.heap.size w0 w) (hB : w0.heap.size ≤ w.heap.size) (hw : ∀ j, was.ownBlock = some j → j < w.heap.size) (hI : Ints w was l0)
    (hD : Done w fp t s' w') : ∃ fp', TrailAt w' t s' fp' ∧ (∀ j ∈ fp', w0.heap.size ≤ j ∧ was.ownBlock ≠ some j) ∧ Below w0.heap.size w0 w' ∧ w0.heap.size ≤ w'.heap.size ∧ (∀ j, was.ownBlock = some j → j < w'.heap.size) ∧ Ints w' was l0 := by
  obtain ⟨fp', hT', hc, hn⟩ := hD
  refine ⟨fp', hT', fun j hj => ?_, hb.trans (hc.below hB fun i hi => (hf i hi).1), Nat.le_trans hB hc.size, fun j hj => Nat.lt_of_lt_of_le (hw j hj) hc.size, hI.chg hc fun b hb' hi => (hf b hi).2 hb'⟩
  rcases hn j hj with h | h
  · exact hf j h
  · exact ⟨by omega, fun e => by have := hw j e; omega⟩
theorem At2.below {w0 w w' : World} {t k : Nat} {s : TS} {was : Value} {l0 : List Int} (h : At2 w0 t s k was l0 w) (hb : Below w.heap.size w w') : At2 w0 t s k was l0 w' := by
  obtain ⟨⟨fp, hT, hf, hb0, hB, hw, hI⟩, hg⟩ := h
  exact ⟨⟨fp, hT.below hb, hf, hb0.trans (hb.mono hB), Nat.le_trans hB hb.size, fun j hj => Nat.lt_of_lt_of_le (hw j hj) hb.size, hI.below hb⟩, hg⟩
theorem At2.mono {w0 w : World} {t k : Nat} {s : TS} {was : Value} {l0 : List Int} (h : At2 w0 t s k was l0 w) : At2 w0 t s (k + 1) was l0 w := ⟨h.1, h.2.mono⟩
theorem At2.decide {w0 w : World} {t k : Nat} {s : TS} {was : Value} {l0 : List Int} (h : At2 w0 t s k was l0 w) (hk : k ≤ 1000) (l : Int) :
    Calls Try.prog 7 #[.pointer (some ⟨t, 0, none⟩), .int .i64 l] w fun e w' => e = .returned (.bool (s.isFree l)) ∧ At2 w0 t (if s.isFree l then s.up.put l (-1) else s) (k + 1) was l0 w' := by
  obtain ⟨⟨fp, hT, hf, hb, hB, hw, hI⟩, hg⟩ := h
  by_cases hl : s.isFree l = true
  · rw [if_pos hl, hl]
    refine (trail_Decide_yes hT l hl (by have := hg.2.2.1; omega) (by rw [hg.1.wh]; have := hg.2.2.1; omega) hg.1.now0 (by have := hg.2.2.2; omega) (by have := hg.1.lvl; have := hg.2.2.1; omega)).mono ?_
    rintro e w' ⟨rfl, hD⟩
    exact ⟨rfl, at2_done hT hf hb hB hw hI hD, hg.upput _ _ hl hk⟩
  · have hl' : s.isFree l = false := by simpa using hl
    rw [if_neg hl, hl']
    refine (trail_Decide_no hT l hl').mono ?_
    rintro e w' ⟨rfl, rfl⟩
    exact ⟨rfl, ⟨fp, hT, hf, hb, hB, hw, hI⟩, hg.mono⟩
theorem At2.imply {w0 w : World} {t k : Nat} {s : TS} {was : Value} {l0 : List Int} (h : At2 w0 t s k was l0 w) (hk : k ≤ 1000) (l r : Int) :
    Calls Try.prog 8 #[.pointer (some ⟨t, 0, none⟩), .int .i64 l, .int .i64 r] w fun e w' => e = .returned (.bool (s.isFree l)) ∧ At2 w0 t (if s.isFree l then s.put l r else s) (k + 1) was l0 w' := by
  obtain ⟨⟨fp, hT, hf, hb, hB, hw, hI⟩, hg⟩ := h
  by_cases hl : s.isFree l = true
  · rw [if_pos hl, hl]
    refine (trail_Imply_yes hT l r hl (by have := hg.2.2.1; omega) (by rw [hg.1.wh]; have := hg.2.2.1; omega) hg.1.now0 (by have := hg.2.2.2; omega)).mono ?_
    rintro e w' ⟨rfl, hD⟩
    exact ⟨rfl, at2_done hT hf hb hB hw hI hD, hg.put _ _ hl hk⟩
  · have hl' : s.isFree l = false := by simpa using hl
    rw [if_neg hl, hl']
    refine (trail_Imply_no hT l r hl').mono ?_
    rintro e w' ⟨rfl, rfl⟩
    exact ⟨rfl, ⟨fp, hT, hf, hb, hB, hw, hI⟩, hg.mono⟩
/-- Behind Back: what has gone, and the literals as they were. -/
def EndAt (w0 : World) (t : Nat) (s : TS) (was : Value) (l0 : List Int) (gone : Value) (gs : List Int) (w : World) : Prop :=
  ∃ fp, TrailAt w t s fp ∧ Below w0.heap.size w0 w ∧ w0.heap.size ≤ w.heap.size ∧ Ints w was l0 ∧ Ints w gone gs
theorem EndAt.below {w0 w w' : World} {t : Nat} {s : TS} {was gone : Value} {l0 gs : List Int} (h : EndAt w0 t s was l0 gone gs w) (hb : Below w.heap.size w w') : EndAt w0 t s was l0 gone gs w' := by
  obtain ⟨fp, hT, hb0, hB, hI, hG⟩ := h
  exact ⟨fp, hT.below hb, hb0.trans (hb.mono hB), Nat.le_trans hB hb.size, hI.below hb, hG.below hb⟩
theorem At2.back {w0 w : World} {t k : Nat} {s : TS} {was : Value} {l0 : List Int} (h : At2 w0 t s k was l0 w) (level : Nat) :
    Calls Try.prog 11 #[.pointer (some ⟨t, 0, none⟩), .int .i64 level] w fun e w' => ∃ gone, e = .returned gone ∧ EndAt w0 t (s.back level) was l0 gone (s.backVs level) w' := by
  obtain ⟨⟨fp, hT, hf, hb, hB, hw, hI⟩, hg⟩ := h
  by_cases hl : s.lv.length ≤ level
  · have e1 : s.back level = s := by unfold TS.back; rw [if_pos hl]
    have e2 : s.backVs level = [] := by unfold TS.backVs; rw [if_pos hl]
    rw [e1, e2]
    refine (trail_Back_none hT level (by omega)).mono ?_
    rintro e w' ⟨rfl, rfl⟩
    exact ⟨_, rfl, fp, hT, hb, hB, hI, ints_nil _⟩
  · refine (trail_Back_some hT hg.1 level (by omega) level (.inl rfl)).mono ?_
    rintro e w' ⟨gone, rfl, hrow, -, hD⟩
    obtain ⟨fp', hT', hf', hb', hB', hw', hI'⟩ := at2_done hT hf hb hB hw hI hD
    exact ⟨gone, rfl, fp', hT', hb', hB', hI', Row.ints hrow⟩
theorem at2_start {w0 w w' : World} {t k : Nat} {s : TS} {u : Value} (h : At w0 t s k w) (hc : ClonePost w s.l u w') : At2 w0 t s k u s.l w' := by
  obtain ⟨⟨fp, hT, hf, hb, hB⟩, hg⟩ := h
  obtain ⟨hr, hn, hbb⟩ := hc
  have hlt : ∀ j ∈ fp, j < w.heap.size := by
    obtain ⟨vl, gm, cm, vv, vw, hp, rfl⟩ := hT.parts
    intro j hj
    simp only [List.mem_cons, List.mem_append] at hj
    rcases hj with rfl | rfl | hj | hj | hj
    · exact hp.b.lt
    · exact hp.m.lt _ rfl
    · exact hp.l.lt _ (own_mem hj)
    · exact hp.v.lt _ (own_mem hj)
    · exact hp.h.lt _ (own_mem hj)
  refine ⟨⟨fp, hT.below hbb, fun j hj => ⟨hf j hj, fun e => by have := hn j e; have := hlt j hj; omega⟩, hb.trans (hbb.mono hB), Nat.le_trans hB hbb.size, fun j hj => ?_, Row.ints hr⟩, hg⟩
  exact hr.lt j hj

set_option maxHeartbeats 1000000 in
set_option maxRecDepth 100000 in
theorem undoes (v u : Value) (xs ys : List Act) (w : World) (hx : ActsAt w v xs) (hy : ActsAt w u ys) (h1 : xs.length ≤ 60) (h2 : ys.length ≤ 60) :
    Calls Try.prog 3 #[v, u] w fun e w' => e = .returned (.bool true) ∧ Below w.heap.size w w' := by
  obtain ⟨a, cap, rfl, -, -, hx⟩ := hx
  obtain ⟨b, cap2, rfl, -, -, hy⟩ := hy
  have HX := Lib.hid hx
  have HY := Lib.hid hy
  have d1 : decide (60 < xs.length) = false := by simp; omega
  have d2 : decide (60 < ys.length) = false := by simp; omega
  clear hx hy
  go_enter Try.func3, Try.ntmps3
  go_wp2_with fail
  refine (trail_New 9 (by omega) _).mono ?_
  rintro e w1 ⟨rfl, hT, hb⟩
  obtain ⟨t, ht⟩ : ∃ t, t = w.heap.size + 1 := ⟨_, rfl⟩
  rw [← ht] at hT ⊢
  have ho1 : At w t (st1 xs 0) 0 w1 := ⟨⟨_, hT, by intro k hk; simp at hk; omega, hb, hb.size⟩, ok_new 9, signs_new 9, by simp [st1, TS.new], by simp [st1, TS.new]⟩
  clear ht hT hb
  go_wp2_with fail
  go_loopw [6] (fun i wr => ∃ k : Nat, k ≤ xs.length ∧ i = .int .i64 k ∧ At w t (st1 xs k) k wr) (fun i _ => xs.length - (intOf i).toNat)
  case atStart => exact ⟨0, Nat.zero_le _, rfl, ho1⟩
  case round =>
    clear ho1
    obtain ⟨k, hk, rfl, hrel⟩ := hrel
    by_cases hlt : (k : Int) < (xs.length : Int)
    · have hne : xs ≠ [] := fun e => by rw [e] at hlt; simp at hlt; omega
      obtain ⟨b1, off, rfl, hbl, hcs⟩ := HX.out.resolve_left hne
      obtain ⟨q, l, r, hqe, c0, c1, c2⟩ := act_cells hbl hcs hrel.old k (by omega)
      have hstep := st1_step xs k (by omega)
      rw [hqe] at hstep
      have HS := Lib.hid hstep
      have HR := Lib.hid hrel
      clear hcs hqe hstep hrel hne
      by_cases hq : q = 0
      · have hq' : (q == 0) = true := by rw [beq_iff_eq]; exact hq
        have HQ := Lib.hid hq
        clear hq
        go_wp2_with fail
        refine (HR.out.decide (by omega) l).mono ?_
        rintro e w2 ⟨rfl, hA⟩
        have HA := Lib.hid hA
        clear hA
        go_wp2_with fail
        go_roundw
        case rel => exact ⟨k + 1, by omega, by go_num, by rw [HS.out]; unfold act1; rw [if_pos HQ.out]; exact HA.out⟩
        case measure => simp [intOf]; omega
      · have hq' : (q == 0) = false := by rw [beq_eq_false_iff_ne]; exact hq
        have HQ := Lib.hid hq
        clear hq
        go_wp2_with fail
        go_region_with (go_at_call 8; refine ((HR.out.below (below_drewN (Below.refl _ _) 1)).imply (by omega) l r).mono ?_; rintro e w2 ⟨rfl, hA⟩; have HA := Lib.hid hA; clear hA)
        all_goals
          go_wp2_with fail
          go_roundw
          case rel => exact ⟨k + 1, by omega, by go_num, by rw [HS.out]; unfold act1; rw [if_neg HQ.out]; exact HA.out⟩
          case measure => simp [intOf]; omega
    · obtain rfl : k = xs.length := by omega
      obtain ⟨s1, hs1⟩ : ∃ s1, s1 = st1 xs xs.length := ⟨_, rfl⟩
      rw [← hs1] at hrel
      have hs1l : s1.l.length ≤ 60 := by have := hrel.2.2.2.1; omega
      have HR := Lib.hid hrel
      clear hs1 hrel hk
      go_wp2_with fail
      refine (trail_Lits HR.out.1.choose_spec.1 (by have := HR.out.2.2.2.1; omega)).mono ?_
      rintro e w2 ⟨was, rfl, hcl⟩
      have hA := at2_start HR.out hcl
      have HA := Lib.hid hA
      clear hA hcl HR
      go_wp2_with fail
      refine (trail_Depth HA.out.1.choose_spec.1).mono ?_
      rintro e w3 ⟨rfl, rfl⟩
      have hA0 : At2 w t (st2 s1 ys 0).1 (60 + 0) was s1.l w2 := ⟨HA.out.1, by
        obtain ⟨g1, g2, g3, g4⟩ := HA.out.2
        exact ⟨g1, g2, by show s1.l.length ≤ _; omega, by show s1.now ≤ _; omega⟩⟩
      have HA0 := Lib.hid hA0
      clear hA0 HA
      go_wp2_with fail
      go_loopw [9, 10] (fun up i wr => ∃ k : Nat, k ≤ ys.length ∧ i = .int .i64 k ∧ up = .bool (st2 s1 ys k).2 ∧ At2 w t (st2 s1 ys k).1 (60 + k) was s1.l wr) (fun _ i _ => ys.length - (intOf i).toNat)
      case atStart => exact ⟨0, Nat.zero_le _, rfl, rfl, HA0.out⟩
      case round =>
        clear HA0
        obtain ⟨k, hk, rfl, rfl, hrel⟩ := hrel
        by_cases hlt2 : (k : Int) < (ys.length : Int)
        · have hne : ys ≠ [] := fun e => by rw [e] at hlt2; simp at hlt2; omega
          obtain ⟨b1, off, rfl, hbl, hcs⟩ := HY.out.resolve_left hne
          obtain ⟨q, l, r, hqe, c0, c1, c2⟩ := act_cells hbl hcs hrel.old k (by omega)
          have hstep := st2_step s1 ys k (by omega)
          rw [hqe] at hstep
          obtain ⟨⟨s, up⟩, hp⟩ : ∃ p, p = st2 s1 ys k := ⟨_, rfl⟩
          rw [← hp] at hstep hrel ⊢
          have HS := Lib.hid hstep
          have HR := Lib.hid hrel
          clear hcs hqe hstep hrel hne hp
          simp only
          by_cases hq : q = 0
          · have hq' : (q == 0) = true := by rw [beq_iff_eq]; exact hq
            have HQ := Lib.hid hq
            clear hq
            go_wp2_with fail
            refine (HR.out.decide (by omega) l).mono ?_
            rintro e w2 ⟨rfl, hA⟩
            have HA := Lib.hid hA
            clear hA
            simp only
            cases hf : s.isFree l <;> cases up
            all_goals
              have HF := Lib.hid hf
              clear hf
              go_wp2_with fail
              go_roundw
              case rel => exact ⟨k + 1, by omega, by go_num, by rw [HS.out]; unfold act2; rw [if_pos HQ.out]; simp [HF.out], by rw [HS.out]; unfold act2; rw [if_pos HQ.out]; have := HA.out; rw [HF.out] at this; simpa [HF.out, Nat.add_assoc] using this⟩
              case measure => simp [intOf]; omega
          · have hq' : (q == 0) = false := by rw [beq_eq_false_iff_ne]; exact hq
            have HQ := Lib.hid hq
            clear hq
            cases up
            · go_wp2_with fail
              go_roundw
              case rel => exact ⟨k + 1, by omega, by go_num, by rw [HS.out]; unfold act2; rw [if_neg HQ.out]; simp, by rw [HS.out]; unfold act2; rw [if_neg HQ.out]; have := HR.out.mono; simpa [Nat.add_assoc] using this⟩
              case measure => simp [intOf]; omega
            · go_wp2_with fail
              go_region_with (go_at_call 8; refine ((HR.out.below (below_drewN (Below.refl _ _) 1)).imply (by omega) l r).mono ?_; rintro e w2 ⟨rfl, hA⟩; have HA := Lib.hid hA; clear hA)
              all_goals
                go_wp2_with fail
                go_roundw
                case rel => exact ⟨k + 1, by omega, by go_num, by rw [HS.out]; unfold act2; rw [if_neg HQ.out]; cases h : s.isFree l <;> simp, by rw [HS.out]; unfold act2; rw [if_neg HQ.out]; have := HA.out; cases h : s.isFree l <;> rw [h] at this <;> simpa [Nat.add_assoc] using this⟩
                case measure => simp [intOf]; omega
        · obtain rfl : k = ys.length := by omega
          have hab : Above s1 (st2 s1 ys ys.length) := above_fold s1 _ _ (above_start s1)
          obtain ⟨p, hp⟩ : ∃ p, p = st2 s1 ys ys.length := ⟨_, rfl⟩
          rw [← hp] at hrel hab
          obtain ⟨e1, e2⟩ := above_back hab
          have hgn : ∀ v ∈ p.1.backVs s1.lv.length, _ := fun v hv => gone_none hrel.2.1 hv
          have hsg : Signs (p.1.back s1.lv.length) := hrel.2.2.1.back _
          have hgl : (p.1.backVs s1.lv.length).length ≤ 200 := by
            have h1 := gone_len p.1 (p.1.lv.getD s1.lv.length 0).toNat
            have h2 := hrel.2.2.2.1
            unfold TS.backVs; split
            · simp
            · omega
          have HR := Lib.hid hrel
          have HG := Lib.hid hgn
          have HSG := Lib.hid hsg
          have HE1 := Lib.hid e1
          have HE2 := Lib.hid e2
          clear hab hrel hp hgn hsg e1 e2
          go_wp2_with fail
          refine (HR.out.back s1.lv.length).mono ?_
          rintro e w5 ⟨gone, rfl, hE⟩
          obtain ⟨sE, hsE⟩ : ∃ sE, sE = p.1.back s1.lv.length := ⟨_, rfl⟩
          obtain ⟨gs, hgs⟩ : ∃ gs, gs = p.1.backVs s1.lv.length := ⟨_, rfl⟩
          rw [← hsE, ← hgs] at hE HG
          rw [← hsE] at HSG HE1 HE2
          rw [← hgs] at hgl
          have HEN := Lib.hid hE
          clear hE HR hsE hgs
          go_wp2_with fail
          refine (trail_Lits HEN.out.choose_spec.1 ?_).mono ?_
          · rw [HE1.out]; omega
          rintro e w6 ⟨u2, rfl, hcl⟩
          rw [HE1.out] at hcl
          have hE6 := HEN.out.below hcl.2.2
          have HI := Lib.hid (Row.ints hcl.1 : Ints w6 u2 s1.l)
          have HEN6 := Lib.hid hE6
          clear hE6 hcl HEN
          go_wp2_with fail
          refine (r01_Same HI.out (by obtain ⟨fp, h1, h2, h3, h4, h5⟩ := HEN6.out; exact h4)).mono ?_
          rintro e w7 ⟨rfl, hq⟩
          rw [sameB_self]
          have HEN7 := Lib.hid (HEN6.out.below hq.below)
          clear hq HEN6 HI
          go_wp2_with fail
          refine (trail_Depth HEN7.out.choose_spec.1).mono ?_
          rintro e w8 ⟨rfl, rfl⟩
          rw [HE2.out]
          obtain ⟨ag, cg, hge⟩ : ∃ ag cg, gone = .slice ag gs.length cg := by
            obtain ⟨fp, h1, h2, h3, h4, ag, cg, h5, -⟩ := HEN7.out
            exact ⟨ag, cg, h5⟩
          subst hge
          go_wp2_with fail
          go_loopw [12] (fun i wr => ∃ k : Nat, k ≤ gs.length ∧ i = .int .i64 k ∧ EndAt w t sE was s1.l (.slice ag gs.length cg) gs wr) (fun i _ => gs.length - (intOf i).toNat)
          case atStart => exact ⟨0, Nat.zero_le _, rfl, HEN7.out⟩
          case round =>
            clear HEN7
            obtain ⟨k, hk, rfl, hrel⟩ := hrel
            by_cases hlt3 : (k : Int) < (gs.length : Int)
            · obtain ⟨fp, hT, hb0, hB, hI, ag', cg', hge, -, -, -, hcs⟩ := id hrel
              injection hge with g1 g2 g3
              subst g1 g3
              have hne : gs ≠ [] := fun e => by rw [e] at hlt3; simp at hlt3; omega
              obtain ⟨bg, og, rfl, hcs2⟩ := hcs.resolve_left hne
              have hck := hcs2 k (by omega)
              have hgk := HG.out (gs.getD k 0) (by simp only [List.getD, List.getElem?_eq_getElem (show k < gs.length by omega), Option.getD_some]; exact List.getElem_mem _)
              obtain ⟨x, hx⟩ : ∃ x, x = gs.getD k 0 := ⟨_, rfl⟩
              rw [← hx] at hck hgk
              have HGK := Lib.hid hgk
              have HT := Lib.hid hT
              have HR := Lib.hid hrel
              clear hrel hcs hcs2 hx hgk hT hI hne
              go_wp2_with fail
              refine (trail_Value HT.out HSG.out x).mono ?_
              rintro e w8 ⟨rfl, rfl⟩
              rw [HGK.out.1]
              go_wp2_with fail
              refine (trail_Level HT.out x).mono ?_
              rintro e w9 ⟨rfl, hb9⟩
              rw [HGK.out.2]
              have HR9 := Lib.hid (HR.out.below hb9)
              clear hb9
              go_wp2_with fail
              go_roundw
              case rel => exact ⟨k + 1, by omega, by go_num, HR9.out⟩
              case measure => simp [intOf]; omega
            · have hold : Below w.heap.size w wr ∧ w.heap.size ≤ wr.heap.size := by
                obtain ⟨fp, hT, hb0, hB, -⟩ := hrel
                exact ⟨hb0, hB⟩
              obtain ⟨ho1, ho2⟩ := hold
              clear hrel
              go_wp2_with ((go_at_call 5; refine (alive _).mono ?_; rintro e w' ⟨rfl, hb⟩))
              go_ret
              exact ⟨rfl, ho1.trans (hb.mono ho2)⟩
end Go.Proofs.Ytmobejajochlfaa
