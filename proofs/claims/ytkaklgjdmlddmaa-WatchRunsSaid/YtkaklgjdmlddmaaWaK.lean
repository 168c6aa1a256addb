/-
  Package watch: visit.
-/
import Derived.Test.YtkaklgjdmlddmaaWaJ
namespace Go.Proofs.Ytkaklgjdmlddmaa
open Go.ChangeShapes Go.WideShapes Go.ChangeAt Go.RowKit
set_option linter.unusedVariables false
set_option linter.unusedSimpArgs false
def visC (c : List Int) (wrong : Int) : List Int := if c.getD 0 0 = wrong then sw c 0 1 else c
def fk (t : TS) (c : List Int) : Option Nat := (List.range' 2 (c.length - 2)).find? fun k => decide (0 ≤ t.value (c.getD k 0))
def visitF (S : WS) (id : Nat) (wrong : Int) : WS × Bool × Bool :=
  if (S.cl.getD id []).length = 1 then (S, true, false)
  else if 0 < S.t.value ((visC (S.cl.getD id []) wrong).getD 0 0) then ({ S with cl := S.cl.set id (visC (S.cl.getD id []) wrong) }, true, true)
  else match fk S.t (visC (S.cl.getD id []) wrong) with
    | some k => ({ S with cl := S.cl.set id (sw (visC (S.cl.getD id []) wrong) 1 k), ls := putL S.ls (slotN ((visC (S.cl.getD id []) wrong).getD k 0)) id }, false, true)
    | none => if S.t.value ((visC (S.cl.getD id []) wrong).getD 0 0) < 0 then ({ S with cl := S.cl.set id (visC (S.cl.getD id []) wrong) }, true, false)
      else ({ S with cl := S.cl.set id (visC (S.cl.getD id []) wrong), t := impT S.t ((visC (S.cl.getD id []) wrong).getD 0 0) id }, true, true)
theorem fk_some {t : TS} {c : List Int} {k : Nat} (h2 : 2 ≤ k) (hk : k < c.length) (hv : 0 ≤ t.value (c.getD k 0)) (hb : ∀ j, 2 ≤ j → j < k → t.value (c.getD j 0) < 0) : fk t c = some k := by
  unfold fk
  have e : List.range' 2 (c.length - 2) = List.range' 2 (k - 2) ++ k :: List.range' (k + 1) (c.length - 1 - k) := by
    have h1 : c.length - 2 = (k - 2) + (c.length - k) := by omega
    rw [h1, ← List.range'_append_1]
    congr 1
    have h3 : 2 + (k - 2) = k := by omega
    have h4 : c.length - k = (c.length - 1 - k) + 1 := by omega
    rw [h3, h4, List.range'_succ]
  rw [e, List.find?_append]
  have h0 : (List.range' 2 (k - 2)).find? (fun k => decide (0 ≤ t.value (c.getD k 0))) = none := by
    rw [List.find?_eq_none]
    intro j hj
    rw [List.mem_range'_1] at hj
    have := hb j hj.1 (by omega)
    simp
    simp [List.getD] at this
    omega
  rw [h0]
  simp only [Option.none_or, List.find?_cons]
  rw [decide_eq_true hv]
theorem fk_none {t : TS} {c : List Int} (hb : ∀ j, 2 ≤ j → j < c.length → t.value (c.getD j 0) < 0) : fk t c = none := by
  unfold fk
  rw [List.find?_eq_none]
  intro j hj
  rw [List.mem_range'_1] at hj
  have := hb j hj.1 (by omega)
  simp
  simp [List.getD] at this
  omega
/-- Two literals of a clause change places. -/
theorem WV.swap {B : Nat} {w : World} {r : Nat → Nat} {wb t : Nat} {S : WS} {vl vs vd : Value} {us xs : List Value} (h : WV B w r wb t S vl vs vd us xs) (hB : B ≤ w.heap.size) (id : Nat) (hi : id < S.cl.length) (c : List Int) (hc : c = S.cl.getD id []) {b cap n : Nat} (hv : us.getD id undef = .slice (some ⟨b, 0, none⟩) n cap) (hn : n = c.length) (hr : r b = 6 + 2 * id) (i k : Nat) (x y : Int) (hx : x = c.getD i 0) (hy : y = c.getD k 0) (hne : c ≠ []) :
    WV B ((w.setCell ⟨b, i, none⟩ (.int .i64 y)).setCell ⟨b, k, none⟩ (.int .i64 x)) r wb t { S with cl := S.cl.set id (sw c i k) } vl vs vd us xs := by
  obtain ⟨g, q1, q2⟩ := h.ui id hi
  rw [hv, ← hc, hn] at q1
  obtain ⟨b', cap', hv', hg, -, -⟩ := q1.1.at_ (j := 0) (List.length_pos_iff.2 hne)
  injection hv' with e1 e2 e3
  injection e1 with e1
  injection e1 with e1
  subst e1
  have p1 := h.wx.poke h.st.lt hB ⟨b, i, none⟩ (6 + 2 * id) hr (.int .i64 y)
  have p2 := p1.poke (p1.st (by simp <;> omega)).lt (Nat.le_trans hB (chg_poke w ⟨b, i, none⟩ _).size) ⟨b, k, none⟩ (6 + 2 * id) hr (.int .i64 x)
  refine ⟨p2.st (by simp <;> omega), p2.rst, p2.tr (by simp <;> omega), ?_, p2.rcl (by simp <;> omega), fun j hj => ?_, p2.ls (by simp <;> omega), p2.rls (by simp <;> omega), fun s hs => p2.xi s hs (by simp <;> omega), p2.dn (by simp <;> omega), p2.lo, p2.hi⟩
  · have := p2.cl (by simp <;> omega)
    simpa using this
  · simp only [List.length_set] at hj
    show ∃ g, CL _ (us.getD j undef) ((S.cl.set id (sw c i k)).getD j []) g ∧ _
    by_cases e : id = j
    · subst e
      rw [getD_set_self _ _ _ _ hi, hv]
      have s1 := q1.1.set1 hg i y
      have s2 := s1.set1 hg k x
      refine ⟨g, ⟨?_, fun e => ?_⟩, q2⟩
      · unfold sw
        rw [← hx, ← hy]
        have e : n = ((c.set i y).set k x).length := by simp [hn]
        rw [e]
        exact s2
      · have := congrArg List.length e
        rw [sw_len] at this
        exact absurd (List.eq_nil_of_length_eq_zero this) hne
    · rw [getD_set_ne _ _ _ _ _ e]
      exact p2.ui j hj (by simp <;> omega)
/-- What visit leaves: the list s that is gone through has the same value. -/
def VisP (B : Nat) (w : World) (r : Nat → Nat) (wb t : Nat) (S : WS) (vl vd : Value) (us xs : List Value) (s : Nat) (w' : World) : Prop :=
  ∃ r' vs' xs', WV B w' r' wb t S vl vs' vd us xs' ∧ Chg (fun b => r b ≠ 0) w w' ∧ (∀ b, b < w.heap.size → r' b = r b) ∧ xs'.getD s undef = xs.getD s undef
def VisQ (B : Nat) (w : World) (r : Nat → Nat) (wb t : Nat) (p : WS × Bool × Bool) (vl vd : Value) (us xs : List Value) (s : Nat) (e : Ending) (w' : World) : Prop :=
  e = .returned (.tuple #[.bool p.2.1, .bool p.2.2]) ∧ VisP B w r wb t p.1 vl vd us xs s w'
theorem set_self {l : List (List Int)} {id : Nat} : l.set id (l.getD id []) = l := by
  by_cases h : id < l.length
  · apply List.ext_getElem
    · simp
    · intro i h1 h2
      by_cases e : id = i
      · subst e; simp [List.getD, h]
      · simp [List.getElem_set_ne e]
  · rw [List.set_eq_of_length_le (by omega)]
end Go.Proofs.Ytkaklgjdmlddmaa
