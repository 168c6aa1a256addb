/-
  Package watch: is, Clause, Len; one number goes from a list.
-/
import Derived.Test.YtghlgegfokjgbaaWaF
import Derived.Test.YtghlgegfokjgbaaOwnB
import Derived.Test.YtghlgegfokjgbaaShelf
namespace Go.Proofs.Ytghlgegfokjgbaa
open Go.ChangeShapes Go.WideShapes Go.ChangeAt Go.RowKit
open Go.Sort (Holds grow putRow)
set_option linter.unusedVariables false
def isB (S : WS) (id : Int) : Bool := decide (0 ≤ id ∧ id < (S.cl.length : Int)) && !(S.cl.getD id.toNat []).isEmpty
theorem is_nil (id : Int) (w : World) : Calls Try.prog 55 #[.pointer none, .int .i64 id] w fun e w' => e = .returned (.bool false) ∧ w = w' := by
  go_enter Try.func55, Try.ntmps55
  go_wp2
  go_ret
  exact ⟨rfl, rfl⟩
theorem row_formL {w : World} {v : Value} {n : Nat} {us : List Value} (h : Row w 23 1 v n us) : ∃ a cap, v = .slice a n cap := by
  rcases h.form with ⟨rfl, h0, -⟩ | ⟨g, cap, rfl, -⟩
  · exact ⟨_, _, by rw [h0]⟩
  · exact ⟨_, _, rfl⟩
set_option maxHeartbeats 1000000 in
theorem is_ {B : Nat} {w : World} {r : Nat → Nat} {wb t : Nat} {S : WS} {vl vs vd : Value} {us xs : List Value} (h : WV B w r wb t S vl vs vd us xs) (id : Int) :
    Calls Try.prog 55 #[.pointer (some ⟨wb, 0, none⟩), .int .i64 id] w fun e w' => e = .returned (.bool (isB S id)) ∧ w = w' := by
  have c1 := h.cells.c1
  obtain ⟨la, lc, rfl⟩ := row_formL h.cl
  by_cases h0 : id < 0
  · have e : isB S id = false := by unfold isB; rw [decide_eq_false (by omega)]; rfl
    rw [e]
    clear e h
    obtain ⟨n, hn⟩ : ∃ n, n = S.cl.length := ⟨_, rfl⟩
    rw [← hn] at c1
    clear hn
    go_enter Try.func55, Try.ntmps55
    go_wp2
    go_ret
    exact ⟨rfl, rfl⟩
  · by_cases h1 : (S.cl.length : Int) ≤ id
    · have e : isB S id = false := by unfold isB; rw [decide_eq_false (by omega)]; rfl
      rw [e]
      have h0' : 0 ≤ id := by omega
      clear e h h0
      obtain ⟨n, hn⟩ : ∃ n, n = S.cl.length := ⟨_, rfl⟩
      rw [← hn] at c1 h1
      clear hn
      go_enter Try.func55, Try.ntmps55
      go_wp2
      go_ret
      exact ⟨rfl, rfl⟩
    · obtain ⟨i, rfl⟩ : ∃ i : Nat, id = (i : Int) := ⟨id.toNat, by omega⟩
      have hi : i < S.cl.length := by omega
      obtain ⟨g, cap, hv, x0, -, -, -⟩ := row_at1 h.cl hi
      injection hv with e1 e2 e3
      subst e1
      obtain ⟨gu, hu, -⟩ := h.ui i hi
      have he : isB S (i : Int) = !(S.cl.getD i []).isEmpty := by unfold isB; rw [decide_eq_true (by omega)]; rfl
      rw [he]
      obtain ⟨n, hn⟩ : ∃ n, n = S.cl.length := ⟨_, rfl⟩
      rw [← hn] at c1 hi
      have i0 : (0 : Int) ≤ (i : Int) := by omega
      have i1 : (i : Int) < (n : Int) := by omega
      cases hc : S.cl.getD i [] with
      | nil =>
        have hun := hu.2 hc
        rw [hun] at x0
        have hq := fun W => run_neq_slice_nil_any (P := Try.prog) W 23 3 none 0 0 0 0 Try.underlying23
        clear h hu he hn e2 e3 hc hun h0 h1
        go_enter Try.func55, Try.ntmps55
        go_wp2
        go_ret
        exact ⟨rfl, rfl⟩
      | cons y ys =>
        obtain ⟨b, cap', hv', -, -, -⟩ := hu.1.at_ (j := 0) (by rw [hc]; simp)
        rw [hv'] at x0
        obtain ⟨m, hm⟩ : ∃ m, m = (S.cl.getD i []).length := ⟨_, rfl⟩
        rw [← hm] at x0
        have hq := fun W => run_neq_slice_nil_any (P := Try.prog) W 23 3 (some ⟨b, 0, none⟩) m cap' 0 0 Try.underlying23
        clear h hu he hn e2 e3 hc hm hv' h0 h1
        go_enter Try.func55, Try.ntmps55
        go_wp2
        go_ret
        exact ⟨rfl, rfl⟩
theorem Clause_nil (id : Int) (w : World) : Calls Try.prog 40 #[.pointer none, .int .i64 id] w fun e w' => e = .returned (.slice none 0 0) ∧ w = w' := by
  go_enter Try.func40, Try.ntmps40
  go_wp2_with ((go_at_call 55; refine (is_nil _ _).mono ?_; rintro e w' ⟨rfl, rfl⟩))
  go_ret
  exact ⟨rfl, rfl⟩
theorem Clause_no {B : Nat} {w : World} {r : Nat → Nat} {wb t : Nat} {S : WS} (h : WAt B w r wb t S) (id : Int) (hi : isB S id = false) : Calls Try.prog 40 #[.pointer (some ⟨wb, 0, none⟩), .int .i64 id] w fun e w' => e = .returned (.slice none 0 0) ∧ w = w' := by
  obtain ⟨vl, vs, vd, us, xs, h⟩ := h
  have HI := Lib.hid (is_ h id)
  rw [hi] at HI
  clear h hi
  go_enter Try.func40, Try.ntmps40
  go_wp2_with ((go_at_call 55; refine (HI.out).mono ?_; rintro e w' ⟨rfl, rfl⟩))
  go_ret
  exact ⟨rfl, rfl⟩
theorem Clause_yes {B : Nat} {w : World} {r : Nat → Nat} {wb t : Nat} {S : WS} (h : WAt B w r wb t S) (i : Nat) (hi : isB S (i : Int) = true) (hs : (S.cl.getD i []).length ≤ 1000) : Calls Try.prog 40 #[.pointer (some ⟨wb, 0, none⟩), .int .i64 i] w fun e w' => ∃ u, e = .returned u ∧ ClonePost w (S.cl.getD i []) u w' := by
  obtain ⟨vl, vs, vd, us, xs, h⟩ := h
  have HI := Lib.hid (is_ h i)
  rw [hi] at HI
  have c1 := h.cells.c1
  have hil : i < S.cl.length := by
    unfold isB at hi
    rw [Bool.and_eq_true] at hi
    have := of_decide_eq_true hi.1
    omega
  obtain ⟨g, cap, rfl, x0, -, -, -⟩ := row_at1 h.cl hil
  obtain ⟨gu, hu, -⟩ := h.ui i hil
  have HC := Lib.hid (slices_Clone hu.1.ints (by omega))
  obtain ⟨va, vc, hv, -, -⟩ := hu.1.form
  rw [hv] at x0 HC
  obtain ⟨m, hm⟩ : ∃ m, m = (S.cl.getD i []).length := ⟨_, rfl⟩
  rw [← hm] at x0 HC
  obtain ⟨n, hn⟩ : ∃ n, n = S.cl.length := ⟨_, rfl⟩
  rw [← hn] at c1 hil
  have i0 : (0 : Int) ≤ (i : Int) := by omega
  have i1 : (i : Int) < (n : Int) := by omega
  clear h hi hu hv hm hn hs
  go_enter Try.func40, Try.ntmps40
  go_wp2_with (first | (go_at_call 55; refine (HI.out).mono ?_; rintro e w' ⟨rfl, rfl⟩) | (go_at_call 27; refine (HC.out).mono ?_; rintro e w1 ⟨u, rfl, hp⟩))
  go_ret
  exact ⟨u, rfl, hp⟩
/-! ### one number goes -/
def without (c : List Int) (x : Int) : List Int := c.filter fun y => !(y == x)
end Go.Proofs.Ytghlgegfokjgbaa
/-
  Package watch: Remove.
-/
namespace Go.Proofs.Ytghlgegfokjgbaa
open Go.ChangeShapes Go.WideShapes Go.ChangeAt Go.RowKit
set_option linter.unusedVariables false
set_option linter.unusedSimpArgs false
def delL (ls : List (List Int)) (c : List Int) (id : Int) (k : Nat) : List (List Int) := (c.take k).foldl (fun ls l => ls.set (slotN l) (without (ls.getD (slotN l) []) id)) ls
theorem delL_step (ls : List (List Int)) (c : List Int) (id : Int) (k : Nat) (hk : k < c.length) : delL ls c id (k + 1) = (delL ls c id k).set (slotN (c.getD k 0)) (without ((delL ls c id k).getD (slotN (c.getD k 0)) []) id) := by
  unfold delL
  rw [List.take_succ_eq_append_getElem hk, List.foldl_append]
  simp [List.getD, hk]
theorem delL_len (ls : List (List Int)) (c : List Int) (id : Int) (k : Nat) : (delL ls c id k).length = ls.length := by
  unfold delL
  generalize c.take k = d
  induction d generalizing ls with
  | nil => rfl
  | cons x d ih => rw [List.foldl_cons, ih, List.length_set]
theorem far_cell {w : World} {p : Addr} {u v : Value} {b o : Nat} (h : w.cell? ⟨b, o, none⟩ = some v) (hne : b ≠ p.block) : (w.setCell p u).cell? ⟨b, o, none⟩ = some v := (World.cell?_of_block (Below.heap_setCell w p u b hne)).trans h
def removeF (S : WS) (id : Nat) : WS :=
  { t := S.t, cl := S.cl.set id [], ls := delL S.ls (S.cl.getD id []) id 2, dn := if S.bk = (id : Int) then [] else S.dn, bk := if S.bk = (id : Int) then -1 else S.bk }
/-- What a watch's lists must be for a clause to be removed. -/
structure RemOk (S : WS) (id : Nat) : Prop where
  lits : Lits3 (S.cl.getD id [])
  len : (S.cl.getD id []).length ≤ 1000
  has : ∀ k, k < 2 → k < (S.cl.getD id []).length → slotN ((S.cl.getD id []).getD k 0) < S.ls.length ∧ S.ls.getD (slotN ((S.cl.getD id []).getD k 0)) [] ≠ []
  ne : 2 ≤ (S.cl.getD id []).length → (S.cl.getD id []).getD 0 0 ≠ (S.cl.getD id []).getD 1 0
  lb : LB 100000 S.ls
theorem RemOk.at_ {S : WS} {id : Nat} (h : RemOk S id) {k : Nat} (hk : k < 2) (hk2 : k < (S.cl.getD id []).length) : slotN ((S.cl.getD id []).getD k 0) < S.ls.length ∧ (delL S.ls (S.cl.getD id []) id k).getD (slotN ((S.cl.getD id []).getD k 0)) [] ≠ [] ∧
    (delL S.ls (S.cl.getD id []) id k).getD (slotN ((S.cl.getD id []).getD k 0)) [] = S.ls.getD (slotN ((S.cl.getD id []).getD k 0)) [] := by
  obtain ⟨h1, h2⟩ := h.has k hk hk2
  have e : (delL S.ls (S.cl.getD id []) id k).getD (slotN ((S.cl.getD id []).getD k 0)) [] = S.ls.getD (slotN ((S.cl.getD id []).getD k 0)) [] := by
    rcases (show k = 0 ∨ k = 1 by omega) with rfl | rfl
    · rfl
    · rw [delL_step _ _ _ _ (by omega)]
      have hne := h.ne (by omega)
      rw [getD_set_ne]
      · rfl
      · intro e
        exact hne (slotN_inj (h.lits.at_ 0) (h.lits.at_ 1) e)
  exact ⟨h1, by rw [e]; exact h2, e⟩
theorem WV.rmCl {B : Nat} {w : World} {r : Nat → Nat} {wb t : Nat} {S : WS} {vs vd : Value} {gc cap : Nat} {us xs : List Value} (h : WV B w r wb t S (.slice (some ⟨gc, 0, none⟩) S.cl.length cap) vs vd us xs) (hB : B ≤ w.heap.size) (id : Nat) (hi : id < S.cl.length) :
    WV B (w.setCell ⟨gc, id, none⟩ (.slice none 0 0)) r wb t { S with cl := S.cl.set id [] } (.slice (some ⟨gc, 0, none⟩) S.cl.length cap) vs vd (us.set id (.slice none 0 0)) xs := by
  have hgc : r gc = 3 := h.rcl gc rfl
  have hy := h.wx.poke h.st.lt hB ⟨gc, id, none⟩ 3 hgc (.slice none 0 0)
  have hul := row_len h.cl
  refine ⟨hy.st (by simp), hy.rst, hy.tr (by simp), ?_, h.rcl, fun j hj => ?_, hy.ls (by simp), hy.rls (by simp), fun s hs => hy.xi s hs (by simp <;> omega), hy.dn (by simp), hy.lo, hy.hi⟩
  · have := h.cl.set1 id (.slice none 0 0)
    simpa using this
  · simp only [List.length_set] at hj
    show ∃ g, CL _ ((us.set id (.slice none 0 0)).getD j undef) ((S.cl.set id []).getD j []) g ∧ _
    by_cases e : id = j
    · subst e
      rw [getD_set_self _ _ _ _ (by omega), getD_set_self _ _ _ _ hi]
      exact ⟨none, ⟨LR.nil _, fun _ => rfl⟩, fun b hb => by cases hb⟩
    · rw [getD_set_ne _ _ _ _ _ e, getD_set_ne _ _ _ _ _ e]
      exact hy.ui j hj (by simp <;> omega)
theorem WV.setDn {B : Nat} {w : World} {r : Nat → Nat} {wb t : Nat} {S : WS} {vl vs vd : Value} {us xs : List Value} (h : WX [5] B w r wb t S vl vs vd us xs) (hw : wb < w.heap.size) (hB : B ≤ w.heap.size) (vd' : Value) (dn' : List Int) (g : Option Nat) (hd : LR w vd' dn' g) (hg : ∀ b, g = some b → r b = 5) :
    WV B (w.setCell ⟨wb, 3, none⟩ vd') r wb t { S with dn := dn' } vl vs vd' us xs := by
  have hb := h.st (by simp)
  have hy := h.poke hb.lt hB ⟨wb, 3, none⟩ 2 h.rst vd'
  refine ⟨hb.set_ 3 _, hy.rst, hy.tr (by simp), hy.cl (by simp), hy.rcl (by simp), fun j hj => hy.ui j hj (by simp <;> omega), hy.ls (by simp), hy.rls (by simp), fun s hs => hy.xi s hs (by simp <;> omega), ⟨g, ?_, hg⟩, hy.lo, hy.hi⟩
  exact hd.chg (chg_poke w ⟨wb, 3, none⟩ vd') (fun b hb e => by have e : b = wb := e; have h1 := hg b hb; have h2 := h.rst; rw [e] at h1; omega)
theorem WV.x5 {B : Nat} {w : World} {r : Nat → Nat} {wb t : Nat} {S : WS} {vl vs vd : Value} {us xs : List Value} (h : WV B w r wb t S vl vs vd us xs) : WX [5] B w r wb t S vl vs vd us xs :=
  ⟨fun _ => h.st, h.rst, fun _ => h.tr, fun _ => h.cl, fun _ => h.rcl, fun j hj _ => h.ui j hj, fun _ => h.ls, fun _ => h.rls, fun s hs _ => h.xi s hs, fun _ => h.dn, h.lo, h.hi⟩
end Go.Proofs.Ytghlgegfokjgbaa
/-
  Package watch: visit.
-/
namespace Go.Proofs.Ytghlgegfokjgbaa
open Go.ChangeShapes Go.WideShapes Go.ChangeAt Go.RowKit
set_option linter.unusedVariables false
set_option linter.unusedSimpArgs false
def visC (c : List Int) (wrong : Int) : List Int := if c.getD 0 0 = wrong then sw c 0 1 else c
def fk (t : TS) (c : List Int) : Option Nat := (List.range' 2 (c.length - 2)).find? fun k => decide (0 ≤ t.value (c.getD k 0))
def visitF (S : WS) (id : Nat) (wrong : Int) : WS × Bool × Bool :=
  if (S.cl.getD id []).length = 1 then (S, true, false)
  else if 0 < S.t.value ((visC (S.cl.getD id []) wrong).getD 0 0) then ({ S with cl := S.cl.set id (visC (S.cl.getD id []) wrong) }, true, true)
  else match fk S.t (visC (S.cl.getD id []) wrong) with
    | some k => ({ S with cl := S.cl.set id (sw (visC (S.cl.getD id []) wrong) 1 k), ls := putL S.ls (slotN ((visC (S.cl.getD id []) wrong).getD k 0)) id }, false, true)
    | none => if S.t.value ((visC (S.cl.getD id []) wrong).getD 0 0) < 0 then ({ S with cl := S.cl.set id (visC (S.cl.getD id []) wrong) }, true, false)
      else ({ S with cl := S.cl.set id (visC (S.cl.getD id []) wrong), t := impT S.t ((visC (S.cl.getD id []) wrong).getD 0 0) id }, true, true)
theorem fk_some {t : TS} {c : List Int} {k : Nat} (h2 : 2 ≤ k) (hk : k < c.length) (hv : 0 ≤ t.value (c.getD k 0)) (hb : ∀ j, 2 ≤ j → j < k → t.value (c.getD j 0) < 0) : fk t c = some k := by
  unfold fk
  have e : List.range' 2 (c.length - 2) = List.range' 2 (k - 2) ++ k :: List.range' (k + 1) (c.length - 1 - k) := by
    have h1 : c.length - 2 = (k - 2) + (c.length - k) := by omega
    rw [h1, ← List.range'_append_1]
    congr 1
    have h3 : 2 + (k - 2) = k := by omega
    have h4 : c.length - k = (c.length - 1 - k) + 1 := by omega
    rw [h3, h4, List.range'_succ]
  rw [e, List.find?_append]
  have h0 : (List.range' 2 (k - 2)).find? (fun k => decide (0 ≤ t.value (c.getD k 0))) = none := by
    rw [List.find?_eq_none]
    intro j hj
    rw [List.mem_range'_1] at hj
    have := hb j hj.1 (by omega)
    simp
    simp [List.getD] at this
    omega
  rw [h0]
  simp only [Option.none_or, List.find?_cons]
  rw [decide_eq_true hv]
theorem fk_none {t : TS} {c : List Int} (hb : ∀ j, 2 ≤ j → j < c.length → t.value (c.getD j 0) < 0) : fk t c = none := by
  unfold fk
  rw [List.find?_eq_none]
  intro j hj
  rw [List.mem_range'_1] at hj
  have := hb j hj.1 (by omega)
  simp
  simp [List.getD] at this
  omega
/-- Two literals of a clause change places. -/
theorem WV.swap {B : Nat} {w : World} {r : Nat → Nat} {wb t : Nat} {S : WS} {vl vs vd : Value} {us xs : List Value} (h : WV B w r wb t S vl vs vd us xs) (hB : B ≤ w.heap.size) (id : Nat) (hi : id < S.cl.length) (c : List Int) (hc : c = S.cl.getD id []) {b cap n : Nat} (hv : us.getD id undef = .slice (some ⟨b, 0, none⟩) n cap) (hn : n = c.length) (hr : r b = 6 + 2 * id) (i k : Nat) (x y : Int) (hx : x = c.getD i 0) (hy : y = c.getD k 0) (hne : c ≠ []) :
    WV B ((w.setCell ⟨b, i, none⟩ (.int .i64 y)).setCell ⟨b, k, none⟩ (.int .i64 x)) r wb t { S with cl := S.cl.set id (sw c i k) } vl vs vd us xs := by
  obtain ⟨g, q1, q2⟩ := h.ui id hi
  rw [hv, ← hc, hn] at q1
  obtain ⟨b', cap', hv', hg, -, -⟩ := q1.1.at_ (j := 0) (List.length_pos_iff.2 hne)
  injection hv' with e1 e2 e3
  injection e1 with e1
  injection e1 with e1
  subst e1
  have p1 := h.wx.poke h.st.lt hB ⟨b, i, none⟩ (6 + 2 * id) hr (.int .i64 y)
  have p2 := p1.poke (p1.st (by simp <;> omega)).lt (Nat.le_trans hB (chg_poke w ⟨b, i, none⟩ _).size) ⟨b, k, none⟩ (6 + 2 * id) hr (.int .i64 x)
  refine ⟨p2.st (by simp <;> omega), p2.rst, p2.tr (by simp <;> omega), ?_, p2.rcl (by simp <;> omega), fun j hj => ?_, p2.ls (by simp <;> omega), p2.rls (by simp <;> omega), fun s hs => p2.xi s hs (by simp <;> omega), p2.dn (by simp <;> omega), p2.lo, p2.hi⟩
  · have := p2.cl (by simp <;> omega)
    simpa using this
  · simp only [List.length_set] at hj
    show ∃ g, CL _ (us.getD j undef) ((S.cl.set id (sw c i k)).getD j []) g ∧ _
    by_cases e : id = j
    · subst e
      rw [getD_set_self _ _ _ _ hi, hv]
      have s1 := q1.1.set1 hg i y
      have s2 := s1.set1 hg k x
      refine ⟨g, ⟨?_, fun e => ?_⟩, q2⟩
      · unfold sw
        rw [← hx, ← hy]
        have e : n = ((c.set i y).set k x).length := by simp [hn]
        rw [e]
        exact s2
      · have := congrArg List.length e
        rw [sw_len] at this
        exact absurd (List.eq_nil_of_length_eq_zero this) hne
    · rw [getD_set_ne _ _ _ _ _ e]
      exact p2.ui j hj (by simp <;> omega)
/-- What visit leaves: the list s that is gone through has the same value. -/
def VisP (B : Nat) (w : World) (r : Nat → Nat) (wb t : Nat) (S : WS) (vl vd : Value) (us xs : List Value) (s : Nat) (w' : World) : Prop :=
  ∃ r' vs' xs', WV B w' r' wb t S vl vs' vd us xs' ∧ Chg (fun b => r b ≠ 0) w w' ∧ (∀ b, b < w.heap.size → r' b = r b) ∧ xs'.getD s undef = xs.getD s undef
def VisQ (B : Nat) (w : World) (r : Nat → Nat) (wb t : Nat) (p : WS × Bool × Bool) (vl vd : Value) (us xs : List Value) (s : Nat) (e : Ending) (w' : World) : Prop :=
  e = .returned (.tuple #[.bool p.2.1, .bool p.2.2]) ∧ VisP B w r wb t p.1 vl vd us xs s w'
theorem set_self {l : List (List Int)} {id : Nat} : l.set id (l.getD id []) = l := by
  by_cases h : id < l.length
  · apply List.ext_getElem
    · simp
    · intro i h1 h2
      by_cases e : id = i
      · subst e; simp [List.getD, h]
      · simp [List.getElem_set_ne e]
  · rw [List.set_eq_of_length_le (by omega)]
end Go.Proofs.Ytghlgegfokjgbaa
