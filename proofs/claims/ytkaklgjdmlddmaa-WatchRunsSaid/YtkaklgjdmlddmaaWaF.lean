/-
  Package watch: Add.
-/
import Derived.Test.YtkaklgjdmlddmaaWaE
namespace Go.Proofs.Ytkaklgjdmlddmaa
open Go.ChangeShapes Go.WideShapes Go.ChangeAt Go.RowKit
set_option linter.unusedVariables false
theorem owner_ne {r : Nat → Nat} {g : Option Nat} {k b q : Nat} (h : r b = q) (hq : q ≠ 0) (hg : ∀ b, g = some b → r b = 0) : owner r g k b = q := by
  unfold owner
  split
  · rename_i e
    have := hg b e
    omega
  · exact h
/-- A block that was nobody's becomes the watch's. -/
theorem WV.adopt {B : Nat} {w : World} {r : Nat → Nat} {wb t : Nat} {S : WS} {vl vs vd : Value} {us xs : List Value} (h : WV B w r wb t S vl vs vd us xs) (g : Option Nat) (k : Nat) (hg : ∀ b, g = some b → r b = 0 ∧ B ≤ b ∧ b < w.heap.size) :
    WV B w (owner r g k) wb t S vl vs vd us xs := by
  obtain ⟨h1, h2, ⟨fp, h3, h3'⟩, h4, h5, h6, h7, h8, h9, ⟨gd, h10, h10'⟩, h11, h12⟩ := h
  have hz : ∀ b, g = some b → r b = 0 := fun b hb => (hg b hb).1
  refine ⟨h1, owner_ne h2 (by omega) hz, ⟨fp, h3, fun b hb => owner_ne (h3' b hb) (by omega) hz⟩, h4, fun b hb => owner_ne (h5 b hb) (by omega) hz, fun j hj => ?_, h7, fun b hb => owner_ne (h8 b hb) (by omega) hz, fun s hs => ?_, ⟨gd, h10, fun b hb => owner_ne (h10' b hb) (by omega) hz⟩, fun b hb => ?_, fun b hb => ?_⟩
  · obtain ⟨g', q1, q2⟩ := h6 j hj
    exact ⟨g', q1, fun b hb => owner_ne (q2 b hb) (by omega) hz⟩
  · obtain ⟨g', q1, q2⟩ := h9 s hs
    exact ⟨g', q1, fun b hb => owner_ne (q2 b hb) (by omega) hz⟩
  · unfold owner
    split
    · rename_i e; have := (hg b e).2.1; omega
    · exact h11 b hb
  · unfold owner
    split
    · rename_i e; have := (hg b e).2.2; omega
    · exact h12 b hb
/-- One clause more. -/
theorem WV.addCl {B : Nat} {w w1 : World} {r : Nat → Nat} {wb t : Nat} {S : WS} {vl vs vd u v' : Value} {us xs : List Value} {c : List Int} {gu : Option Nat} (h : WV B w r wb t S vl vs vd us xs) (hB : B ≤ w.heap.size) (hc0 : c ≠ []) (hu : LR w u c gu) (hgu : ∀ b, gu = some b → r b = 6 + 2 * S.cl.length)
    (hp : AppPost w 23 1 vl (S.cl.length + 1) (us ++ [u]) v' w1) :
    ∃ r', WV B (w1.setCell ⟨wb, 1, none⟩ v') r' wb t { S with cl := S.cl ++ [c] } v' vs vd (us ++ [u]) xs ∧ Chg (fun b => r b ≠ 0) w (w1.setCell ⟨wb, 1, none⟩ v') ∧ ∀ b, b < w.heap.size → r' b = r b := by
  obtain ⟨p1, p2, p3⟩ := hp
  have hold : ∀ b, b < w.heap.size → owner r v'.ownBlock 3 b = r b := owner_old p3 (Nat.le_refl _) h.rcl
  have hx := h.wx.step (K' := [3]) (r' := owner r v'.ownBlock 3) h.st.lt p2 (fun b _ hb => by rw [h.rcl b hb]; simp) (by simp) hold (owner_hi p1.lt p2.size h.hi) hB
  have hb1 := hx.st (by simp)
  have hy := hx.poke hb1.lt (Nat.le_trans hB p2.size) ⟨wb, 1, none⟩ 2 hx.rst v'
  have hc := chg_poke w1 ⟨wb, 1, none⟩ v'
  have hr3 : ∀ g, v'.ownBlock = some g → owner r v'.ownBlock 3 g = 3 := fun g hg => by unfold owner; rw [if_pos hg]
  have hul := row_len h.cl
  refine ⟨owner r v'.ownBlock 3, ⟨hb1.set_ 1 _, hx.rst, hy.tr (by simp), ?_, hr3, fun j hj => ?_, hy.ls (by simp), hy.rls (by simp), fun s hs => hy.xi s hs (by simp <;> omega), hy.dn (by simp), hy.lo, hy.hi⟩, ?_, hold⟩
  · have := p1.chg hc (fun g hg e => by have e : g = wb := e; have := hr3 g hg; rw [e] at this; have := hx.rst; omega)
    simpa using this
  · simp only [List.length_append, List.length_singleton] at hj
    show ∃ g, CL _ ((us ++ [u]).getD j undef) ((S.cl ++ [c]).getD j []) g ∧ _
    rcases Nat.lt_or_ge j S.cl.length with hlt | hge
    · obtain ⟨g, q1, q2⟩ := hy.ui j hlt (by simp <;> omega)
      rw [getD_snoc_lt _ _ _ (by omega), getD_snoc_lt _ _ _ hlt]
      exact ⟨g, q1, q2⟩
    · obtain rfl : j = S.cl.length := by omega
      have e1 : (us ++ [u]).getD S.cl.length undef = u := by rw [← hul]; exact getD_snoc_eq _ _ _
      rw [e1, getD_snoc_eq]
      have hgo : ∀ b, gu = some b → owner r v'.ownBlock 3 b = 6 + 2 * S.cl.length := fun b hb => by rw [hold b (hu.lt b hb)]; exact hgu b hb
      refine ⟨gu, ⟨(hu.chg p2 (fun b hb e => by have h1 := hgu b hb; have h2 := h.rcl b e; omega)).chg hc (fun b hb e => ?_), fun e => absurd e hc0⟩, hgo⟩
      have e : b = wb := e
      have h1 := hgo b hb
      rw [e, hx.rst] at h1
      omega
  · refine (p2.mono fun b hb => ?_).trans hc (fun b hb => ?_)
    · show r b ≠ 0; rw [h.rcl b hb]; omega
    · have hb : b = wb := hb; exact .inl (by show r b ≠ 0; rw [hb, h.rst]; omega)
def impT (t : TS) (l r : Int) : TS := if t.isFree l then t.put l r else t
def watchL (ls : List (List Int)) (c : List Int) (id : Int) (k : Nat) : List (List Int) := (c.take k).foldl (fun ls l => putL ls (slotN l) id) ls
def addF (S : WS) (c : List Int) : WS :=
  let c' := firF S.t c (min 2 c.length)
  let v := S.t.value (c'.getD 0 0)
  { t := if v = 0 ∧ (c.length = 1 ∨ S.t.value (c'.getD 1 0) < 0) then impT S.t (c'.getD 0 0) S.cl.length else S.t
    cl := S.cl ++ [c'], ls := watchL S.ls c' S.cl.length 2, dn := S.dn, bk := if v < 0 then (S.cl.length : Int) else S.bk }
theorem Add_nil (v : Value) (w : World) : Calls Try.prog 19 #[.pointer none, v] w fun e w' => e = .returned (.tuple #[.int .i64 (-1), .bool false]) ∧ w = w' := by
  go_enter Try.func19, Try.ntmps19
  go_wp2
  go_ret2
  exact ⟨rfl, rfl⟩
theorem Add_none (wb : Nat) (a : Option Addr) (cap : Nat) (w : World) : Calls Try.prog 19 #[.pointer (some ⟨wb, 0, none⟩), .slice a 0 cap] w fun e w' => e = .returned (.tuple #[.int .i64 (-1), .bool false]) ∧ w = w' := by
  go_enter Try.func19, Try.ntmps19
  go_wp2
  go_ret2
  exact ⟨rfl, rfl⟩
end Go.Proofs.Ytkaklgjdmlddmaa
