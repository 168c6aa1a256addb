/-
  Package watch: Add, walked.
-/
import Derived.Test.YtkaklgjdmlddmaaWaF
namespace Go.Proofs.Ytkaklgjdmlddmaa
open Go.ChangeShapes Go.WideShapes Go.ChangeAt Go.RowKit
set_option linter.unusedVariables false
theorem trail_lt {w : World} {t : Nat} {s : TS} {fp : List Nat} (h : TrailAt w t s fp) : ∀ k ∈ fp, k < w.heap.size := by
  obtain ⟨vl, gm, cm, vv, vw, hp, rfl⟩ := h.parts
  intro j hj
  simp only [List.mem_cons, List.mem_append] at hj
  rcases hj with rfl | rfl | hj | hj | hj
  · exact hp.b.lt
  · exact hp.m.lt _ rfl
  · exact hp.l.lt _ (own_mem hj)
  · exact hp.v.lt _ (own_mem hj)
  · exact hp.h.lt _ (own_mem hj)
/-- What a call leaves that turns the trail alone. -/
def TrP (B : Nat) (w : World) (r : Nat → Nat) (wb t : Nat) (S : WS) (vl vs vd : Value) (us xs : List Value) (w' : World) : Prop :=
  ∃ r', WV B w' r' wb t S vl vs vd us xs ∧ Chg (fun b => r b ≠ 0) w w' ∧ ∀ b, b < w.heap.size → r' b = r b
theorem WV.done {B : Nat} {w w' : World} {r : Nat → Nat} {wb t : Nat} {S : WS} {vl vs vd : Value} {us xs : List Value} (h : WV B w r wb t S vl vs vd us xs) (hB : B ≤ w.heap.size) {fp : List Nat} (hf : ∀ k ∈ fp, r k = 1) {s' : TS} (hD : Done w fp t s' w') :
    TrP B w r wb t { S with t := s' } vl vs vd us xs w' := by
  obtain ⟨fp', hT, hc, hn⟩ := hD
  have hlt := trail_lt hT
  have hold : ∀ b, b < w.heap.size → (if b ∈ fp' then 1 else r b) = r b := fun b hb => by
    split
    · rename_i hm
      rcases hn b hm with h1 | h1
      · exact (hf b h1).symm
      · omega
    · rfl
  have hx := h.wx.step (K' := [1]) (r' := fun b => if b ∈ fp' then 1 else r b) h.st.lt hc (fun b _ hb => by rw [hf b hb]; simp) (by simp) hold (fun b hb => by
    show (if b ∈ fp' then 1 else r b) = 0
    rw [if_neg (fun hm => by have := hlt b hm; omega)]
    exact h.hi b (Nat.le_trans hc.size hb)) hB
  exact ⟨_, ⟨hx.st (by simp), hx.rst, ⟨fp', hT, fun k hk => if_pos hk⟩, hx.cl (by simp), hx.rcl (by simp), fun j hj => hx.ui j hj (by simp <;> omega), hx.ls (by simp), hx.rls (by simp), fun s hs => hx.xi s hs (by simp <;> omega), hx.dn (by simp), hx.lo, hx.hi⟩,
    hc.mono (fun b hb => by show r b ≠ 0; rw [hf b hb]; omega), hold⟩
/-- A trail's numbers are small. -/
structure TB (t : TS) : Prop where
  l : t.l.length ≤ 100000
  wh : t.wh.length ≤ 100000
  n0 : 0 ≤ t.now
  n1 : t.now ≤ 1000000000
theorem imply_ {B : Nat} {w : World} {r : Nat → Nat} {wb t : Nat} {S : WS} {vl vs vd : Value} {us xs : List Value} (h : WV B w r wb t S vl vs vd us xs) (hB : B ≤ w.heap.size) (hb : TB S.t) (l id : Int) :
    Calls Try.prog 38 #[.pointer (some ⟨t, 0, none⟩), .int .i64 l, .int .i64 id] w fun e w' => e = .returned (.bool (S.t.isFree l)) ∧ TrP B w r wb t { S with t := impT S.t l id } vl vs vd us xs w' := by
  obtain ⟨fp, hT, hf⟩ := h.tr
  obtain ⟨b1, b2, b3, b4⟩ := hb
  by_cases hl : S.t.isFree l = true
  · unfold impT
    rw [if_pos hl, hl]
    refine (trail_Imply_yes hT l id hl (by omega) (by omega) b3 (by omega)).mono ?_
    rintro e w' ⟨rfl, hD⟩
    exact ⟨rfl, h.done hB hf hD⟩
  · have hl' : S.t.isFree l = false := by simpa using hl
    unfold impT
    rw [if_neg hl, hl']
    refine (trail_Imply_no hT l id hl').mono ?_
    rintro e w' ⟨rfl, rfl⟩
    exact ⟨rfl, r, h, Chg.refl _ _, fun _ _ => rfl⟩
/-- The lists are few and short. -/
def LB (k : Nat) (ls : List (List Int)) : Prop := ls.length ≤ 3000 ∧ ∀ s, (ls.getD s []).length ≤ k
theorem LB.put {k : Nat} {ls : List (List Int)} (h : LB k ls) {l : Int} (hl : lit3 l) (id : Int) : LB (k + 1) (putL ls (slotN l) id) := by
  obtain ⟨h1, h2⟩ := h
  have hs := slotI_bd hl
  have hc := slotN_cast hl
  have hp := padL_len ls (slotN l)
  have hpd : ∀ s, ((padL ls (slotN l)).getD s []).length ≤ k := fun s => by
    unfold padL
    rcases Nat.lt_or_ge s ls.length with hlt | hge
    · have e : (ls ++ List.replicate (slotN l + 1 - ls.length) ([] : List Int)).getD s [] = ls.getD s [] := by simp only [List.getD]; rw [List.getElem?_append_left hlt]
      rw [e]
      exact h2 s
    · have e : (ls ++ List.replicate (slotN l + 1 - ls.length) ([] : List Int)).getD s [] = [] := by
        simp only [List.getD]
        rw [List.getElem?_append_right hge, List.getElem?_replicate]
        split <;> rfl
      rw [e]
      simp
  unfold putL
  refine ⟨by rw [List.length_set, hp]; omega, fun s => ?_⟩
  by_cases e : slotN l = s
  · subst e
    rw [getD_set_self _ _ _ _ (by rw [hp]; omega), List.length_append]
    have := hpd (slotN l)
    simp only [List.length_singleton]
    omega
  · rw [getD_set_ne _ _ _ _ _ e]
    have := hpd s
    omega
theorem LB.mono {k m : Nat} {ls : List (List Int)} (h : LB k ls) (hm : k ≤ m) : LB m ls := ⟨h.1, fun s => Nat.le_trans (h.2 s) hm⟩
theorem watchL_step (ls : List (List Int)) (c : List Int) (id : Int) (k : Nat) (hk : k < c.length) : watchL ls c id (k + 1) = putL (watchL ls c id k) (slotN (c.getD k 0)) id := by
  unfold watchL
  rw [List.take_succ_eq_append_getElem hk, List.foldl_append]
  simp [List.getD, hk]
theorem LB.watch {k : Nat} {ls : List (List Int)} (h : LB k ls) {c : List Int} (hc : Lits3 c) (id : Int) : ∀ j, j ≤ c.length → LB (k + j) (watchL ls c id j)
  | 0, _ => by unfold watchL; simpa using h
  | j + 1, hj => by
    rw [watchL_step _ _ _ _ (by omega)]
    exact (LB.watch h hc id j (by omega)).put (hc.at_ j) id
theorem watchL_2 (ls : List (List Int)) (c : List Int) (id : Int) : watchL ls c id (min 2 c.length) = watchL ls c id 2 := by
  unfold watchL
  congr 1
  rcases Nat.lt_or_ge c.length 2 with h | h
  · rw [Nat.min_eq_right (by omega), List.take_length, List.take_of_length_le (by omega)]
  · rw [Nat.min_eq_left h]
end Go.Proofs.Ytkaklgjdmlddmaa
