/-
  Checkers of proofs, plainly: a checker against the clauses that came, and which of them are gone.
-/
import Derived.Test.YtknpfopepedmmaaRvN
import Derived.Test.YtknpfopepedmmaaRvL
import Derived.Deep.RegionHeld3
namespace Go.Proofs.Ytknpfopepedmmaa
set_option linter.unusedVariables false
set_option linter.unusedSimpArgs false
/-- The clauses as they came, and which are gone. -/
structure Mir (S : RS) (l : List (List Int)) (gone : List Bool) : Prop where
  cl : S.cl = l.map normC
  on : S.on = gone.map fun b => !b
  len : gone.length = l.length
  li : ∀ c ∈ l, Lit30s c
def thereL : List (List Int) → List Bool → List (List Int)
  | c :: l, g :: gs => if g = true then thereL l gs else c :: thereL l gs
  | _, _ => []
theorem mem_thereL : ∀ {l : List (List Int)} {gone : List Bool} {d : List Int}, d ∈ thereL l gone ↔ ∃ i, i < l.length ∧ i < gone.length ∧ gone.getD i true = false ∧ l.getD i [] = d
  | [], gs, d => by
    unfold thereL
    simp
  | c :: l, [], d => by
    unfold thereL
    simp
  | c :: l, g :: gs, d => by
    unfold thereL
    have ih := mem_thereL (l := l) (gone := gs) (d := d)
    constructor
    · intro h
      cases g with
      | true =>
        rw [if_pos rfl] at h
        obtain ⟨i, h1, h2, h3, h4⟩ := ih.1 h
        exact ⟨i + 1, by simp; omega, by simp; omega, by simpa using h3, by simpa using h4⟩
      | false =>
        rw [if_neg (by decide)] at h
        rcases List.mem_cons.1 h with e | h
        · exact ⟨0, by simp, by simp, rfl, by simp [e]⟩
        · obtain ⟨i, h1, h2, h3, h4⟩ := ih.1 h
          exact ⟨i + 1, by simp; omega, by simp; omega, by simpa using h3, by simpa using h4⟩
    · rintro ⟨i, h1, h2, h3, h4⟩
      match i with
      | 0 =>
        have hg : g = false := by simpa using h3
        have hd : c = d := by simpa using h4
        rw [hg, if_neg (by decide), hd]; exact List.mem_cons_self
      | i + 1 =>
        have := ih.2 ⟨i, by simpa using h1, by simpa using h2, by simpa using h3, by simpa using h4⟩
        split
        · exact this
        · exact List.mem_cons_of_mem _ this
theorem thereL_snoc (c : List Int) : ∀ (l : List (List Int)) (gone : List Bool), gone.length = l.length → thereL (l ++ [c]) (gone ++ [false]) = thereL l gone ++ [c]
  | [], [], _ => rfl
  | d :: l, g :: gs, h => by
    have ih := thereL_snoc c l gs (by simpa using h)
    show thereL (d :: (l ++ [c])) (g :: (gs ++ [false])) = _
    unfold thereL
    rw [ih]
    split <;> simp
  | [], g :: gs, h => by simp at h
  | d :: l, [], h => by simp at h
section
variable {S : RS} {l : List (List Int)} {gone : List Bool}
theorem Mir.c (h : Mir S l gone) {i : Nat} (hi : i < l.length) : S.c i = normC (l.getD i []) := by
  unfold RS.c
  rw [h.cl, List.getD_eq_getElem?_getD, List.getElem?_map, List.getD_eq_getElem?_getD, List.getElem?_eq_getElem hi]; rfl
theorem Mir.onA (h : Mir S l gone) {i : Nat} (hi : i < l.length) : S.onA i = !(gone.getD i true) := by
  unfold RS.onA
  rw [h.on, List.getD_eq_getElem?_getD, List.getElem?_map, List.getD_eq_getElem?_getD, List.getElem?_eq_getElem (by rw [h.len]; exact hi)]; rfl
theorem Mir.size (h : Mir S l gone) : S.cl.length = l.length := by rw [h.cl, List.length_map]
theorem closed_norm {c T : List Int} (h : Lit30s c) : ClosedC (normC c) T ↔ ClosedC c T :=
  ⟨fun hc => hc.congr (fun y hy => (h y ((mem_normC c y).1 hy)).1) (mem_normC c), fun hc => hc.congr (fun y hy => (h y hy).1) (fun y => (mem_normC c y).symm)⟩
theorem getD_in {l : List (List Int)} {i : Nat} (hi : i < l.length) : l.getD i [] ∈ l := by rw [List.getD_eq_getElem?_getD, List.getElem?_eq_getElem hi]; exact List.getElem_mem hi
theorem Mir.closed (h : Mir S l gone) {T : List Int} : ClosedS S T ↔ ClosedM (thereL l gone) T := by
  constructor
  · intro hc d hd
    obtain ⟨i, h1, h2, h3, rfl⟩ := mem_thereL.1 hd
    have := hc i (by rw [h.size]; exact h1) (by rw [h.onA h1, h3]; rfl)
    rw [h.c h1] at this
    exact (closed_norm (h.li _ (getD_in h1))).1 this
  · intro hc i hi hon
    rw [h.size] at hi
    rw [h.c hi]
    rw [h.onA hi] at hon
    exact (closed_norm (h.li _ (getD_in hi))).2 (hc _ (mem_thereL.2 ⟨i, hi, by rw [h.len]; exact hi, by simpa using hon, rfl⟩))
theorem Mir.open_ (h : Mir S l gone) {c : List Int} : OpenS S c ↔ OpenN (thereL l gone) c :=
  ⟨fun ⟨T, t1, t2, t3⟩ => ⟨T, t1, t2, h.closed.1 t3⟩, fun ⟨T, t1, t2, t3⟩ => ⟨T, t1, t2, h.closed.2 t3⟩⟩
theorem same_mem {a b : List Int} : sameS a b = true ↔ ∀ x, x ∈ a ↔ x ∈ b := by
  unfold sameS subB
  rw [Bool.and_eq_true, List.all_eq_true, List.all_eq_true]
  constructor
  · rintro ⟨h1, h2⟩ x
    exact ⟨fun h => by simpa using h1 x h, fun h => by simpa using h2 x h⟩
  · intro h
    exact ⟨fun x hx => by simpa using (h x).1 hx, fun x hx => by simpa using (h x).2 hx⟩
theorem same_normC {a b : List Int} : sameS a b = true ↔ normC a = normC b := by
  rw [same_mem]
  constructor
  · intro h
    exact strictK_ext (strict_normC a) (strict_normC b) (fun x => by rw [mem_normC, mem_normC]; exact h x)
  · intro h x
    rw [← mem_normC a, ← mem_normC b, h]
theorem Mir.hits (h : Mir S l gone) {c : List Int} {i : Nat} (hi : i < l.length) : S.hits (normC c) i ↔ gone.getD i true = false ∧ sameS (l.getD i []) c = true := by
  unfold RS.hits
  rw [h.c hi, h.onA hi, same_normC]
  simp
end
/-- Which clause goes: the first one of the same literals that is there. -/
def seekL : List (List Int) → List Bool → List Int → Option Nat
  | d :: l, g :: gs, c => if g = false ∧ sameS d c = true then some 0 else (seekL l gs c).map (· + 1)
  | _, _, _ => none
def remR : List (List Int) → List Int → Option (List (List Int))
  | [], _ => none
  | d :: r, c => if sameS d c = true then some r else (remR r c).map (d :: ·)
theorem rem_there (c : List Int) : ∀ (l : List (List Int)) (gone : List Bool), remR (thereL l gone) c = (seekL l gone c).map fun k => thereL l (gone.set k true)
  | [], gs => by cases gs <;> rfl
  | d :: l, [] => rfl
  | d :: l, g :: gs => by
    have ih := rem_there c l gs
    cases g with
    | true =>
      have e1 : thereL (d :: l) (true :: gs) = thereL l gs := rfl
      have e2 : seekL (d :: l) (true :: gs) c = (seekL l gs c).map (· + 1) := rfl
      rw [e1, e2, ih, Option.map_map]
      rfl
    | false =>
      have e1 : thereL (d :: l) (false :: gs) = d :: thereL l gs := rfl
      rw [e1]
      unfold remR seekL
      by_cases hs : sameS d c = true
      · rw [if_pos hs, if_pos ⟨rfl, hs⟩]; rfl
      · rw [if_neg hs, if_neg (fun h => hs h.2), ih, Option.map_map, Option.map_map]
        rfl
theorem seekL_spec (c : List Int) : ∀ (l : List (List Int)) (gone : List Bool), gone.length = l.length → (seekL l gone c = none ∧ ∀ i, i < l.length → ¬ (gone.getD i true = false ∧ sameS (l.getD i []) c = true)) ∨ ∃ k, seekL l gone c = some k ∧ k < l.length ∧ (gone.getD k true = false ∧ sameS (l.getD k []) c = true) ∧ ∀ i, i < k → ¬ (gone.getD i true = false ∧ sameS (l.getD i []) c = true)
  | [], gs, _ => .inl ⟨by cases gs <;> rfl, fun i hi => by simp at hi⟩
  | d :: l, [], h => by simp at h
  | d :: l, g :: gs, h => by
    have e : seekL (d :: l) (g :: gs) c = if g = false ∧ sameS d c = true then some 0 else (seekL l gs c).map (· + 1) := rfl
    rw [e]
    by_cases h0 : g = false ∧ sameS d c = true
    · rw [if_pos h0]
      exact .inr ⟨0, rfl, by simp, by simpa using h0, fun i hi => absurd hi (by omega)⟩
    · rw [if_neg h0]
      rcases seekL_spec c l gs (by simpa using h) with ⟨h1, h2⟩ | ⟨k, h1, h2, h3, h4⟩
      · refine .inl ⟨by rw [h1]; rfl, fun i hi => ?_⟩
        match i with
        | 0 => simpa using h0
        | i + 1 => simpa using h2 i (by simpa using hi)
      · refine .inr ⟨k + 1, by rw [h1]; rfl, by simpa using h2, by simpa using h3, fun i hi => ?_⟩
        match i with
        | 0 => simpa using h0
        | i + 1 => simpa using h4 i (by omega)
theorem remR_none {c : List Int} : ∀ {og : List (List Int)}, (∀ i, i < og.length → sameS (og.getD i []) c = false) → remR og c = none
  | [], _ => rfl
  | d :: r, h => by
    unfold remR
    have h0 : sameS d c = false := by simpa using h 0 (by simp)
    rw [if_neg (by rw [h0]; decide), remR_none (fun i hi => by simpa using h (i + 1) (by simpa using hi))]; rfl
theorem remR_some {c : List Int} : ∀ {og : List (List Int)} {k : Nat}, k < og.length → sameS (og.getD k []) c = true → (∀ i, i < k → sameS (og.getD i []) c = false) → remR og c = some (og.take k ++ og.drop (k + 1))
  | [], k, hk, _, _ => by simp at hk
  | d :: r, 0, _, h1, _ => by
    have h1 : sameS d c = true := by simpa using h1
    unfold remR
    rw [if_pos h1]; rfl
  | d :: r, k + 1, hk, h1, h2 => by
    have h0 : sameS d c = false := by simpa using h2 0 (by omega)
    unfold remR
    rw [if_neg (by rw [h0]; decide), remR_some (by simpa using hk) (by simpa using h1) (fun i hi => by simpa using h2 (i + 1) (by omega))]
    rfl
section
variable {S : RS} {l : List (List Int)} {gone : List Bool}
theorem Mir.seek (h : Mir S l gone) (c : List Int) : S.seek (normC c) = seekL l gone c := by
  rcases seekL_spec c l gone h.len with ⟨h1, h2⟩ | ⟨k, h1, h2, h3, h4⟩
  · rw [h1]
    exact seek_none fun j hj hh => h2 j (by rw [← h.size]; exact hj) ((h.hits (by rw [← h.size]; exact hj)).1 hh)
  · rw [h1]
    exact seek_some (by rw [h.size]; exact h2) ((h.hits h2).2 h3) fun j hj hh => h4 j hj ((h.hits (by omega)).1 hh)
theorem Mir.add (h : Mir S l gone) (hS : Set_ S S.cl.length) {c : List Int} (hc : Lit30s c) : Mir (S.add (normC c)) (l ++ [c]) (gone ++ [false]) := by
  obtain ⟨-, a2, a3⟩ := add_law hS (lits_normC hc) (nodup_normC c)
  refine ⟨by rw [a2, h.cl, List.map_append]; rfl, by rw [a3, h.on, List.map_append]; rfl, by simp [h.len], fun d hd => ?_⟩
  rcases List.mem_append.1 hd with hd | hd
  · exact h.li d hd
  · rw [List.mem_singleton.1 hd]; exact hc
theorem set_drop {S : RS} (hS : Set_ S S.cl.length) {id : Nat} (hid : id < S.cl.length) : Set_ (S.drop id) (S.drop id).cl.length ∧ (S.drop id).cl = S.cl ∧ (S.drop id).on = S.on.set id false := by
  obtain ⟨a1, a2, a3⟩ := drop_law hS hid
  exact ⟨by rw [a2]; exact a1, a2, a3⟩
theorem Mir.drop (h : Mir S l gone) (hS : Set_ S S.cl.length) {k : Nat} (hk : k < l.length) : Mir (S.drop k) l (gone.set k true) := by
  obtain ⟨-, a2, a3⟩ := set_drop hS (id := k) (by rw [h.size]; exact hk)
  exact ⟨by rw [a2, h.cl], by rw [a3, h.on, List.map_set]; rfl, by simp [h.len], h.li⟩
theorem Mir.zero : Mir RS0 [] [] := ⟨rfl, rfl, rfl, fun c hc => by simp at hc⟩
theorem Mir.live (h : Mir S l gone) : S.live.length = (thereL l gone).length := by
  unfold RS.live RS.onA
  rw [h.on]
  have key : ∀ (l : List (List Int)) (gone : List Bool), gone.length = l.length → ((List.range (gone.map fun b => !b).length).filter fun i => (gone.map fun b => !b).getD i false).length = (thereL l gone).length := by
    intro l gone
    induction gone generalizing l with
    | nil => intro h; cases l with
      | nil => rfl
      | cons => simp at h
    | cons g gs ih => cases l with
      | nil => intro h; simp at h
      | cons d l =>
        intro h
        have ih := ih l (by simpa using h)
        rw [List.map_cons, List.length_cons, List.range_succ_eq_map, List.filter_cons]
        have e : ((List.range (gs.map fun b => !b).length).map Nat.succ).filter (fun i => ((!g) :: gs.map fun b => !b).getD i false) = ((List.range (gs.map fun b => !b).length).filter fun i => (gs.map fun b => !b).getD i false).map Nat.succ := by
          rw [List.filter_map]; rfl
        rw [e]
        cases g with
        | true =>
          have e2 : thereL (d :: l) (true :: gs) = thereL l gs := rfl
          rw [e2, ← ih]; simp
        | false =>
          have e2 : thereL (d :: l) (false :: gs) = d :: thereL l gs := rfl
          rw [e2, List.length_cons, ← ih]; simp
  exact key l gone h.len
end
end Go.Proofs.Ytknpfopepedmmaa
/-
  Slices of slices of numbers whose elements lay there before; the document's remove, walked.
-/
namespace Go.Proofs.Ytknpfopepedmmaa
open Go Go.ChangeShapes Go.WideShapes Go.ChangeAt Go.RowKit
set_option linter.unusedVariables false
set_option linter.unusedSimpArgs false
/-- The values us read as the lists xss, in the world w0. -/
def EltT (w0 : World) (us : List Value) (xss : List (List Int)) : Prop := us.length = xss.length ∧ ∀ j, j < xss.length → Ints w0 (us.getD j undef) (xss.getD j [])
def OwnT (w0 w : World) (out : Value) (xss : List (List Int)) : Prop := ∃ us, Row w 28 1 out xss.length us ∧ (∀ g, out.ownBlock = some g → w0.heap.size ≤ g) ∧ EltT w0 us xss ∧ Below w0.heap.size w0 w
def IntsT (w0 w : World) (v : Value) (xss : List (List Int)) : Prop := ∃ A cap us, v = .slice A xss.length cap ∧ xss.length ≤ cap ∧ cap ≤ maxLen ∧ Src w A 1 xss.length us ∧ EltT w0 us xss ∧ Below w0.heap.size w0 w
theorem getD_append_l {α : Type} {a b : List α} {d : α} {j : Nat} (hj : j < a.length) : (a ++ b).getD j d = a.getD j d := by
  rw [List.getD_eq_getElem?_getD, List.getElem?_append_left hj, List.getD_eq_getElem?_getD]
theorem getD_append_r {α : Type} {a b : List α} {d : α} {j : Nat} (hj : a.length ≤ j) : (a ++ b).getD j d = b.getD (j - a.length) d := by
  rw [List.getD_eq_getElem?_getD, List.getElem?_append_right hj, List.getD_eq_getElem?_getD]
section
variable {w0 w : World} {us vs : List Value} {xss yss : List (List Int)} {v out : Value}
theorem EltT.app (h : EltT w0 us xss) (k : EltT w0 vs yss) : EltT w0 (us ++ vs) (xss ++ yss) := by
  refine ⟨by simp [h.1, k.1], fun j hj => ?_⟩
  rw [List.length_append] at hj
  by_cases hlt : j < xss.length
  · rw [getD_append_l (by rw [h.1]; exact hlt), getD_append_l hlt]; exact h.2 j hlt
  · rw [getD_append_r (by rw [h.1]; omega), getD_append_r (by omega), h.1]; exact k.2 _ (by omega)
theorem EltT.take (h : EltT w0 us xss) (k : Nat) : EltT w0 (us.take k) (xss.take k) := by
  refine ⟨by simp [h.1], fun j hj => ?_⟩
  rw [List.length_take] at hj
  rw [List.getD_eq_getElem?_getD, List.getElem?_take_of_lt (by omega), List.getD_eq_getElem?_getD, List.getElem?_take_of_lt (by omega), ← List.getD_eq_getElem?_getD, ← List.getD_eq_getElem?_getD]
  exact h.2 j (by omega)
theorem EltT.drop (h : EltT w0 us xss) (k : Nat) : EltT w0 (us.drop k) (xss.drop k) := by
  refine ⟨by simp [h.1], fun j hj => ?_⟩
  rw [List.length_drop] at hj
  rw [List.getD_eq_getElem?_getD, List.getElem?_drop, List.getD_eq_getElem?_getD, List.getElem?_drop, ← List.getD_eq_getElem?_getD, ← List.getD_eq_getElem?_getD]
  exact h.2 _ (by omega)
theorem EltT.one {u : Value} {c : List Int} (h : Ints w0 u c) : EltT w0 [u] [c] := ⟨rfl, fun j hj => by
  have : j = 0 := by simp at hj; omega
  subst this; exact h⟩
theorem EltT.cell (h : EltT w0 us xss) : ∀ u ∈ us, u.oneCell' = true := fun u hu => by
  obtain ⟨i, hi, e⟩ := List.getElem_of_mem hu
  have := h.2 i (by rw [← h.1]; exact hi)
  rw [List.getD_eq_getElem?_getD, List.getElem?_eq_getElem hi] at this
  obtain ⟨a, c, e2, -⟩ := this
  have e2 : us[i] = .slice a (xss.getD i []).length c := e2
  rw [← e, e2]; rfl
theorem IntsS.t (h : IntsS w v xss) : IntsT w w v xss := by
  obtain ⟨a, cap, rfl, h1, h2, h3⟩ := h
  rcases h3 with rfl | ⟨b, off, rfl, hc⟩
  · exact ⟨a, cap, [], rfl, h1, h2, Src.nil _ _ _, ⟨rfl, fun j hj => by simp at hj⟩, Below.refl _ _⟩
  · refine ⟨_, cap, (List.range xss.length).map fun j => (w.cell? ⟨b, off + j, none⟩).getD undef, rfl, h1, h2, ⟨by simp, fun _ => ⟨b, off, rfl, fun j u hu => ?_⟩⟩, ⟨by simp, fun j hj => ?_⟩, Below.refl _ _⟩
    · have hj : j < xss.length := by have := (List.getElem?_eq_some_iff.1 hu).1; simpa using this
      obtain ⟨u', hu', -⟩ := hc j hj
      rw [List.getElem?_map, List.getElem?_range hj] at hu
      simp only [Option.map_some, hu', Option.getD_some, Option.some.injEq] at hu
      rw [← hu]; exact hu'
    · obtain ⟨u', hu', hi⟩ := hc j hj
      rw [List.getD_eq_getElem?_getD, List.getElem?_map, List.getElem?_range hj]
      simp only [Option.map_some, hu', Option.getD_some]
      exact hi
theorem IntsT.below (h : IntsT w0 w v xss) {w' : World} (hb : Below w.heap.size w w') : IntsT w0 w' v xss := by
  obtain ⟨A, cap, us, e, h1, h2, h3, h4, h5⟩ := h
  exact ⟨A, cap, us, e, h1, h2, h3.below hb, h4, h5.trans (hb.mono h5.size)⟩
theorem IntsT.s (h : IntsT w0 w v xss) : IntsS w v xss := by
  obtain ⟨A, cap, us, e, h1, h2, h3, h4, h5⟩ := h
  refine ⟨A, cap, e, h1, h2, ?_⟩
  by_cases h0 : xss = []
  · exact .inl h0
  · have hp : 0 < xss.length := List.length_pos_iff.2 h0
    obtain ⟨b, off, rfl, hc⟩ := h3.2 hp
    refine .inr ⟨b, off, rfl, fun j hj => ⟨us.getD j undef, hc j _ ?_, (h4.2 j hj).below h5⟩⟩
    rw [List.getD_eq_getElem?_getD, List.getElem?_eq_getElem (by rw [h4.1]; exact hj)]; rfl
theorem OwnT.t (h : OwnT w0 w out xss) : IntsT w0 w out xss := by
  obtain ⟨us, h1, h2, h3, h4⟩ := h
  have hs : ∀ A c, out = .slice A xss.length c → Src w A 1 xss.length us := fun A c e => by rw [e] at h1; exact h1.src
  rcases h1.form with ⟨e, e0, -⟩ | ⟨g, cap, e, k1, k2, -⟩
  · exact ⟨none, 0, us, by rw [e, e0], by omega, by simp, hs none 0 (by rw [e, e0]), h3, h4⟩
  · exact ⟨_, cap, us, e, k1, k2, hs _ _ e, h3, h4⟩
theorem OwnT.below (h : OwnT w0 w out xss) {w' : World} (hb : Below w.heap.size w w') : OwnT w0 w' out xss := by
  obtain ⟨us, h1, h2, h3, h4⟩ := h
  exact ⟨us, h1.chg (S := fun _ => False) (Chg.of_below hb) (fun _ _ e => e), h2, h3, h4.trans (hb.mono h4.size)⟩
theorem OwnT.nil (w : World) (hb : Below w0.heap.size w0 w) : OwnT w0 w (.slice none 0 0) [] := ⟨[], World.ownsRow_nil _ _ _ _, fun g hg => by simp [Value.ownBlock] at hg, ⟨rfl, fun j hj => by simp at hj⟩, hb⟩
theorem OwnT.new {g : Nat} (h : w.heap[g]? = some (.cells #[] 28 (0, 0))) (hb : Below w0.heap.size w0 w) (hg : w0.heap.size ≤ g) : OwnT w0 w (.slice (some ⟨g, 0, none⟩) 0 0) [] :=
  ⟨[], ⟨rfl, .inr ⟨g, 0, #[], rfl, Nat.zero_le _, h, Nat.le_refl _, by decide, rfl, rfl⟩⟩, fun k hk => by simp [Value.ownBlock] at hk; omega, ⟨rfl, fun j hj => by simp at hj⟩, hb⟩
theorem OwnT.app {w' : World} {v' : Value} (hr : Row w 28 1 out xss.length us) (ho : ∀ g, out.ownBlock = some g → w0.heap.size ≤ g) (he : EltT w0 us xss) (hb : Below w0.heap.size w0 w) (hv : EltT w0 vs yss) (hp : AppPost w 28 1 out (xss.length + yss.length) (us ++ vs) v' w') : OwnT w0 w' v' (xss ++ yss) := by
  obtain ⟨p1, p2, p3⟩ := hp
  refine ⟨us ++ vs, by rw [List.length_append]; exact p1, fun g hg => ?_, he.app hv, hb.trans (p2.below hb.size (fun i hi => ho i hi))⟩
  rcases p3 with e | e
  · rw [e] at hg; exact ho g hg
  · rw [e] at hg; simp at hg; have := hb.size; omega
theorem step_T {ops : Array Oper} {o : Oper} {a : Act} {K : Act → World → Prop} {Q : Exit → Act → World → Prop} {E : Prop} (hgd : o.guard = none) (s x : Operand)
    (ho : o.op = .call { callee := .builtin .append, args := #[s, x], argTypes := #[26, 26] })
    (v : Value) (xss : List (List Int)) (hs : a.eval s = v) (A : Option Addr) (m c : Nat) (vs : List Value) (yss : List (List Int)) (hx : a.eval x = .slice A m c) (hm : yss.length = m) (hl : xss.length + m ≤ 1000000000)
    (hown : OwnT w0 w v xss) (hsrc : Src w A 1 m vs) (hv : EltT w0 vs yss)
    (h : ∀ v' w', OwnT w0 w' v' (xss ++ yss) → Chg (fun k => v.ownBlock = some k) w w' → K (a.put o.dst v') w') :
    if Region.wanted o (yielded ops a.tmps) = true then Oper.wp Try.prog o a w K Q else E := by
  subst hm
  obtain ⟨us, h1, h2, h3, h4⟩ := hown
  exact step_appS hgd s x 26 ho 28 (.slice none 0 0) 1 24 Try.underlying26 infoL rfl (by decide) v xss.length us hs h1 A _ c vs hx hsrc hv.cell (by unfold maxLen; omega) (by omega)
    fun v' w' hp => h v' w' (OwnT.app h1 h2 h3 h4 hv hp) hp.2.1
theorem wpList_T {ops : Array Oper} {rest : List Oper} {o : Oper} {a : Act} {Q : Exit → Act → World → Prop} (hgd : o.guard = none) (s x : Operand)
    (ho : o.op = .call { callee := .builtin .append, args := #[s, x], argTypes := #[26, 26] })
    (v : Value) (xss : List (List Int)) (hs : a.eval s = v) (A : Option Addr) (m c : Nat) (vs : List Value) (yss : List (List Int)) (hx : a.eval x = .slice A m c) (hm : yss.length = m) (hl : xss.length + m ≤ 1000000000)
    (hown : OwnT w0 w v xss) (hsrc : Src w A 1 m vs) (hv : EltT w0 vs yss)
    (h : ∀ v' w', OwnT w0 w' v' (xss ++ yss) → wpList Try.prog ops Q rest (a.put o.dst v') w') : wpList Try.prog ops Q (o :: rest) a w := by
  subst hm
  obtain ⟨us, h1, h2, h3, h4⟩ := hown
  exact wpList_appS hgd s x 26 ho 28 (.slice none 0 0) 1 24 Try.underlying26 infoL rfl (by decide) v xss.length us hs h1 A _ c vs hx hsrc hv.cell (by unfold maxLen; omega) (by omega)
    fun v' w' hp => h v' w' (OwnT.app h1 h2 h3 h4 hv hp)
end
end Go.Proofs.Ytknpfopepedmmaa
/-
  The document's remove, walked.
-/
namespace Go.Proofs.Ytknpfopepedmmaa
open Go Go.ChangeShapes Go.WideShapes Go.ChangeAt Go.RowKit
set_option linter.unusedVariables false
set_option linter.unusedSimpArgs false
set_option maxRecDepth 100000 in
theorem cut_ (al : Option Addr) (N cl s : Nat) (hs : s ≤ N) (W : World) : (Instr.sliceAt 26 (.slice al N cl) (some (.int .i64 (s : Nat))) none none).run Try.prog W = .ok (.slice (dropA al cl s) (N - s) (cl - s)) W := by
  have hsN : (s : Int) ≤ (N : Int) := by omega
  rw [run_sliceAt_slice (P := Try.prog) W 26 _ _ _ _ Try.underlying26]
  have h1 : (0 : Int) ≤ (s : Int) := by omega
  rw [run_slice_l (P := Try.prog) W 26 al N cl Try.underlying26 .i64 (s : Int) h1 hsN]
  have hsz : ((sizeOf (Try.prog.elem 26)).run Try.prog W) = .ok 1 W := by kernel_rfl
  rw [hsz]
  simp only [Result.andThen, sliced, Nat.mul_one, Int.toNat_natCast]
  rfl
set_option maxRecDepth 100000 in
theorem cutB_ (al : Option Addr) (N cl s : Nat) (hs : s ≤ N) (W : World) : (Instr.slice 26 (.slice al N cl) (some (.int .i64 (s : Nat))) none none).run Try.prog W = .ok (.slice (dropA al cl s) (N - s) (cl - s)) W := by
  rw [← run_sliceAt_slice (P := Try.prog) W 26 _ _ _ _ Try.underlying26]
  exact cut_ al N cl s hs W
def RemQ (w0 w : World) (og : List (List Int)) (c : List Int) (v : Value) (e : Ending) (w' : World) : Prop :=
  ∃ v' b, e = .returned (.tuple #[v', .bool b]) ∧ Below w0.heap.size w0 w' ∧ match remR og c with
    | none => b = false ∧ v' = v ∧ w' = w
    | some og' => b = true ∧ OwnT w0 w' v' og'
set_option maxHeartbeats 4000000 in
set_option maxRecDepth 100000 in
theorem r24_remove {w0 w : World} {v u : Value} {og : List (List Int)} {c : List Int} (h : IntsT w0 w v og) (hlen : og.length ≤ 1000000) (hu : Ints w u c) :
    Calls Try.prog 76 #[v, u] w (RemQ w0 w og c v) := by
  obtain ⟨A, cap, us, hve, hc1, hc2, hsrc, helt, hbw⟩ := h
  have hS : IntsS w v og := IntsT.s ⟨A, cap, us, hve, hc1, hc2, hsrc, helt, hbw⟩
  obtain ⟨n, hn⟩ : ∃ n, n = og.length := ⟨_, rfl⟩
  rw [← hn] at hve hc1 hlen hsrc
  obtain ⟨ua, uc, hue, -, -⟩ := hu.form2
  obtain ⟨m, hm⟩ : ∃ m, m = c.length := ⟨_, rfl⟩
  rw [← hm] at hue
  subst hve
  have HS := Lib.hid hS
  have HN := Lib.hid hn
  have HU := Lib.hid hu
  have HSRC := Lib.hid hsrc
  have HELT := Lib.hid helt
  have HBW := Lib.hid hbw
  subst hue
  clear hS hn hu hsrc helt hbw hm hc2
  go_enter Try.func76, Try.ntmps76
  go_wp2
  go_loopw [6] (fun i wr => ∃ k : Nat, k ≤ n ∧ i = .int .i64 (k : Nat) ∧ (∀ j, j < k → sameS (og.getD j []) c = false) ∧ wr = w) (fun i _ => n - (intOf i).toNat)
  case atStart => exact ⟨0, Nat.zero_le _, rfl, fun _ h => absurd h (by omega), rfl⟩
  case round =>
    obtain ⟨k, hk, rfl, hrel, rfl⟩ := hrel
    have HR := Lib.hid hrel
    clear hrel
    by_cases hlt : (k : Int) < (n : Int)
    · have hkn : k < og.length := by have := HN.out; omega
      obtain ⟨b, off, cap2, e, hv, q0, he⟩ := HS.out.at_ hkn
      injection hv with e1 e2 e3
      subst e1
      have HSM := Lib.hid (r17_Same he HU.out)
      obtain ⟨ea, ec, hee, -, -⟩ := he.form2
      generalize (og.getD k []).length = el at hee
      subst hee
      obtain ⟨sb, hsb⟩ : ∃ sb, sb = sameS (og.getD k []) c := ⟨_, rfl⟩
      rw [← hsb] at HSM
      have HSB := Lib.hid hsb
      have HKN := Lib.hid hkn
      obtain ⟨mm, hmm⟩ : ∃ mm, mm = c.length := ⟨_, rfl⟩
      clear e2 e3 he hsb hkn hmm
      cases sb with
      | false =>
        have HG : Hid (∀ j, j < k + 1 → sameS (og.getD j []) c = false) := Lib.hid fun j hj => by
          by_cases e : j = k
          · rw [e]; exact HSB.out.symm
          · exact HR.out j (by omega)
        go_wp2_with fail
        refine HSM.out.mono ?_
        rintro e w2 ⟨rfl, rfl⟩
        go_wp2
        go_roundw
        case rel => exact ⟨k + 1, by omega, by go_num, HG.out, by first | rfl | trivial⟩
        case measure => simp [intOf]; omega
      | true =>
        have HF : Hid (remR og c = some (og.take k ++ og.drop (k + 1))) := Lib.hid (remR_some HKN.out HSB.out.symm HR.out)
        have h10 : IntKind.i64.wrap ((k : Int) + 1) = ((k + 1 : Nat) : Int) := by rw [IntWalk.i64_in _ (by omega)]; omega
        obtain ⟨s, hs⟩ : ∃ s, s = k + 1 := ⟨_, rfl⟩
        rw [← hs] at h10
        have HS1 := Lib.hid hs
        have hsn : s ≤ n := by omega
        have hcutA := cut_ (some ⟨b, off, none⟩) n cap s hsn
        have hcutB := cutB_ (some ⟨b, off, none⟩) n cap s hsn
        have HJ : Hid ((og.take k).length = k) := Lib.hid (by rw [List.length_take]; have := HN.out; omega)
        have HD : Hid ((og.drop s).length = n - s) := Lib.hid (by rw [List.length_drop, HN.out])
        have HE1 : Hid (EltT w0 (us.take k) (og.take k)) := Lib.hid (HELT.out.take k)
        have HE2 : Hid (EltT w0 (us.drop s) (og.drop s)) := Lib.hid (HELT.out.drop s)
        have S1 : Hid (∀ (W : World), Below wr.heap.size wr W → Src W (some ⟨b, off, none⟩) 1 k (us.take k)) := Lib.hid fun W hW => (HSRC.out.take (by omega)).below hW
        have S3 : Hid (∀ (W : World), Below wr.heap.size wr W → Src W (dropA (some ⟨b, off, none⟩) cap s) 1 (n - s) (us.drop s)) := Lib.hid fun W hW => (HSRC.out.drop hsn (fun h => by unfold dropA; rw [if_neg (by omega)])).below hW
        have b1 : (k : Int) ≤ (cap : Int) := by omega
        have HW0 : Hid (∀ W, Below wr.heap.size wr W → Below w0.heap.size w0 W) := Lib.hid fun W hW => HBW.out.trans (hW.mono HBW.out.size)
        clear hs hsn
        go_wp2_with fail
        refine HSM.out.mono ?_
        rintro e w2 ⟨rfl, rfl⟩
        go_wp2
        go_region_held3 (fun w' => True) (go_keep) (first
          | (refine step_T (w0 := w0) rfl (.tmp 19) (.tmp 22) rfl (.slice (some ⟨wr.heap.size, 0, none⟩) 0 0) [] (by simp [Act.eval]) (some ⟨b, off, none⟩) k cap (us.take k) (og.take k) (by simp [Act.eval]) HJ.out ?_ ?_ ?_ ?_ ?_; (rw [List.length_nil]; omega); (exact OwnT.new (heap_new1 (wr.drewN _) _) (HW0.out _ (below_d1 _ _ _)) HBW.out.size); (exact S1.out _ (below_d1 _ _ _)); (exact HE1.out); intro v1 w1 h1 hc1; have H1 := Lib.hid h1; have KB1 := Lib.hid (Below.trans (by first | exact ((Below.refl wr.heap.size wr).alloc (Nat.le_refl _) _).drew | exact below_d1 _ _ _ | exact (Below.refl wr.heap.size wr).alloc (Nat.le_refl _) _) (hc1.below (B := wr.heap.size) (by simp) (fun i hi => by simp [Value.ownBlock] at hi; omega))); clear h1 hc1)
          | (refine step_T (w0 := w0) rfl (.tmp 23) (.tmp 27) rfl v1 (og.take k) (by simp [Act.eval]) (dropA (some ⟨b, off, none⟩) cap s) (n - s) (cap - s) (us.drop s) (og.drop s) (by simp [Act.eval]) HD.out ?_ ?_ ?_ ?_ ?_; (rw [HJ.out]; omega); (exact H1.out); (exact S3.out _ KB1.out); (exact HE2.out); intro v2 w2 h2 hc2; have H2 := Lib.hid h2; clear h2 hc2))
        have HQ : Hid (RemQ w0 wr og c (.slice (some ⟨b, off, none⟩) n cap) (.returned (.tuple #[v2, .bool true])) w2) := Lib.hid (by
          have h2 := H2.out
          refine ⟨v2, true, rfl, ?_, ?_⟩
          · obtain ⟨-, -, -, -, hb⟩ := h2; exact hb
          · rw [HF.out, ← HS1.out]; exact ⟨rfl, h2⟩)
        go_wp2
        go_ret2
        exact HQ.out
    · have HF : Hid (remR og c = none) := Lib.hid (remR_none (fun i hi => HR.out i (by have := HN.out; omega)))
      have HQ : Hid (RemQ w0 wr og c (.slice A n cap) (.returned (.tuple #[.slice A n cap, .bool false])) wr) := Lib.hid ⟨_, false, rfl, HBW.out, by rw [HF.out]; exact ⟨rfl, rfl, rfl⟩⟩
      go_wp2
      go_ret2
      exact HQ.out
end Go.Proofs.Ytknpfopepedmmaa
/-
  The document's Steps and Check of proofs, walked.
-/
namespace Go.Proofs.Ytknpfopepedmmaa
open Go Go.ChangeShapes Go.WideShapes Go.ChangeAt Go.RowKit
set_option linter.unusedVariables false
set_option linter.unusedSimpArgs false
abbrev Stp := Bool × List Int
/-- The slice v reads as the steps xs. -/
def StpS (w : World) (v : Value) (xs : List Stp) : Prop :=
  ∃ a cap, v = .slice a xs.length cap ∧ xs.length ≤ cap ∧ cap ≤ maxLen ∧ (xs = [] ∨ ∃ b off, a = some ⟨b, off, none⟩ ∧ ∀ j, j < xs.length → w.cell? ⟨b, off + j * 2, none⟩ = some (.bool (xs.getD j (false, [])).1) ∧ ∃ u, w.cell? ⟨b, off + j * 2 + 1, none⟩ = some u ∧ Ints w u (xs.getD j (false, [])).2)
theorem StpS.below {w w' : World} {v : Value} {xs : List Stp} (h : StpS w v xs) (hb : Below w.heap.size w w') : StpS w' v xs := by
  obtain ⟨a, cap, rfl, h1, h2, h3⟩ := h
  refine ⟨a, cap, rfl, h1, h2, ?_⟩
  rcases h3 with h3 | ⟨b, off, rfl, hc⟩
  · exact .inl h3
  · refine .inr ⟨b, off, rfl, fun j hj => ?_⟩
    obtain ⟨h0, u, hu, hi⟩ := hc j hj
    exact ⟨cellB h0 hb, u, cellB hu hb, hi.below hb⟩
theorem StpS.form {w : World} {v : Value} {xs : List Stp} (h : StpS w v xs) : ∃ a cap, v = .slice a xs.length cap ∧ xs.length ≤ cap ∧ cap ≤ maxLen := by
  obtain ⟨a, cap, e, h1, h2, -⟩ := h
  exact ⟨a, cap, e, h1, h2⟩
theorem StpS.at_ {w : World} {v : Value} {xs : List Stp} (h : StpS w v xs) {j : Nat} (hj : j < xs.length) : ∃ b off cap u, v = .slice (some ⟨b, off, none⟩) xs.length cap ∧ w.cell? ⟨b, off + j * 2, none⟩ = some (.bool (xs.getD j (false, [])).1) ∧ w.cell? ⟨b, off + j * 2 + 1, none⟩ = some u ∧ Ints w u (xs.getD j (false, [])).2 := by
  obtain ⟨a, cap, rfl, -, -, h3⟩ := h
  obtain ⟨b, off, rfl, hc⟩ := h3.resolve_left (fun e => by rw [e] at hj; simp at hj)
  obtain ⟨h0, u, hu, hi⟩ := hc j hj
  exact ⟨b, off, cap, u, rfl, h0, hu, hi⟩
theorem remR_mem {c : List Int} : ∀ {og og' : List (List Int)}, remR og c = some og' → (∀ d ∈ og', d ∈ og) ∧ og'.length ≤ og.length
  | [], og', h => by cases h
  | d :: r, og', h => by
    unfold remR at h
    split at h
    · injection h with h
      subst h
      exact ⟨fun x hx => List.mem_cons_of_mem _ hx, by simp⟩
    · cases hr : remR r c with
      | none => rw [hr] at h; cases h
      | some q =>
        rw [hr] at h
        injection h with h
        subst h
        obtain ⟨a1, a2⟩ := remR_mem hr
        refine ⟨fun x hx => ?_, by simp; omega⟩
        rcases List.mem_cons.1 hx with e | hx
        · rw [e]; exact List.mem_cons_self
        · exact List.mem_cons_of_mem _ (a1 x hx)
open Classical in
/-- The clauses behind steps, and where they do not hold. -/
noncomputable def stepsD : List (List Int) → List Stp → Nat → List (List Int) × Int
  | og, [], _ => (og, -1)
  | og, x :: r, i => if x.1 = true then (match remR og x.2 with | none => (og, (i : Int)) | some og' => stepsD og' r (i + 1)) else if OpenN og x.2 then (og, (i : Int)) else stepsD (og ++ [x.2]) r (i + 1)
theorem stepsD_t (og : List (List Int)) (c : List Int) (r : List Stp) (i : Nat) : stepsD og ((true, c) :: r) i = match remR og c with | none => (og, (i : Int)) | some og' => stepsD og' r (i + 1) := by rw [stepsD]; rfl
theorem stepsD_no {og : List (List Int)} {c : List Int} (h : OpenN og c) (r : List Stp) (i : Nat) : stepsD og ((false, c) :: r) i = (og, (i : Int)) := by
  rw [stepsD, if_neg (fun h => Bool.noConfusion h), if_pos h]
theorem stepsD_yes {og : List (List Int)} {c : List Int} (h : ¬ OpenN og c) (r : List Stp) (i : Nat) : stepsD og ((false, c) :: r) i = stepsD (og ++ [c]) r (i + 1) := by
  rw [stepsD, if_neg (fun h => Bool.noConfusion h), if_neg h]
open Classical in
noncomputable def chkD (og : List (List Int)) (xs : List Stp) (goal : List Int) : Int :=
  if 0 ≤ (stepsD og xs 0).2 then (stepsD og xs 0).2 else if OpenN (stepsD og xs 0).1 goal then (xs.length : Int) else -1
def okX (x : Stp) : Prop := Lit30s x.2 ∧ x.2.length ≤ 1000000
def StepQ (w : World) (og : List (List Int)) (xs : List Stp) (e : Ending) (w' : World) : Prop :=
  ∃ v', e = .returned (.tuple #[v', .int .i64 (stepsD og xs 0).2]) ∧ OwnT w w' v' (stepsD og xs 0).1
theorem stepsD_lits {og : List (List Int)} {xs : List Stp} (ho : ∀ d ∈ og, Lit30s d) (hx : ∀ x ∈ xs, okX x) : ∀ i, (∀ d ∈ (stepsD og xs i).1, Lit30s d) ∧ (stepsD og xs i).1.length ≤ og.length + xs.length := by
  induction xs generalizing og with
  | nil => intro i; exact ⟨ho, Nat.le_refl _⟩
  | cons x r ih =>
    intro i
    have hr : ∀ y ∈ r, okX y := fun y hy => hx y (List.mem_cons_of_mem _ hy)
    unfold stepsD
    split
    · cases hm : remR og x.2 with
      | none => exact ⟨ho, by simp⟩
      | some q =>
        obtain ⟨a1, a2⟩ := remR_mem hm
        obtain ⟨b1, b2⟩ := ih (og := q) (fun d hd => ho d (a1 d hd)) hr (i + 1)
        exact ⟨b1, by simp; omega⟩
    · split
      · exact ⟨ho, by simp⟩
      · obtain ⟨b1, b2⟩ := ih (og := og ++ [x.2]) (fun d hd => by
          rcases List.mem_append.1 hd with hd | hd
          · exact ho d hd
          · rw [List.mem_singleton.1 hd]; exact (hx x List.mem_cons_self).1) hr (i + 1)
        exact ⟨b1, by simp at b2 ⊢; omega⟩
set_option maxHeartbeats 4000000 in
set_option maxRecDepth 100000 in
theorem r24_Steps {w : World} {v s : Value} {og : List (List Int)} {xs : List Stp} (h : IntsS w v og) (hs : StpS w s xs) (ho : ∀ d ∈ og, Lit30s d) (hx : ∀ x ∈ xs, okX x) (hl : og.length ≤ 1000) (hl2 : xs.length ≤ 1000) :
    Calls Try.prog 55 #[v, s] w (StepQ w og xs) := by
  obtain ⟨A, cap, us, hve, hc1, hc2, hsrc, helt, hbw⟩ := h.t
  obtain ⟨m, hm⟩ : ∃ m, m = og.length := ⟨_, rfl⟩
  rw [← hm] at hve hc1 hsrc
  obtain ⟨sa, sc, hse, -, -⟩ := hs.form
  obtain ⟨n, hn⟩ : ∃ n, n = xs.length := ⟨_, rfl⟩
  rw [← hn] at hse
  subst hve hse
  have HS := Lib.hid hs
  have HN := Lib.hid hn
  have HM := Lib.hid hm
  have HO := Lib.hid ho
  have HX := Lib.hid hx
  have HL := Lib.hid hl
  have hn9 : n ≤ 1000 := by omega
  have hm9 : m ≤ 1000 := by omega
  have HELT := Lib.hid helt
  have HSRC := Lib.hid (hsrc.below (below_new1 w (.cells #[] 28)))
  have HNEW : Hid (OwnT w (w.alloc (.cells #[] 28)) (.slice (some ⟨w.heap.size, 0, none⟩) 0 0) []) := Lib.hid (OwnT.new (heap_new1 w _) (below_new1 w _) (Nat.le_refl _))
  obtain ⟨ans, hans⟩ : ∃ ans, ans = stepsD og xs 0 := ⟨_, rfl⟩
  have HA := Lib.hid hans
  have HQ0 : Hid (∀ e w', StepQ w og xs e w' ↔ ∃ v', e = .returned (.tuple #[v', .int .i64 ans.2]) ∧ OwnT w w' v' ans.1) := Lib.hid fun e w' => by rw [hans]; exact Iff.rfl
  clear h hs hn hm ho hx hl hl2 hsrc helt hbw hc1 hc2 hans
  refine Calls.mono (R := fun e w' => ∃ v', e = .returned (.tuple #[v', .int .i64 ans.2]) ∧ OwnT w w' v' ans.1) ?_ (fun e w' h => (HQ0.out e w').2 h)
  go_enter Try.func55, Try.ntmps55
  go_wp2_with (at_builtin; refine wpList_T (w0 := w) rfl _ _ rfl _ [] rfl A m cap us og rfl HM.out.symm (by simp; omega) HNEW.out HSRC.out HELT.out ?_; intro v3 w3 h3; have H3 := Lib.hid h3; clear h3)
  go_loopw [6, 7] (fun now i wr => ∃ k : Nat, k ≤ n ∧ i = .int .i64 (k : Nat) ∧ ∃ og1, OwnT w wr now og1 ∧ stepsD og1 (xs.drop k) k = ans ∧ og1.length ≤ 1000 + k ∧ ∀ d ∈ og1, Lit30s d) (fun _ i _ => n - (intOf i).toNat)
  case atStart => exact ⟨0, Nat.zero_le _, rfl, og, by have := H3.out; rwa [List.nil_append] at this, HA.out.symm, by have := HL.out; omega, HO.out⟩
  case round =>
    obtain ⟨k, hk, rfl, og1, hO, hst, hlen, hlit⟩ := hrel
    have HO1 := Lib.hid hO
    have HLEN := Lib.hid hlen
    have HLIT := Lib.hid hlit
    have hbw : Below w.heap.size w wr := by obtain ⟨-, -, -, -, hb⟩ := hO; exact hb
    by_cases hlt : (k : Int) < (n : Int)
    · have hkn : k < xs.length := by have := HN.out; omega
      obtain ⟨b, off, cap2, u, hv, q0, q1, hu⟩ := HS.out.at_ hkn
      injection hv with e1 e2 e3
      subst e1
      have q0 := cellB q0 hbw
      have q1 := cellB q1 hbw
      obtain ⟨x, hx⟩ : ∃ x, x = xs.getD k (false, []) := ⟨_, rfl⟩
      rw [← hx] at q0 hu
      have hd : xs.drop k = x :: xs.drop (k + 1) := by rw [List.drop_eq_getElem_cons hkn, hx, List.getD_eq_getElem?_getD, List.getElem?_eq_getElem hkn]; rfl
      have hokx : okX x := HX.out x (by rw [hx, List.getD_eq_getElem?_getD, List.getElem?_eq_getElem hkn]; exact List.getElem_mem hkn)
      rw [hd] at hst
      obtain ⟨g, c⟩ := x
      have hu : Ints w u c := hu
      have q0 : wr.cell? ⟨b, off + k * 2, none⟩ = some (.bool g) := q0
      have hst : stepsD og1 ((g, c) :: xs.drop (k + 1)) k = ans := hst
      have hokx : Lit30s c ∧ c.length ≤ 1000000 := hokx
      have HU := Lib.hid hu
      have HOK := Lib.hid hokx
      obtain ⟨ua, uc, hue, -, -⟩ := hu.form2
      obtain ⟨cn, hcn⟩ : ∃ cn, cn = c.length := ⟨_, rfl⟩
      rw [← hcn] at hue
      subst hue
      obtain ⟨na, nc, nus, hne, -, -, -⟩ := hO.t
      obtain ⟨ol, hol⟩ : ∃ ol, ol = og1.length := ⟨_, rfl⟩
      rw [← hol] at hne
      subst hne
      have HOL := Lib.hid hol
      clear e2 e3 hO hx hd hokx hu hcn hol hlen hlit hkn
      cases g with
      | true =>
        rw [stepsD_t] at hst
        have HST := Lib.hid hst
        have HRM := Lib.hid (r24_remove HO1.out.t (by have := HLEN.out; omega) (HU.out.below hbw))
        clear hst hbw
        go_wp2_with fail
        refine HRM.out.mono ?_
        rintro e w4 ⟨v', bb, rfl, hb4, hm4⟩
        cases hrr : remR og1 c with
        | none =>
          rw [hrr] at hm4
          obtain ⟨rfl, rfl, rfl⟩ := hm4
          have h9 := HST.out
          rw [hrr] at h9
          have h9 : (og1, (k : Int)) = ans := h9
          have HF : Hid (ans.2 = (k : Int) ∧ OwnT w w4 (.slice na ol nc) ans.1) := Lib.hid (by
            rw [← h9]
            exact ⟨rfl, HO1.out⟩)
          clear hrr h9 hb4
          go_wp2
          go_ret2
          exact ⟨_, by rw [HF.out.1]; rfl, HF.out.2⟩
        | some og2 =>
          rw [hrr] at hm4
          obtain ⟨rfl, hO4⟩ := hm4
          have HST2 : Hid (stepsD og2 (xs.drop (k + 1)) (k + 1) = ans) := Lib.hid (by have h9 := HST.out; rw [hrr] at h9; exact h9)
          have hmm := remR_mem hrr
          have HF : Hid (og2.length ≤ 1000 + (k + 1) ∧ ∀ d ∈ og2, Lit30s d) := Lib.hid ⟨by have := HLEN.out; omega, fun d hd => HLIT.out d (hmm.1 d hd)⟩
          have HO4 := Lib.hid hO4
          clear hrr hO4 hmm hb4
          go_wp2
          go_roundw
          case rel => exact ⟨k + 1, by omega, by go_num, og2, HO4.out, HST2.out, HF.out⟩
          case measure => simp [intOf]; omega
      | false =>
        have HIM := Lib.hid (r23_Implied HO1.out.t.s HLIT.out (by have := HLEN.out; omega) (HU.out.below hbw) HOK.out.1 HOK.out.2)
        have HST := Lib.hid hst
        clear hst hbw
        go_wp2_with fail
        refine HIM.out.mono ?_
        rintro e w4 ⟨bb, rfl, hbb, hb4⟩
        cases bb with
        | false =>
          have hop : OpenN og1 c := Classical.byContradiction fun hn => by have := hbb.2 hn; cases this
          have HF : Hid (ans.2 = (k : Int) ∧ OwnT w w4 (.slice na ol nc) ans.1) := Lib.hid (by
            have h9 := HST.out
            rw [stepsD_no hop] at h9
            rw [← h9]
            exact ⟨rfl, HO1.out.below hb4⟩)
          clear hbb hop hb4
          go_wp2
          go_ret2
          exact ⟨_, by rw [HF.out.1]; rfl, HF.out.2⟩
        | true =>
          have hop : ¬ OpenN og1 c := hbb.1 rfl
          have HST2 : Hid (stepsD (og1 ++ [c]) (xs.drop (k + 1)) (k + 1) = ans) := Lib.hid (by
            have h9 := HST.out
            rw [stepsD_yes hop] at h9
            exact h9)
          have HF : Hid ((og1 ++ [c]).length ≤ 1000 + (k + 1) ∧ ∀ d ∈ og1 ++ [c], Lit30s d) := Lib.hid ⟨by simp; have := HLEN.out; omega, fun d hd => by
            rcases List.mem_append.1 hd with hd | hd
            · exact HLIT.out d hd
            · rw [List.mem_singleton.1 hd]; exact HOK.out.1⟩
          have HO4 := Lib.hid ((HO1.out.below hb4).below (below_new1 w4 (.cells #[.slice ua cn uc] 28)))
          have hol9 : ol ≤ 3000 := by have := HLEN.out; have := HOL.out; omega
          clear hbb hop hb4
          go_wp2_with (at_builtin; refine wpList_T (w0 := w) rfl _ _ rfl _ og1 rfl (some ⟨w4.heap.size, 0, none⟩) 1 1 [.slice ua cn uc] [c] rfl rfl (by have := HOL.out; omega) HO4.out (Src.one (heap_new1 _ _)) (EltT.one HU.out) ?_; intro v5 w5 h5; have H5 := Lib.hid h5; clear h5)
          go_roundw
          case rel => exact ⟨k + 1, by omega, by go_num, og1 ++ [c], H5.out, HST2.out, HF.out⟩
          case measure => simp [intOf]; omega
    · have HF : Hid (ans.2 = -1 ∧ OwnT w wr u6 ans.1) := Lib.hid (by
        have hkn : xs.length ≤ k := by have := HN.out; omega
        rw [List.drop_eq_nil_of_le hkn] at hst
        have hst : (og1, (-1 : Int)) = ans := hst
        rw [← hst]
        exact ⟨rfl, hO⟩)
      clear hO hst hlen hlit hbw
      go_wp2
      go_ret2
      exact ⟨_, by rw [HF.out.1]; rfl, HF.out.2⟩
end Go.Proofs.Ytknpfopepedmmaa
/-
  A checker of the caller's own beside blocks that stay; the document's Check of chapter 25, walked.
-/
namespace Go.Proofs.Ytknpfopepedmmaa
open Go Go.ChangeShapes Go.WideShapes Go.ChangeAt Go.RowKit Go.Maps
set_option linter.unusedVariables false
set_option linter.unusedSimpArgs false
/-- A checker that the caller has made; the blocks X are none of its. -/
structure OwnX (w wr : World) (r : Nat) (S : RS) (X : Nat → Prop) : Prop where
  at_ : CkAt wr r S (fun g => w.heap.size ≤ g ∧ ¬ X g)
  b : Below w.heap.size w wr
  set : Set_ S S.cl.length
theorem CkAt.small {w : World} {r : Nat} {S : RS} {K : Nat → Prop} (h : CkAt w r S K) : CkAt w r S (fun g => K g ∧ g < w.heap.size) := by
  obtain ⟨vl, vt, bt, bo, bm, nt, no, nm, us, ho, h1, h2, h3⟩ := h
  exact ⟨vl, vt, bt, bo, bm, nt, no, nm, us, ho, h1, fun g hg => ⟨h2 g hg, h1.ksLt g hg⟩, h3.1, h3.2.1, fun u hu g hg => ⟨h3.2.2 u hu g hg, h1.usLt u hu g hg⟩⟩
section
variable {w wr : World} {r : Nat} {S : RS} {X : Nat → Prop}
theorem OwnX.below (h : OwnX w wr r S X) {w2 : World} (hb : Below wr.heap.size wr w2) : OwnX w w2 r S X := ⟨h.at_.below hb, h.b.trans (hb.mono h.b.size), h.set⟩
theorem OwnX.weak (h : OwnX w wr r S X) {Y : Nat → Prop} (hY : ∀ g, Y g → X g) : OwnX w wr r S Y := ⟨h.at_.mono (fun g hg => ⟨hg.1, fun hy => hg.2 (hY g hy)⟩), h.b, h.set⟩
theorem OwnX.fresh (h : OwnX w wr r S X) {Y : Nat → Prop} (hY : ∀ g, Y g → X g ∨ wr.heap.size ≤ g) : OwnX w wr r S Y :=
  ⟨h.at_.small.mono (fun g hg => ⟨hg.1.1, fun hy => by
    rcases hY g hy with e | e
    · exact hg.1.2 e
    · have := hg.2; omega⟩), h.b, h.set⟩
theorem ownX_new (w : World) : Calls Try.prog 12 #[] w fun e w' => ∃ r, e = .returned (kp r) ∧ OwnX w w' r RS0 (fun _ => False) :=
  (rupNew_ w).mono fun e w' ⟨r, he, hb, hk⟩ => ⟨r, he, hk.mono (fun g hg => ⟨hg, fun e => e⟩), hb, set0⟩
theorem stepK (hX : ∀ g, X g → g < wr.heap.size) (hb : Below w.heap.size w wr) : ∀ g, ((w.heap.size ≤ g ∧ ¬ X g) ∨ wr.heap.size ≤ g) → w.heap.size ≤ g ∧ ¬ X g := fun g hg => by
  rcases hg with e | e
  · exact e
  · exact ⟨Nat.le_trans hb.size e, fun hx => by have := hX g hx; omega⟩
theorem OwnX.add (h : OwnX w wr r S X) (hX : ∀ g, X g → g < wr.heap.size) (hcl : S.cl.length ≤ 99999) {u : Value} {c : List Int} (hu : Ints wr u c) (hc : Lit30s c) (hl : c.length ≤ 1000000) :
    Calls Try.prog 14 #[kp r, u] wr fun e w' => e = .returned (.int .i64 (S.cl.length : Nat)) ∧ OwnX w w' r (S.add (normC c)) X ∧ Chg (fun g => w.heap.size ≤ g ∧ ¬ X g) wr w' := by
  refine (add_ h.at_ h.set hcl hu hc.clauseL hc hl).mono ?_
  rintro e w' ⟨rfl, hch, hk⟩
  have hlaw := add_law h.set (lits_normC hc) (nodup_normC c)
  refine ⟨rfl, ⟨hk.mono (stepK hX h.b), h.b.trans (hch.below h.b.size (fun i hi => hi.1)), ?_⟩, hch⟩
  rw [hlaw.2.1, List.length_append, List.length_singleton]; exact hlaw.1
theorem set_rem {S : RS} (hS : Set_ S S.cl.length) (n : List Int) : Set_ (S.rem n) (S.rem n).cl.length ∧ (S.rem n).cl = S.cl := by
  cases hs : S.seek n with
  | none => rw [(seekI_none hs).2.2]; exact ⟨hS, rfl⟩
  | some k =>
    rw [(seekI_some hs).2.2]
    obtain ⟨a1, a2, -⟩ := set_drop hS (seek_spec hs).1
    exact ⟨a1, a2⟩
theorem OwnX.rem (h : OwnX w wr r S X) (hX : ∀ g, X g → g < wr.heap.size) (hcl : S.cl.length ≤ 1000000) {u : Value} {c : List Int} (hu : Ints wr u c) (hc : Lit30s c) (hl : c.length ≤ 1000000) :
    Calls Try.prog 15 #[kp r, u] wr fun e w' => e = .returned (.tuple #[.int .i64 (seekI S (normC c)), .bool (S.seek (normC c)).isSome]) ∧ OwnX w w' r (S.rem (normC c)) X ∧ Chg (fun g => w.heap.size ≤ g ∧ ¬ X g) wr w' := by
  refine (remove_ h.at_ h.set hcl hu hc.clauseL hc hl).mono ?_
  rintro e w' ⟨rfl, hch, hk⟩
  exact ⟨rfl, ⟨hk.mono (stepK hX h.b), h.b.trans (hch.below h.b.size (fun i hi => hi.1)), (set_rem h.set _).1⟩, hch⟩
theorem OwnX.why (h : OwnX w wr r S X) (hX : ∀ g, X g → g < wr.heap.size) (hcl : S.cl.length ≤ 1000000) {u : Value} {c : List Int} (hu : Ints wr u c) (hc : Lit30s c) (hl : c.length ≤ 1000000) :
    Calls Try.prog 17 #[kp r, u] wr fun e w' => ∃ (v : Value) (is : Bool) (R : List Nat), e = .returned (.tuple #[v, .bool is]) ∧ WhyR S c is R ∧ OwnX w w' r S (fun g => X g ∨ v.ownBlock = some g) ∧ Chg (fun g => w.heap.size ≤ g ∧ ¬ X g) wr w' ∧ Row w' 3 1 v R.length (R.map fun i : Nat => iv (i : Nat)) ∧ ∀ g, v.ownBlock = some g → wr.heap.size ≤ g := by
  refine (why_ h.at_ h.set hcl hu hc.clauseL hc hl).mono ?_
  rintro e w' ⟨v, is, R, rfl, hw, hch, hk, hr, ho⟩
  refine ⟨v, is, R, rfl, hw, ⟨hk.mono (fun g hg => ?_), h.b.trans (hch.below h.b.size (fun i hi => hi.1)), h.set⟩, hch, hr, ho⟩
  obtain ⟨k1, k2⟩ := stepK hX h.b g hg.1
  exact ⟨k1, fun e => e.elim k2 hg.2⟩
end
/-! ### a proof, plainly -/
open Classical in
noncomputable def chkF (og : List (List Int)) (goal : List Int) (r : List Stp) (i : Nat) : Int :=
  if 0 ≤ (stepsD og r i).2 then (stepsD og r i).2 else if OpenN (stepsD og r i).1 goal then ((i + r.length : Nat) : Int) else -1
theorem chkF_zero (og : List (List Int)) (xs : List Stp) (goal : List Int) : chkD og xs goal = chkF og goal xs 0 := by
  unfold chkD chkF
  rw [Nat.zero_add]
theorem chkF_gone_none {og : List (List Int)} {c : List Int} (h : remR og c = none) (goal : List Int) (r : List Stp) (i : Nat) : chkF og goal ((true, c) :: r) i = i := by
  unfold chkF
  rw [stepsD_t, h]
  show (if (0 : Int) ≤ (i : Int) then (i : Int) else _) = _
  exact if_pos (by omega)
theorem chkF_gone_some {og og' : List (List Int)} {c : List Int} (h : remR og c = some og') (goal : List Int) (r : List Stp) (i : Nat) : chkF og goal ((true, c) :: r) i = chkF og' goal r (i + 1) := by
  unfold chkF
  rw [stepsD_t, h]
  simp only
  have e : i + (((true, c) :: r : List Stp)).length = i + 1 + r.length := by simp; omega
  rw [e]
theorem chkF_no {og : List (List Int)} {c : List Int} (h : OpenN og c) (goal : List Int) (r : List Stp) (i : Nat) : chkF og goal ((false, c) :: r) i = i := by
  unfold chkF
  rw [stepsD_no h]
  exact if_pos (by omega)
theorem chkF_yes {og : List (List Int)} {c : List Int} (h : ¬ OpenN og c) (goal : List Int) (r : List Stp) (i : Nat) : chkF og goal ((false, c) :: r) i = chkF (og ++ [c]) goal r (i + 1) := by
  unfold chkF
  rw [stepsD_yes h]
  have e : i + (((false, c) :: r : List Stp)).length = i + 1 + r.length := by simp; omega
  rw [e]
open Classical in
theorem chkF_end_open {og : List (List Int)} {goal : List Int} (h : OpenN og goal) (i : Nat) : chkF og goal [] i = i := by
  unfold chkF stepsD
  show (if (0 : Int) ≤ -1 then (-1 : Int) else if OpenN og goal then ((i + 0 : Nat) : Int) else -1) = _
  rw [if_neg (by decide), if_pos h]; rfl
open Classical in
theorem chkF_end {og : List (List Int)} {goal : List Int} (h : ¬ OpenN og goal) (i : Nat) : chkF og goal [] i = -1 := by
  unfold chkF stepsD
  show (if (0 : Int) ≤ -1 then (-1 : Int) else if OpenN og goal then ((i + 0 : Nat) : Int) else -1) = _
  rw [if_neg (by decide), if_neg h]
set_option maxHeartbeats 2000000 in
set_option maxRecDepth 100000 in
theorem r25_Check {w : World} {v s u : Value} {og : List (List Int)} {xs : List Stp} {goal : List Int} (h : IntsS w v og) (hs : StpS w s xs) (hu : Ints w u goal) (ho : ∀ d ∈ og, Lit30s d) (hx : ∀ x ∈ xs, okX x) (hl : og.length ≤ 1000) (hl2 : xs.length ≤ 1000) (hg : Lit30s goal) (hgl : goal.length ≤ 1000000) :
    Calls Try.prog 24 #[v, s, u] w fun e w' => e = .returned (.int .i64 (chkD og xs goal)) ∧ Below w.heap.size w w' := by
  have HST := Lib.hid (r24_Steps h hs ho hx hl hl2)
  have HLT := Lib.hid (stepsD_lits ho hx 0)
  obtain ⟨A, cap, hve, -, -⟩ := h.form
  obtain ⟨sa, sc, hse, -, -⟩ := hs.form
  obtain ⟨ua, uc, hue, -, -⟩ := hu.form2
  have HU := Lib.hid hu
  have HG := Lib.hid hg
  have HGL := Lib.hid hgl
  have HL : Hid (og.length + xs.length ≤ 2000) := Lib.hid (by omega)
  obtain ⟨ans, hans⟩ : ∃ ans, ans = chkD og xs goal := ⟨_, rfl⟩
  rw [← hans]
  have HA := Lib.hid hans
  obtain ⟨Z, hZ⟩ : ∃ Z, Z = stepsD og xs 0 := ⟨_, rfl⟩
  have HZ := Lib.hid hZ
  rw [← hZ] at HLT
  have HST2 : Hid (Calls Try.prog 55 #[v, s] w fun e w' => ∃ v', e = .returned (.tuple #[v', .int .i64 Z.2]) ∧ OwnT w w' v' Z.1) := Lib.hid (by rw [hZ]; exact HST.out)
  obtain ⟨n, hn⟩ : ∃ n, n = xs.length := ⟨_, rfl⟩
  have HN := Lib.hid hn
  rw [← hn] at hse
  have hn9 : n ≤ 1000 := by omega
  generalize og.length = ml at hve
  generalize goal.length = gl at hue
  subst hve hse hue
  clear h hs hu ho hx hl hl2 hg hgl HST hans hZ hn
  obtain ⟨Zl, Zi⟩ := Z
  go_enter Try.func24, Try.ntmps24
  go_wp2_with fail
  refine HST2.out.mono ?_
  rintro e w1 ⟨v', rfl, h1⟩
  have H1 := Lib.hid h1
  have hb1 : Below w.heap.size w w1 := by obtain ⟨-, -, -, -, hb⟩ := h1; exact hb
  have HB1 := Lib.hid hb1
  obtain ⟨na, nc, nus, hne, -, -, -⟩ := h1.t
  generalize Zl.length = zl at hne
  subst hne
  clear h1 hb1
  by_cases hz : 0 ≤ Zi
  · have HF : Hid (ans = Zi) := Lib.hid (by
      rw [HA.out]; unfold chkD; rw [← HZ.out]; exact if_pos hz)
    go_wp2
    go_ret
    exact ⟨by rw [HF.out]; rfl, HB1.out⟩
  · have HZN := Lib.hid hz
    have HIM := Lib.hid (r23_Implied H1.out.t.s HLT.out.1 (by have := HLT.out.2; have := HL.out; omega) (HU.out.below HB1.out) HG.out HGL.out)
    clear HST2
    go_wp2_with fail
    refine HIM.out.mono ?_
    rintro e w2 ⟨b, rfl, hb, hb2⟩
    have HB2 := Lib.hid (HB1.out.trans (hb2.mono HB1.out.size))
    cases b with
    | false =>
      have HF : Hid (ans = (n : Int)) := Lib.hid (by
        have hop : OpenN Zl goal := Classical.byContradiction fun hn => by have := hb.2 hn; cases this
        rw [HA.out]; unfold chkD; rw [← HZ.out, HN.out, if_neg (show ¬ (0 : Int) ≤ Zi by have := HZN.out; omega)]; exact if_pos hop)
      clear hb hb2
      go_wp2
      go_ret
      exact ⟨by rw [HF.out]; rfl, HB2.out⟩
    | true =>
      have HF : Hid (ans = -1) := Lib.hid (by
        have hop : ¬ OpenN Zl goal := hb.1 rfl
        rw [HA.out]; unfold chkD; rw [← HZ.out, if_neg (show ¬ (0 : Int) ≤ Zi by have := HZN.out; omega)]; exact if_neg hop)
      clear hb hb2
      go_wp2
      go_ret
      exact ⟨by rw [HF.out]; rfl, HB2.out⟩
end Go.Proofs.Ytknpfopepedmmaa
