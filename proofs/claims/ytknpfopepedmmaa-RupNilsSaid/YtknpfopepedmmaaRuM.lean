/-
  Checkers of proofs, plainly: states, and what holds of them.
-/
import Derived.Test.YtknpfopepedmmaaRuL
namespace Go.Proofs.Ytknpfopepedmmaa
set_option linter.unusedVariables false
set_option linter.unusedSimpArgs false
/-- A checker: clauses, which are there, the trail with its clauses (-1: none), how much of it stays, a clause that is false (-1: none). -/
structure RS where
  cl : List (List Int)
  on : List Bool
  tr : List (Int × Int)
  base : Nat
  bk : Int
def RS.T (S : RS) : List Int := S.tr.map (·.1)
def RS.onA (S : RS) (i : Nat) : Bool := S.on.getD i false
def RS.c (S : RS) (i : Nat) : List Int := S.cl.getD i []
def RS.asg (S : RS) (l b : Int) : RS := { S with tr := S.tr ++ [(l, b)] }
theorem RS.T_len (S : RS) : S.T.length = S.tr.length := by simp [RS.T]
theorem RS.T_asg (S : RS) (l b : Int) : (S.asg l b).T = S.T ++ [l] := by simp [RS.T, RS.asg]
/-- How a literal of the trail came. -/
def JustAt (S : RS) (A : List Int) (i : Nat) (x b : Int) : Prop := (b = -1 ∧ S.base ≤ i ∧ x ∈ A) ∨ ∃ k : Nat, b = (k : Int) ∧ k < S.cl.length ∧ S.onA k = true ∧ x ∈ S.c k ∧ ∀ y ∈ S.c k, y ≠ x → -y ∈ S.T.take i
structure RInv (S : RS) (A : List Int) : Prop where
  con : Con S.T
  len : S.on.length = S.cl.length
  c0 : ∀ i, i < S.cl.length → Lit30s (S.c i) ∧ (S.c i).Nodup
  base : S.base ≤ S.tr.length
  just : ∀ i, i < S.tr.length → JustAt S A i (S.tr.getD i (0, 0)).1 (S.tr.getD i (0, 0)).2
theorem RInv.nz {S : RS} {A : List Int} (h : RInv S A) {i : Nat} (hi : i < S.cl.length) : ∀ y ∈ S.c i, y ≠ 0 := fun y hy => ((h.c0 i hi).1 y hy).1
theorem getD_T (S : RS) (i : Nat) : S.T.getD i 0 = (S.tr.getD i (0, 0)).1 := by
  unfold RS.T
  rw [List.getD_eq_getElem?_getD, List.getD_eq_getElem?_getD, List.getElem?_map]
  cases S.tr[i]? <;> rfl
theorem getD_snocP {α : Type} (l : List α) (x d : α) (i : Nat) : (l ++ [x]).getD i d = if i < l.length then l.getD i d else if i = l.length then x else d := by
  rw [List.getD_eq_getElem?_getD]
  by_cases h : i < l.length
  · rw [if_pos h, List.getElem?_append_left h, List.getD_eq_getElem?_getD]
  · rw [if_neg h, List.getElem?_append_right (by omega)]
    by_cases e : i = l.length
    · rw [if_pos e, e]; simp
    · rw [if_neg e, List.getElem?_eq_none (by simp; omega)]; rfl
theorem RInv.asg {S : RS} {A : List Int} (h : RInv S A) {l b : Int} (hl : lit30 l) (hv : valR l S.T = 0) (hj : JustAt S A S.tr.length l b) : RInv (S.asg l b) A := by
  have hT := S.T_asg l b
  refine ⟨by rw [hT]; exact h.con.snoc hl hv, h.len, h.c0, by show S.base ≤ (S.tr ++ [(l, b)]).length; rw [List.length_append]; have := h.base; omega, fun i hi => ?_⟩
  have hi' : i < S.tr.length + 1 := by have : (S.asg l b).tr.length = S.tr.length + 1 := by simp [RS.asg]
                                       omega
  have e : (S.asg l b).tr.getD i (0, 0) = if i < S.tr.length then S.tr.getD i (0, 0) else (l, b) := by
    show (S.tr ++ [(l, b)]).getD i (0, 0) = _
    rw [getD_snocP]
    by_cases h1 : i < S.tr.length
    · rw [if_pos h1, if_pos h1]
    · rw [if_neg h1, if_neg h1, if_pos (by omega)]
  have take_eq : (S.asg l b).T.take i = S.T.take i := by
    rw [hT, List.take_append_of_le_length (by rw [S.T_len]; omega)]
  have lift : ∀ x c, JustAt S A i x c → JustAt (S.asg l b) A i x c := fun x c hh => by
    rcases hh with hh | ⟨k, k1, k2, k3, k4, k5⟩
    · exact .inl hh
    · exact .inr ⟨k, k1, k2, k3, k4, fun y hy hn => by rw [take_eq]; exact k5 y hy hn⟩
  rw [e]
  by_cases h1 : i < S.tr.length
  · rw [if_pos h1]
    exact lift _ _ (h.just i h1)
  · rw [if_neg h1]
    obtain rfl : i = S.tr.length := by omega
    exact lift _ _ hj
/-- Closed by all clauses that are there. -/
def ClosedS (S : RS) (T : List Int) : Prop := ∀ i, i < S.cl.length → S.onA i = true → ClosedC (S.c i) T
/-- The trail is in what is closed and has what was assumed. -/
theorem RInv.sub {S : RS} {A : List Int} (h : RInv S A) {T : List Int} (hT : Con T) (hA : ∀ x ∈ A, x ∈ T) (hcl : ClosedS S T) : ∀ x ∈ S.T, x ∈ T := by
  have key : ∀ n, n ≤ S.tr.length → ∀ x ∈ S.T.take n, x ∈ T := by
    intro n
    induction n with
    | zero => intro _ x hx; simp at hx
    | succ n ih =>
      intro hn x hx
      have hn2 : n < S.T.length := by rw [S.T_len]; omega
      rw [List.take_succ_eq_append_getElem hn2] at hx
      rcases List.mem_append.1 hx with hx | hx
      · exact ih (by omega) x hx
      · have hx := List.mem_singleton.1 hx
        have e : x = (S.tr.getD n (0, 0)).1 := by rw [hx, ← getD_T, List.getD_eq_getElem?_getD, List.getElem?_eq_getElem hn2]; rfl
        rcases h.just n (by omega) with ⟨-, -, hA'⟩ | ⟨k, -, k2, k3, k4, k5⟩
        · rw [e]; exact hA _ hA'
        · rw [e]
          exact told_core (h.nz k2) hT (hcl k k2 k3) k4 fun y hy hne => ih (by omega) _ (k5 y hy hne)
  intro x hx
  exact key S.tr.length (Nat.le_refl _) x (by rw [← S.T_len, List.take_length]; exact hx)
/-! ### all that is told -/
/-- Nothing but the trail has grown. -/
structure Ext (S S' : RS) : Prop where
  cl : S'.cl = S.cl
  on : S'.on = S.on
  base : S'.base = S.base
  bk : S'.bk = S.bk
  tr : ∃ m, S'.tr = S.tr ++ m
theorem Ext.refl (S : RS) : Ext S S := ⟨rfl, rfl, rfl, rfl, [], by simp⟩
theorem Ext.trans {a b c : RS} (h : Ext a b) (k : Ext b c) : Ext a c := by
  obtain ⟨m, hm⟩ := h.tr
  obtain ⟨n, hn⟩ := k.tr
  exact ⟨k.cl.trans h.cl, k.on.trans h.on, k.base.trans h.base, k.bk.trans h.bk, m ++ n, by rw [hn, hm, List.append_assoc]⟩
theorem Ext.asg (S : RS) (l b : Int) : Ext S (S.asg l b) := ⟨rfl, rfl, rfl, rfl, [(l, b)], rfl⟩
theorem Ext.c {S S' : RS} (h : Ext S S') (i : Nat) : S'.c i = S.c i := by unfold RS.c; rw [h.cl]
theorem Ext.onA {S S' : RS} (h : Ext S S') (i : Nat) : S'.onA i = S.onA i := by unfold RS.onA; rw [h.on]
theorem Ext.T {S S' : RS} (h : Ext S S') : S'.T = S.T ++ S'.T.drop S.tr.length := by
  obtain ⟨m, hm⟩ := h.tr
  have e : S'.T = S.T ++ m.map (·.1) := by unfold RS.T; rw [hm, List.map_append]
  rw [e, ← S.T_len, List.drop_left]
theorem Ext.len {S S' : RS} (h : Ext S S') : S.tr.length ≤ S'.tr.length := by
  obtain ⟨m, hm⟩ := h.tr
  rw [hm, List.length_append]; omega
/-- A clause that is false, of a number. -/
def Fails (S : RS) (id : Int) : Prop := ∃ k : Nat, id = (k : Int) ∧ k < S.cl.length ∧ S.onA k = true ∧ falR (S.c k) S.T = true
def RS.visit (S : RS) : List Nat → RS × Int
  | [] => (S, -1)
  | i :: r => if S.onA i = false then S.visit r else if falR (S.c i) S.T = true then (S, (i : Int)) else if telR (S.c i) S.T ≠ 0 then (S.asg (telR (S.c i) S.T) (i : Int)).visit r else S.visit r
def Stay (S S' : RS) (i : Nat) : Prop := ClosedC (S.c i) S'.T ∨ ∃ y ∈ S.c i, -y ∈ S'.T.drop S.tr.length
theorem Stay.ext {S S1 S' : RS} {A : List Int} {i : Nat} (h1 : Ext S S1) (h2 : Ext S1 S') (hi : i < S.cl.length) (h : RInv S' A) (hc : ClosedC (S.c i) S1.T) : Stay S S' i := by
  have hn0 : ∀ y ∈ S.c i, y ≠ 0 := fun y hy => h.nz (by rw [h2.cl, h1.cl]; exact hi) y (by rw [h2.c, h1.c]; exact hy)
  by_cases hy : ∃ y ∈ S.c i, -y ∈ S'.T.drop S1.tr.length
  · obtain ⟨y, hy, hd⟩ := hy
    refine .inr ⟨y, hy, ?_⟩
    have e : S'.T.drop S1.tr.length = (S'.T.drop S.tr.length).drop (S1.tr.length - S.tr.length) := by
      rw [List.drop_drop]; congr 1; have := h1.len; omega
    rw [e] at hd
    exact List.mem_of_mem_drop hd
  · refine .inl ?_
    have e := h2.T
    rw [e]
    have hcon := h.con
    rw [e] at hcon
    exact closed_ext hn0 hcon hc fun y hyc hm => hy ⟨y, hyc, hm⟩
theorem asg_inv {S : RS} {A : List Int} (h : RInv S A) {i : Nat} (hi : i < S.cl.length) (hon : S.onA i = true) (hne : telR (S.c i) S.T ≠ 0) : RInv (S.asg (telR (S.c i) S.T) (i : Int)) A := by
  obtain ⟨t1, t2, t3⟩ := tel_ne (h.nz hi) hne
  refine h.asg ((h.c0 i hi).1 _ t1) t2 (.inr ⟨i, rfl, hi, hon, t1, fun y hy hyn => ?_⟩)
  rw [← S.T_len, List.take_length]
  exact (val_m1 (t3 y hy hyn)).2
theorem visit_law {A : List Int} : ∀ (L : List Nat) (S : RS), (∀ i ∈ L, i < S.cl.length) → RInv S A → RInv (S.visit L).1 A ∧ Ext S (S.visit L).1 ∧ (((S.visit L).2 = -1 ∧ ∀ i ∈ L, S.onA i = true → Stay S (S.visit L).1 i) ∨ Fails (S.visit L).1 (S.visit L).2)
  | [], S, hL, h => ⟨h, Ext.refl S, .inl ⟨rfl, fun i hi => by simp at hi⟩⟩
  | i :: r, S, hL, h => by
    have hi := hL i List.mem_cons_self
    have hr : ∀ j ∈ r, j < S.cl.length := fun j hj => hL j (List.mem_cons_of_mem _ hj)
    unfold RS.visit
    by_cases hon : S.onA i = false
    · rw [if_pos hon]
      obtain ⟨a1, a2, a3⟩ := visit_law r S hr h
      refine ⟨a1, a2, ?_⟩
      rcases a3 with ⟨e, a3⟩ | a3
      · refine .inl ⟨e, fun j hj hjo => ?_⟩
        rcases List.mem_cons.1 hj with rfl | hj
        · rw [hon] at hjo; cases hjo
        · exact a3 j hj hjo
      · exact .inr a3
    · rw [if_neg hon]
      have hon' : S.onA i = true := by simpa using hon
      by_cases hf : falR (S.c i) S.T = true
      · rw [if_pos hf]
        exact ⟨h, Ext.refl S, .inr ⟨i, rfl, hi, hon', hf⟩⟩
      · rw [if_neg hf]
        by_cases ht : telR (S.c i) S.T ≠ 0
        · rw [if_pos ht]
          have h1 := asg_inv h hi hon' ht
          obtain ⟨a1, a2, a3⟩ := visit_law r (S.asg (telR (S.c i) S.T) (i : Int)) hr h1
          have x1 := Ext.asg S (telR (S.c i) S.T) (i : Int)
          refine ⟨a1, x1.trans a2, ?_⟩
          rcases a3 with ⟨e, a3⟩ | a3
          · refine .inl ⟨e, fun j hj hjo => ?_⟩
            rcases List.mem_cons.1 hj with rfl | hj
            · refine Stay.ext x1 a2 hi a1 ?_
              rw [S.T_asg]
              exact closed_told (h.nz hi) ht
            · rcases a3 j hj (by rw [x1.onA]; exact hjo) with b | ⟨y, hy, hd⟩
              · exact .inl (by rw [← x1.c]; exact b)
              · refine .inr ⟨y, by rw [← x1.c]; exact hy, ?_⟩
                have e2 : (S.asg (telR (S.c i) S.T) (i : Int)).tr.length = S.tr.length + 1 := by simp [RS.asg]
                rw [e2, ← List.drop_drop] at hd
                exact List.mem_of_mem_drop hd
          · exact .inr a3
        · rw [if_neg ht]
          obtain ⟨a1, a2, a3⟩ := visit_law r S hr h
          refine ⟨a1, a2, ?_⟩
          rcases a3 with ⟨e, a3⟩ | a3
          · refine .inl ⟨e, fun j hj hjo => ?_⟩
            rcases List.mem_cons.1 hj with rfl | hj
            · exact Stay.ext (Ext.refl S) a2 hi a1 ⟨by simpa using hf, Decidable.byContradiction fun hh => ht hh⟩
            · exact a3 j hj hjo
          · exact .inr a3
/-- The clauses that have a literal. -/
def RS.ofL (S : RS) (l : Int) : List Nat := (List.range S.cl.length).filter fun i => decide (l ∈ S.c i)
theorem ofL_mem {S : RS} {l : Int} {i : Nat} : i ∈ S.ofL l ↔ i < S.cl.length ∧ l ∈ S.c i := by simp [RS.ofL]
def RS.spread : Nat → RS → Nat → RS × Int
  | 0, S, _ => (S, -1)
  | f + 1, S, p => if p < S.tr.length then (if (S.visit (S.ofL (-(S.tr.getD p (0, 0)).1))).2 = -1 then (S.visit (S.ofL (-(S.tr.getD p (0, 0)).1))).1.spread f (p + 1) else S.visit (S.ofL (-(S.tr.getD p (0, 0)).1))) else (S, -1)
/-- Which clauses may still tell something: those that have a literal that has come to be false from a place on. -/
def Pnd (S : RS) (p m : Nat) : Prop := ∀ i, i < m → S.onA i = true → ClosedC (S.c i) S.T ∨ ∃ y ∈ S.c i, -y ∈ S.T.drop p
theorem Con.len {l : List Int} (h : Con l) : l.length ≤ 1073741824 := by
  have hs : (l.map fun x => x.natAbs - 1).Nodup := by
    refine List.Pairwise.map _ ?_ (List.Pairwise.and_mem.1 h.nd)
    intro a b ⟨ha, hb, hne⟩ he
    have a0 := (h.li a ha).1
    have b0 := (h.li b hb).1
    have e : a = b ∨ a = -b := by omega
    rcases e with e | e
    · exact hne e
    · rw [e] at ha; exact h.co _ hb ha
  have := hs.length_le_of_subset (l₂ := List.range 1073741824) (fun v hv => by
    obtain ⟨x, hx, rfl⟩ := List.mem_map.1 hv
    obtain ⟨x0, x1, x2⟩ := h.li x hx
    rw [List.mem_range]; omega)
  simpa using this
theorem spread_law {A : List Int} : ∀ (f : Nat) (S : RS) (p m : Nat), RInv S A → Pnd S p m → m ≤ S.cl.length → p ≤ S.tr.length → 1073741824 < f + p →
    RInv (RS.spread f S p).1 A ∧ Ext S (RS.spread f S p).1 ∧ (((RS.spread f S p).2 = -1 ∧ ∀ i, i < m → S.onA i = true → ClosedC (S.c i) (RS.spread f S p).1.T) ∨ Fails (RS.spread f S p).1 (RS.spread f S p).2)
  | 0, S, p, m, h, hp, hm, hl, hf => by have := h.con.len; rw [S.T_len] at this; omega
  | f + 1, S, p, m, h, hp, hm, hl, hf => by
    rw [RS.spread]
    by_cases hlt : p < S.tr.length
    · rw [if_pos hlt]
      obtain ⟨l, hll⟩ : ∃ l, l = (S.tr.getD p (0, 0)).1 := ⟨_, rfl⟩
      rw [← hll]
      obtain ⟨a1, a2, a3⟩ := visit_law (A := A) (S.ofL (-l)) S (fun i hi => (ofL_mem.1 hi).1) h
      obtain ⟨R, hR⟩ : ∃ R, R = S.visit (S.ofL (-l)) := ⟨_, rfl⟩
      rw [← hR] at a1 a2 a3 ⊢
      by_cases hid : R.2 = -1
      · rw [if_pos hid]
        have hst : ∀ i ∈ S.ofL (-l), S.onA i = true → Stay S R.1 i := by
          rcases a3 with ⟨-, a3⟩ | ⟨k, hk, -⟩
          · exact a3
          · rw [hid] at hk; omega
        have hTp : S.T.drop p = l :: S.T.drop (p + 1) := by
          have hp2 : p < S.T.length := by rw [S.T_len]; exact hlt
          rw [List.drop_eq_getElem_cons hp2]
          congr 1
          rw [hll, ← getD_T, List.getD_eq_getElem?_getD, List.getElem?_eq_getElem hp2]; rfl
        have hdrop : ∀ y, y ∈ S.T.drop (p + 1) → y ∈ R.1.T.drop (p + 1) := fun y hy => by
          rw [a2.T, List.drop_append_of_le_length (by rw [S.T_len]; omega)]
          exact List.mem_append.2 (.inl hy)
        have hnew : ∀ y, y ∈ R.1.T.drop S.tr.length → y ∈ R.1.T.drop (p + 1) := fun y hy => by
          have e : R.1.T.drop S.tr.length = (R.1.T.drop (p + 1)).drop (S.tr.length - (p + 1)) := by
            rw [List.drop_drop]; congr 1; omega
          rw [e] at hy
          exact List.mem_of_mem_drop hy
        have hp1 : Pnd R.1 (p + 1) m := fun i hi hon => by
          rw [a2.c]
          rw [a2.onA] at hon
          have fin : Stay S R.1 i → ClosedC (S.c i) R.1.T ∨ ∃ y ∈ S.c i, -y ∈ R.1.T.drop (p + 1) := fun hs => by
            rcases hs with hs | ⟨y, hy, hd⟩
            · exact .inl hs
            · exact .inr ⟨y, hy, hnew _ hd⟩
          by_cases hin : -l ∈ S.c i
          · exact fin (hst i (ofL_mem.2 ⟨by omega, hin⟩) hon)
          · rcases hp i hi hon with hc | ⟨y, hy, hd⟩
            · exact fin (Stay.ext (Ext.refl S) a2 (by omega) a1 hc)
            · rw [hTp] at hd
              rcases List.mem_cons.1 hd with e | hd
              · have : y = -l := by omega
                rw [this] at hy; exact absurd hy hin
              · exact .inr ⟨y, hy, hdrop _ hd⟩
        obtain ⟨b1, b2, b3⟩ := spread_law f R.1 (p + 1) m a1 hp1 (by rw [a2.cl]; exact hm) (by have := a2.len; omega) (by omega)
        refine ⟨b1, a2.trans b2, ?_⟩
        rcases b3 with ⟨e, b3⟩ | b3
        · refine .inl ⟨e, fun i hi hon => ?_⟩
          have := b3 i hi (by rw [a2.onA]; exact hon)
          rwa [a2.c] at this
        · exact .inr b3
      · rw [if_neg hid]
        refine ⟨a1, a2, ?_⟩
        rcases a3 with ⟨e, -⟩ | a3
        · exact absurd e hid
        · exact .inr a3
    · rw [if_neg hlt]
      refine ⟨h, Ext.refl S, .inl ⟨rfl, fun i hi hon => ?_⟩⟩
      rcases hp i hi hon with hc | ⟨y, hy, hd⟩
      · exact hc
      · rw [List.drop_eq_nil_of_le (by rw [S.T_len]; omega)] at hd
        simp at hd
/-! ### a clause is added, or goes -/
/-- Between two calls: the first m clauses are closed, or one is false. -/
structure Set_ (S : RS) (m : Nat) : Prop where
  inv : RInv S []
  base : S.base = S.tr.length
  cls : S.bk = -1 → ∀ i, i < m → S.onA i = true → ClosedC (S.c i) S.T
  bad : S.bk ≠ -1 → Fails S S.bk
def fuel : Nat := 1073741825
def RS.fin (S : RS) (id : Int) : RS := { S with bk := id, base := S.tr.length }
/-- All that is told from a place on, for good. -/
def RS.all_ (S : RS) (p : Nat) : RS := (RS.spread fuel S p).1.fin (RS.spread fuel S p).2
def RS.settle (S : RS) (i : Nat) : RS :=
  if S.bk ≠ -1 then S
  else if falR (S.c i) S.T = true then { S with bk := (i : Int) }
  else if telR (S.c i) S.T ≠ 0 then (S.asg (telR (S.c i) S.T) (i : Int)).all_ S.base
  else S.all_ S.base
end Go.Proofs.Ytknpfopepedmmaa
