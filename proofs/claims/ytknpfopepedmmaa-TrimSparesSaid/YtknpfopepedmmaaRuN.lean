/-
  Checkers of proofs, plainly: what clauses tell, trails, and what is closed.
-/
import Derived.Lib.Hide
namespace Go.Proofs.Ytknpfopepedmmaa
set_option linter.unusedVariables false
set_option linter.unusedSimpArgs false
def lit30 (x : Int) : Prop := x ≠ 0 ∧ -1073741824 ≤ x ∧ x ≤ 1073741824
def valR (l : Int) (lits : List Int) : Int := if lits.contains l then 1 else if lits.contains (-l) then -1 else 0
def falR (c lits : List Int) : Bool := c.all fun x => decide (valR x lits < 0)
def telG (lits : List Int) : List Int → Int → Int
  | [], l => l
  | x :: r, l => if valR x lits = 1 then 0 else if valR x lits = 0 then (if l ≠ 0 ∧ l ≠ x then 0 else telG lits r x) else telG lits r l
def telR (c lits : List Int) : Int := telG lits c 0
def Lit30s (c : List Int) : Prop := ∀ x ∈ c, lit30 x
theorem valR_cases (l : Int) (lits : List Int) : valR l lits = 1 ∨ valR l lits = 0 ∨ valR l lits = -1 := by
  unfold valR
  split
  · exact .inl rfl
  · split
    · exact .inr (.inr rfl)
    · exact .inr (.inl rfl)
theorem val_pos {x : Int} {l : List Int} (h : x ∈ l) : valR x l = 1 := by unfold valR; rw [if_pos (by simpa using h)]
theorem val_neg {x : Int} {l : List Int} (h : x ∉ l) (h2 : -x ∈ l) : valR x l = -1 := by unfold valR; rw [if_neg (by simpa using h), if_pos (by simpa using h2)]
theorem val_zero {x : Int} {l : List Int} (h : x ∉ l) (h2 : -x ∉ l) : valR x l = 0 := by unfold valR; rw [if_neg (by simpa using h), if_neg (by simpa using h2)]
theorem val_m1 {x : Int} {l : List Int} (h : valR x l = -1) : x ∉ l ∧ -x ∈ l := by
  by_cases h1 : x ∈ l
  · rw [val_pos h1] at h; omega
  · by_cases h2 : -x ∈ l
    · exact ⟨h1, h2⟩
    · rw [val_zero h1 h2] at h; omega
theorem val_0 {x : Int} {l : List Int} (h : valR x l = 0) : x ∉ l ∧ -x ∉ l := by
  by_cases h1 : x ∈ l
  · rw [val_pos h1] at h; omega
  · by_cases h2 : -x ∈ l
    · rw [val_neg h1 h2] at h; omega
    · exact ⟨h1, h2⟩
theorem val_1 {x : Int} {l : List Int} (h : valR x l = 1) : x ∈ l := by
  by_cases h1 : x ∈ l
  · exact h1
  · by_cases h2 : -x ∈ l
    · rw [val_neg h1 h2] at h; omega
    · rw [val_zero h1 h2] at h; omega
theorem val_lt {x : Int} {l : List Int} (h : valR x l < 0) : valR x l = -1 := by rcases valR_cases x l with e | e | e <;> omega
theorem telG_ne (lits : List Int) : ∀ (r : List Int) (l x : Int), (∀ y ∈ r, y ≠ 0) → telG lits r l = x → x ≠ 0 → (∀ y ∈ r, y ≠ x → valR y lits = -1) ∧ (l = x ∨ (l = 0 ∧ x ∈ r ∧ valR x lits = 0))
  | [], l, x, _, h, hx => ⟨fun y hy => by simp at hy, .inl h⟩
  | z :: r, l, x, h0, h, hx => by
    have hz0 := h0 z List.mem_cons_self
    have hr0 : ∀ y ∈ r, y ≠ 0 := fun y hy => h0 y (List.mem_cons_of_mem _ hy)
    unfold telG at h
    rcases valR_cases z lits with e | e | e
    · rw [if_pos e] at h; exact absurd h.symm hx
    · rw [if_neg (by omega), if_pos e] at h
      by_cases hl : l ≠ 0 ∧ l ≠ z
      · rw [if_pos hl] at h; exact absurd h.symm hx
      · rw [if_neg hl] at h
        obtain ⟨h1, h2⟩ := telG_ne lits r z x hr0 h hx
        have hzx : z = x := by
          rcases h2 with h2 | ⟨h2, -⟩
          · exact h2
          · exact absurd h2 hz0
        subst hzx
        refine ⟨fun y hy hne => ?_, ?_⟩
        · rcases List.mem_cons.1 hy with e2 | hy
          · exact absurd e2 hne
          · exact h1 y hy hne
        · by_cases h0 : l = 0
          · exact .inr ⟨h0, List.mem_cons_self, e⟩
          · exact .inl (by omega)
    · rw [if_neg (by omega), if_neg (by omega)] at h
      obtain ⟨h1, h2⟩ := telG_ne lits r l x hr0 h hx
      refine ⟨fun y hy hne => ?_, ?_⟩
      · rcases List.mem_cons.1 hy with e2 | hy
        · rw [e2]; exact e
        · exact h1 y hy hne
      · rcases h2 with h2 | ⟨h2, h3, h4⟩
        · exact .inl h2
        · exact .inr ⟨h2, List.mem_cons_of_mem _ h3, h4⟩
/-- What a clause tells: all its other literals are false. -/
theorem tel_ne {c lits : List Int} (h0 : ∀ y ∈ c, y ≠ 0) (h : telR c lits ≠ 0) : telR c lits ∈ c ∧ valR (telR c lits) lits = 0 ∧ ∀ y ∈ c, y ≠ telR c lits → valR y lits = -1 := by
  obtain ⟨h1, h2⟩ := telG_ne lits c 0 _ h0 rfl h
  rcases h2 with h2 | ⟨-, h2, h3⟩
  · exact absurd h2.symm h
  · exact ⟨h2, h3, h1⟩
theorem telG_is (lits : List Int) (x : Int) (hx : x ≠ 0) (hv : valR x lits = 0) : ∀ (r : List Int) (l : Int), (∀ y ∈ r, y ≠ x → valR y lits = -1) → ((l = 0 ∧ x ∈ r) ∨ l = x) → telG lits r l = x
  | [], l, _, h => by
    rcases h with ⟨-, h⟩ | h
    · simp at h
    · exact h
  | z :: r, l, h1, h => by
    have hr : ∀ y ∈ r, y ≠ x → valR y lits = -1 := fun y hy => h1 y (List.mem_cons_of_mem _ hy)
    unfold telG
    by_cases e : z = x
    · subst e
      rw [if_neg (by omega), if_pos hv]
      have hl : ¬ (l ≠ 0 ∧ l ≠ z) := by rcases h with ⟨h, -⟩ | h <;> omega
      rw [if_neg hl]
      exact telG_is lits z hx hv r z hr (.inr rfl)
    · have hz := h1 z List.mem_cons_self e
      rw [if_neg (by omega), if_neg (by omega)]
      refine telG_is lits x hx hv r l hr ?_
      rcases h with ⟨h, hm⟩ | h
      · rcases List.mem_cons.1 hm with e2 | hm
        · exact absurd e2.symm e
        · exact .inl ⟨h, hm⟩
      · exact .inr h
theorem tel_is {c lits : List Int} {x : Int} (hx : x ≠ 0) (hc : x ∈ c) (hv : valR x lits = 0) (h : ∀ y ∈ c, y ≠ x → valR y lits = -1) : telR c lits = x := telG_is lits x hx hv c 0 h (.inl ⟨rfl, hc⟩)
theorem fal_iff {c lits : List Int} : falR c lits = true ↔ ∀ y ∈ c, y ∉ lits ∧ -y ∈ lits := by
  unfold falR
  rw [List.all_eq_true]
  constructor
  · intro h y hy
    exact val_m1 (val_lt (of_decide_eq_true (h y hy)))
  · intro h y hy
    rw [val_neg (h y hy).1 (h y hy).2]; rfl
/-- Literals that go together. -/
structure Con (l : List Int) : Prop where
  li : Lit30s l
  nd : l.Nodup
  co : ∀ x ∈ l, -x ∉ l
theorem Con.nil : Con [] := ⟨fun x hx => by simp at hx, by simp, fun x hx => by simp at hx⟩
theorem Con.snoc {l : List Int} (h : Con l) {x : Int} (hx : lit30 x) (h0 : valR x l = 0) : Con (l ++ [x]) := by
  obtain ⟨h1, h2⟩ := val_0 h0
  refine ⟨fun y hy => ?_, ?_, fun y hy hn => ?_⟩
  · rcases List.mem_append.1 hy with hy | hy
    · exact h.li y hy
    · rw [List.mem_singleton.1 hy]; exact hx
  · rw [List.nodup_append]
    refine ⟨h.nd, by simp, fun a ha b hb e => ?_⟩
    rw [List.mem_singleton.1 hb] at e; rw [e] at ha; exact h1 ha
  · rcases List.mem_append.1 hy with hy | hy
    · rcases List.mem_append.1 hn with hn | hn
      · exact h.co y hy hn
      · have := List.mem_singleton.1 hn
        rw [← this, Int.neg_neg] at h2; exact h2 hy
    · have e := List.mem_singleton.1 hy
      subst e
      rcases List.mem_append.1 hn with hn | hn
      · exact h2 hn
      · have := List.mem_singleton.1 hn; have := hx.1; omega
theorem Con.take {l : List Int} (h : Con l) (n : Nat) : Con (l.take n) :=
  ⟨fun x hx => h.li x (List.mem_of_mem_take hx), h.nd.sublist (List.take_sublist _ _), fun x hx hn => h.co x (List.mem_of_mem_take hx) (List.mem_of_mem_take hn)⟩
/-- Nothing follows of a clause. -/
def ClosedC (c T : List Int) : Prop := falR c T = false ∧ telR c T = 0
/-- Nothing follows of clauses. -/
def ClosedM (og : List (List Int)) (T : List Int) : Prop := ∀ c ∈ og, ClosedC c T
theorem ClosedM.sub {og og' : List (List Int)} {T : List Int} (h : ClosedM og T) (hs : ∀ c ∈ og', c ∈ og) : ClosedM og' T := fun c hc => h c (hs c hc)
/-- Can literals be closed by clauses? -/
def OpenM (og : List (List Int)) (st : List Int) : Prop := ∃ T, Con T ∧ (∀ x ∈ st, x ∈ T) ∧ ClosedM og T
theorem OpenM.sub {og og' : List (List Int)} {st : List Int} (h : OpenM og st) (hs : ∀ c ∈ og', c ∈ og) : OpenM og' st := by
  obtain ⟨T, h1, h2, h3⟩ := h
  exact ⟨T, h1, h2, h3.sub hs⟩
/-- Clauses of the same literals are closed alike. -/
theorem ClosedC.congr {c d T : List Int} (hc : ∀ y ∈ c, y ≠ 0) (he : ∀ y, y ∈ c ↔ y ∈ d) (h : ClosedC c T) : ClosedC d T := by
  have hd : ∀ y ∈ d, y ≠ 0 := fun y hy => hc y ((he y).2 hy)
  refine ⟨?_, ?_⟩
  · cases hf : falR d T with
    | false => rfl
    | true =>
      have := fal_iff.2 fun y hy => fal_iff.1 hf y ((he y).1 hy)
      rw [h.1] at this; cases this
  · refine Decidable.byContradiction fun hne => ?_
    obtain ⟨t1, t2, t3⟩ := tel_ne hd hne
    have := tel_is hne ((he _).2 t1) t2 (fun y hy hn => t3 y ((he y).1 hy) hn)
    rw [h.2] at this
    exact hne this.symm
theorem told_core {c T : List Int} (h0 : ∀ y ∈ c, y ≠ 0) (hT : Con T) (hcl : ClosedC c T) {x : Int} (hx : x ∈ c) (ho : ∀ y ∈ c, y ≠ x → -y ∈ T) : x ∈ T := by
  have hno : ∀ y ∈ c, y ≠ x → y ∉ T := fun y hy hne hm => hT.co y hm (ho y hy hne)
  refine Decidable.byContradiction fun hxT => ?_
  by_cases hn : -x ∈ T
  · have : falR c T = true := fal_iff.2 fun y hy => by
      by_cases e : y = x
      · rw [e]; exact ⟨hxT, hn⟩
      · exact ⟨hno y hy e, ho y hy e⟩
    rw [hcl.1] at this; cases this
  · have := tel_is (h0 x hx) hx (val_zero hxT hn) (fun y hy hne => val_neg (hno y hy hne) (ho y hy hne))
    rw [hcl.2] at this
    exact h0 x hx this.symm
theorem not_false {c T : List Int} (hT : Con T) (hcl : ClosedC c T) : ¬ ∀ y ∈ c, -y ∈ T := fun h => by
  have : falR c T = true := fal_iff.2 fun y hy => ⟨fun hm => hT.co y hm (h y hy), h y hy⟩
  rw [hcl.1] at this; cases this
/-- A clause that was closed, and is no more, has a literal that has come to be false. -/
theorem closed_ext {c T m : List Int} (h0 : ∀ y ∈ c, y ≠ 0) (hT : Con (T ++ m)) (hcl : ClosedC c T) (hn : ∀ y ∈ c, -y ∉ m) : ClosedC c (T ++ m) := by
  have hTT : Con T := by have := hT.take T.length; rwa [List.take_left] at this
  have neg_in : ∀ y ∈ c, -y ∈ T ++ m → -y ∈ T := fun y hy h => by
    rcases List.mem_append.1 h with h | h
    · exact h
    · exact absurd h (hn y hy)
  refine ⟨?_, ?_⟩
  · cases hf : falR c (T ++ m) with
    | false => rfl
    | true => exact absurd (fun y hy => neg_in y hy (fal_iff.1 hf y hy).2) (not_false hTT hcl)
  · refine Decidable.byContradiction fun hne => ?_
    obtain ⟨t1, t2, t3⟩ := tel_ne h0 hne
    have := told_core h0 hTT hcl t1 fun y hy hyn => neg_in y hy (val_m1 (t3 y hy hyn)).2
    exact (val_0 t2).1 (List.mem_append.2 (.inl this))
/-- A clause that tells a literal is closed behind it. -/
theorem closed_told {c T : List Int} (h0 : ∀ y ∈ c, y ≠ 0) (hne : telR c T ≠ 0) : ClosedC c (T ++ [telR c T]) := by
  obtain ⟨t1, t2, t3⟩ := tel_ne h0 hne
  have hin : telR c T ∈ T ++ [telR c T] := by simp
  refine ⟨?_, ?_⟩
  · cases hf : falR c (T ++ [telR c T]) with
    | false => rfl
    | true => exact absurd hin (fal_iff.1 hf _ t1).1
  · refine Decidable.byContradiction fun hx => ?_
    obtain ⟨u1, u2, u3⟩ := tel_ne h0 hx
    by_cases e : telR c T = telR c (T ++ [telR c T])
    · rw [← e] at u2; exact (val_0 u2).1 hin
    · have := u3 _ t1 e
      exact (val_m1 this).1 hin
end Go.Proofs.Ytknpfopepedmmaa
/-
  Checkers of proofs, plainly: states, and what holds of them.
-/
namespace Go.Proofs.Ytknpfopepedmmaa
set_option linter.unusedVariables false
set_option linter.unusedSimpArgs false
/-- A checker: clauses, which are there, the trail with its clauses (-1: none), how much of it stays, a clause that is false (-1: none). -/
structure RS where
  cl : List (List Int)
  on : List Bool
  tr : List (Int × Int)
  base : Nat
  bk : Int
def RS.T (S : RS) : List Int := S.tr.map (·.1)
def RS.onA (S : RS) (i : Nat) : Bool := S.on.getD i false
def RS.c (S : RS) (i : Nat) : List Int := S.cl.getD i []
def RS.asg (S : RS) (l b : Int) : RS := { S with tr := S.tr ++ [(l, b)] }
theorem RS.T_len (S : RS) : S.T.length = S.tr.length := by simp [RS.T]
theorem RS.T_asg (S : RS) (l b : Int) : (S.asg l b).T = S.T ++ [l] := by simp [RS.T, RS.asg]
/-- How a literal of the trail came. -/
def JustAt (S : RS) (A : List Int) (i : Nat) (x b : Int) : Prop := (b = -1 ∧ S.base ≤ i ∧ x ∈ A) ∨ ∃ k : Nat, b = (k : Int) ∧ k < S.cl.length ∧ S.onA k = true ∧ x ∈ S.c k ∧ ∀ y ∈ S.c k, y ≠ x → -y ∈ S.T.take i
structure RInv (S : RS) (A : List Int) : Prop where
  con : Con S.T
  len : S.on.length = S.cl.length
  c0 : ∀ i, i < S.cl.length → Lit30s (S.c i) ∧ (S.c i).Nodup
  base : S.base ≤ S.tr.length
  just : ∀ i, i < S.tr.length → JustAt S A i (S.tr.getD i (0, 0)).1 (S.tr.getD i (0, 0)).2
theorem RInv.nz {S : RS} {A : List Int} (h : RInv S A) {i : Nat} (hi : i < S.cl.length) : ∀ y ∈ S.c i, y ≠ 0 := fun y hy => ((h.c0 i hi).1 y hy).1
theorem getD_T (S : RS) (i : Nat) : S.T.getD i 0 = (S.tr.getD i (0, 0)).1 := by
  unfold RS.T
  rw [List.getD_eq_getElem?_getD, List.getD_eq_getElem?_getD, List.getElem?_map]
  cases S.tr[i]? <;> rfl
theorem getD_snocP {α : Type} (l : List α) (x d : α) (i : Nat) : (l ++ [x]).getD i d = if i < l.length then l.getD i d else if i = l.length then x else d := by
  rw [List.getD_eq_getElem?_getD]
  by_cases h : i < l.length
  · rw [if_pos h, List.getElem?_append_left h, List.getD_eq_getElem?_getD]
  · rw [if_neg h, List.getElem?_append_right (by omega)]
    by_cases e : i = l.length
    · rw [if_pos e, e]; simp
    · rw [if_neg e, List.getElem?_eq_none (by simp; omega)]; rfl
theorem RInv.asg {S : RS} {A : List Int} (h : RInv S A) {l b : Int} (hl : lit30 l) (hv : valR l S.T = 0) (hj : JustAt S A S.tr.length l b) : RInv (S.asg l b) A := by
  have hT := S.T_asg l b
  refine ⟨by rw [hT]; exact h.con.snoc hl hv, h.len, h.c0, by show S.base ≤ (S.tr ++ [(l, b)]).length; rw [List.length_append]; have := h.base; omega, fun i hi => ?_⟩
  have hi' : i < S.tr.length + 1 := by have : (S.asg l b).tr.length = S.tr.length + 1 := by simp [RS.asg]
                                       omega
  have e : (S.asg l b).tr.getD i (0, 0) = if i < S.tr.length then S.tr.getD i (0, 0) else (l, b) := by
    show (S.tr ++ [(l, b)]).getD i (0, 0) = _
    rw [getD_snocP]
    by_cases h1 : i < S.tr.length
    · rw [if_pos h1, if_pos h1]
    · rw [if_neg h1, if_neg h1, if_pos (by omega)]
  have take_eq : (S.asg l b).T.take i = S.T.take i := by
    rw [hT, List.take_append_of_le_length (by rw [S.T_len]; omega)]
  have lift : ∀ x c, JustAt S A i x c → JustAt (S.asg l b) A i x c := fun x c hh => by
    rcases hh with hh | ⟨k, k1, k2, k3, k4, k5⟩
    · exact .inl hh
    · exact .inr ⟨k, k1, k2, k3, k4, fun y hy hn => by rw [take_eq]; exact k5 y hy hn⟩
  rw [e]
  by_cases h1 : i < S.tr.length
  · rw [if_pos h1]
    exact lift _ _ (h.just i h1)
  · rw [if_neg h1]
    obtain rfl : i = S.tr.length := by omega
    exact lift _ _ hj
/-- Closed by all clauses that are there. -/
def ClosedS (S : RS) (T : List Int) : Prop := ∀ i, i < S.cl.length → S.onA i = true → ClosedC (S.c i) T
/-- The trail is in what is closed and has what was assumed. -/
theorem RInv.sub {S : RS} {A : List Int} (h : RInv S A) {T : List Int} (hT : Con T) (hA : ∀ x ∈ A, x ∈ T) (hcl : ClosedS S T) : ∀ x ∈ S.T, x ∈ T := by
  have key : ∀ n, n ≤ S.tr.length → ∀ x ∈ S.T.take n, x ∈ T := by
    intro n
    induction n with
    | zero => intro _ x hx; simp at hx
    | succ n ih =>
      intro hn x hx
      have hn2 : n < S.T.length := by rw [S.T_len]; omega
      rw [List.take_succ_eq_append_getElem hn2] at hx
      rcases List.mem_append.1 hx with hx | hx
      · exact ih (by omega) x hx
      · have hx := List.mem_singleton.1 hx
        have e : x = (S.tr.getD n (0, 0)).1 := by rw [hx, ← getD_T, List.getD_eq_getElem?_getD, List.getElem?_eq_getElem hn2]; rfl
        rcases h.just n (by omega) with ⟨-, -, hA'⟩ | ⟨k, -, k2, k3, k4, k5⟩
        · rw [e]; exact hA _ hA'
        · rw [e]
          exact told_core (h.nz k2) hT (hcl k k2 k3) k4 fun y hy hne => ih (by omega) _ (k5 y hy hne)
  intro x hx
  exact key S.tr.length (Nat.le_refl _) x (by rw [← S.T_len, List.take_length]; exact hx)
/-! ### all that is told -/
/-- Nothing but the trail has grown. -/
structure Ext (S S' : RS) : Prop where
  cl : S'.cl = S.cl
  on : S'.on = S.on
  base : S'.base = S.base
  bk : S'.bk = S.bk
  tr : ∃ m, S'.tr = S.tr ++ m
theorem Ext.refl (S : RS) : Ext S S := ⟨rfl, rfl, rfl, rfl, [], by simp⟩
theorem Ext.trans {a b c : RS} (h : Ext a b) (k : Ext b c) : Ext a c := by
  obtain ⟨m, hm⟩ := h.tr
  obtain ⟨n, hn⟩ := k.tr
  exact ⟨k.cl.trans h.cl, k.on.trans h.on, k.base.trans h.base, k.bk.trans h.bk, m ++ n, by rw [hn, hm, List.append_assoc]⟩
theorem Ext.asg (S : RS) (l b : Int) : Ext S (S.asg l b) := ⟨rfl, rfl, rfl, rfl, [(l, b)], rfl⟩
theorem Ext.c {S S' : RS} (h : Ext S S') (i : Nat) : S'.c i = S.c i := by unfold RS.c; rw [h.cl]
theorem Ext.onA {S S' : RS} (h : Ext S S') (i : Nat) : S'.onA i = S.onA i := by unfold RS.onA; rw [h.on]
theorem Ext.T {S S' : RS} (h : Ext S S') : S'.T = S.T ++ S'.T.drop S.tr.length := by
  obtain ⟨m, hm⟩ := h.tr
  have e : S'.T = S.T ++ m.map (·.1) := by unfold RS.T; rw [hm, List.map_append]
  rw [e, ← S.T_len, List.drop_left]
theorem Ext.len {S S' : RS} (h : Ext S S') : S.tr.length ≤ S'.tr.length := by
  obtain ⟨m, hm⟩ := h.tr
  rw [hm, List.length_append]; omega
/-- A clause that is false, of a number. -/
def Fails (S : RS) (id : Int) : Prop := ∃ k : Nat, id = (k : Int) ∧ k < S.cl.length ∧ S.onA k = true ∧ falR (S.c k) S.T = true
def RS.visit (S : RS) : List Nat → RS × Int
  | [] => (S, -1)
  | i :: r => if S.onA i = false then S.visit r else if falR (S.c i) S.T = true then (S, (i : Int)) else if telR (S.c i) S.T ≠ 0 then (S.asg (telR (S.c i) S.T) (i : Int)).visit r else S.visit r
def Stay (S S' : RS) (i : Nat) : Prop := ClosedC (S.c i) S'.T ∨ ∃ y ∈ S.c i, -y ∈ S'.T.drop S.tr.length
theorem Stay.ext {S S1 S' : RS} {A : List Int} {i : Nat} (h1 : Ext S S1) (h2 : Ext S1 S') (hi : i < S.cl.length) (h : RInv S' A) (hc : ClosedC (S.c i) S1.T) : Stay S S' i := by
  have hn0 : ∀ y ∈ S.c i, y ≠ 0 := fun y hy => h.nz (by rw [h2.cl, h1.cl]; exact hi) y (by rw [h2.c, h1.c]; exact hy)
  by_cases hy : ∃ y ∈ S.c i, -y ∈ S'.T.drop S1.tr.length
  · obtain ⟨y, hy, hd⟩ := hy
    refine .inr ⟨y, hy, ?_⟩
    have e : S'.T.drop S1.tr.length = (S'.T.drop S.tr.length).drop (S1.tr.length - S.tr.length) := by
      rw [List.drop_drop]; congr 1; have := h1.len; omega
    rw [e] at hd
    exact List.mem_of_mem_drop hd
  · refine .inl ?_
    have e := h2.T
    rw [e]
    have hcon := h.con
    rw [e] at hcon
    exact closed_ext hn0 hcon hc fun y hyc hm => hy ⟨y, hyc, hm⟩
theorem asg_inv {S : RS} {A : List Int} (h : RInv S A) {i : Nat} (hi : i < S.cl.length) (hon : S.onA i = true) (hne : telR (S.c i) S.T ≠ 0) : RInv (S.asg (telR (S.c i) S.T) (i : Int)) A := by
  obtain ⟨t1, t2, t3⟩ := tel_ne (h.nz hi) hne
  refine h.asg ((h.c0 i hi).1 _ t1) t2 (.inr ⟨i, rfl, hi, hon, t1, fun y hy hyn => ?_⟩)
  rw [← S.T_len, List.take_length]
  exact (val_m1 (t3 y hy hyn)).2
theorem visit_law {A : List Int} : ∀ (L : List Nat) (S : RS), (∀ i ∈ L, i < S.cl.length) → RInv S A → RInv (S.visit L).1 A ∧ Ext S (S.visit L).1 ∧ (((S.visit L).2 = -1 ∧ ∀ i ∈ L, S.onA i = true → Stay S (S.visit L).1 i) ∨ Fails (S.visit L).1 (S.visit L).2)
  | [], S, hL, h => ⟨h, Ext.refl S, .inl ⟨rfl, fun i hi => by simp at hi⟩⟩
  | i :: r, S, hL, h => by
    have hi := hL i List.mem_cons_self
    have hr : ∀ j ∈ r, j < S.cl.length := fun j hj => hL j (List.mem_cons_of_mem _ hj)
    unfold RS.visit
    by_cases hon : S.onA i = false
    · rw [if_pos hon]
      obtain ⟨a1, a2, a3⟩ := visit_law r S hr h
      refine ⟨a1, a2, ?_⟩
      rcases a3 with ⟨e, a3⟩ | a3
      · refine .inl ⟨e, fun j hj hjo => ?_⟩
        rcases List.mem_cons.1 hj with rfl | hj
        · rw [hon] at hjo; cases hjo
        · exact a3 j hj hjo
      · exact .inr a3
    · rw [if_neg hon]
      have hon' : S.onA i = true := by simpa using hon
      by_cases hf : falR (S.c i) S.T = true
      · rw [if_pos hf]
        exact ⟨h, Ext.refl S, .inr ⟨i, rfl, hi, hon', hf⟩⟩
      · rw [if_neg hf]
        by_cases ht : telR (S.c i) S.T ≠ 0
        · rw [if_pos ht]
          have h1 := asg_inv h hi hon' ht
          obtain ⟨a1, a2, a3⟩ := visit_law r (S.asg (telR (S.c i) S.T) (i : Int)) hr h1
          have x1 := Ext.asg S (telR (S.c i) S.T) (i : Int)
          refine ⟨a1, x1.trans a2, ?_⟩
          rcases a3 with ⟨e, a3⟩ | a3
          · refine .inl ⟨e, fun j hj hjo => ?_⟩
            rcases List.mem_cons.1 hj with rfl | hj
            · refine Stay.ext x1 a2 hi a1 ?_
              rw [S.T_asg]
              exact closed_told (h.nz hi) ht
            · rcases a3 j hj (by rw [x1.onA]; exact hjo) with b | ⟨y, hy, hd⟩
              · exact .inl (by rw [← x1.c]; exact b)
              · refine .inr ⟨y, by rw [← x1.c]; exact hy, ?_⟩
                have e2 : (S.asg (telR (S.c i) S.T) (i : Int)).tr.length = S.tr.length + 1 := by simp [RS.asg]
                rw [e2, ← List.drop_drop] at hd
                exact List.mem_of_mem_drop hd
          · exact .inr a3
        · rw [if_neg ht]
          obtain ⟨a1, a2, a3⟩ := visit_law r S hr h
          refine ⟨a1, a2, ?_⟩
          rcases a3 with ⟨e, a3⟩ | a3
          · refine .inl ⟨e, fun j hj hjo => ?_⟩
            rcases List.mem_cons.1 hj with rfl | hj
            · exact Stay.ext (Ext.refl S) a2 hi a1 ⟨by simpa using hf, Decidable.byContradiction fun hh => ht hh⟩
            · exact a3 j hj hjo
          · exact .inr a3
/-- The clauses that have a literal. -/
def RS.ofL (S : RS) (l : Int) : List Nat := (List.range S.cl.length).filter fun i => decide (l ∈ S.c i)
theorem ofL_mem {S : RS} {l : Int} {i : Nat} : i ∈ S.ofL l ↔ i < S.cl.length ∧ l ∈ S.c i := by simp [RS.ofL]
def RS.spread : Nat → RS → Nat → RS × Int
  | 0, S, _ => (S, -1)
  | f + 1, S, p => if p < S.tr.length then (if (S.visit (S.ofL (-(S.tr.getD p (0, 0)).1))).2 = -1 then (S.visit (S.ofL (-(S.tr.getD p (0, 0)).1))).1.spread f (p + 1) else S.visit (S.ofL (-(S.tr.getD p (0, 0)).1))) else (S, -1)
/-- Which clauses may still tell something: those that have a literal that has come to be false from a place on. -/
def Pnd (S : RS) (p m : Nat) : Prop := ∀ i, i < m → S.onA i = true → ClosedC (S.c i) S.T ∨ ∃ y ∈ S.c i, -y ∈ S.T.drop p
theorem Con.len {l : List Int} (h : Con l) : l.length ≤ 1073741824 := by
  have hs : (l.map fun x => x.natAbs - 1).Nodup := by
    refine List.Pairwise.map _ ?_ (List.Pairwise.and_mem.1 h.nd)
    intro a b ⟨ha, hb, hne⟩ he
    have a0 := (h.li a ha).1
    have b0 := (h.li b hb).1
    have e : a = b ∨ a = -b := by omega
    rcases e with e | e
    · exact hne e
    · rw [e] at ha; exact h.co _ hb ha
  have := hs.length_le_of_subset (l₂ := List.range 1073741824) (fun v hv => by
    obtain ⟨x, hx, rfl⟩ := List.mem_map.1 hv
    obtain ⟨x0, x1, x2⟩ := h.li x hx
    rw [List.mem_range]; omega)
  simpa using this
theorem spread_law {A : List Int} : ∀ (f : Nat) (S : RS) (p m : Nat), RInv S A → Pnd S p m → m ≤ S.cl.length → p ≤ S.tr.length → 1073741824 < f + p →
    RInv (RS.spread f S p).1 A ∧ Ext S (RS.spread f S p).1 ∧ (((RS.spread f S p).2 = -1 ∧ ∀ i, i < m → S.onA i = true → ClosedC (S.c i) (RS.spread f S p).1.T) ∨ Fails (RS.spread f S p).1 (RS.spread f S p).2)
  | 0, S, p, m, h, hp, hm, hl, hf => by have := h.con.len; rw [S.T_len] at this; omega
  | f + 1, S, p, m, h, hp, hm, hl, hf => by
    rw [RS.spread]
    by_cases hlt : p < S.tr.length
    · rw [if_pos hlt]
      obtain ⟨l, hll⟩ : ∃ l, l = (S.tr.getD p (0, 0)).1 := ⟨_, rfl⟩
      rw [← hll]
      obtain ⟨a1, a2, a3⟩ := visit_law (A := A) (S.ofL (-l)) S (fun i hi => (ofL_mem.1 hi).1) h
      obtain ⟨R, hR⟩ : ∃ R, R = S.visit (S.ofL (-l)) := ⟨_, rfl⟩
      rw [← hR] at a1 a2 a3 ⊢
      by_cases hid : R.2 = -1
      · rw [if_pos hid]
        have hst : ∀ i ∈ S.ofL (-l), S.onA i = true → Stay S R.1 i := by
          rcases a3 with ⟨-, a3⟩ | ⟨k, hk, -⟩
          · exact a3
          · rw [hid] at hk; omega
        have hTp : S.T.drop p = l :: S.T.drop (p + 1) := by
          have hp2 : p < S.T.length := by rw [S.T_len]; exact hlt
          rw [List.drop_eq_getElem_cons hp2]
          congr 1
          rw [hll, ← getD_T, List.getD_eq_getElem?_getD, List.getElem?_eq_getElem hp2]; rfl
        have hdrop : ∀ y, y ∈ S.T.drop (p + 1) → y ∈ R.1.T.drop (p + 1) := fun y hy => by
          rw [a2.T, List.drop_append_of_le_length (by rw [S.T_len]; omega)]
          exact List.mem_append.2 (.inl hy)
        have hnew : ∀ y, y ∈ R.1.T.drop S.tr.length → y ∈ R.1.T.drop (p + 1) := fun y hy => by
          have e : R.1.T.drop S.tr.length = (R.1.T.drop (p + 1)).drop (S.tr.length - (p + 1)) := by
            rw [List.drop_drop]; congr 1; omega
          rw [e] at hy
          exact List.mem_of_mem_drop hy
        have hp1 : Pnd R.1 (p + 1) m := fun i hi hon => by
          rw [a2.c]
          rw [a2.onA] at hon
          have fin : Stay S R.1 i → ClosedC (S.c i) R.1.T ∨ ∃ y ∈ S.c i, -y ∈ R.1.T.drop (p + 1) := fun hs => by
            rcases hs with hs | ⟨y, hy, hd⟩
            · exact .inl hs
            · exact .inr ⟨y, hy, hnew _ hd⟩
          by_cases hin : -l ∈ S.c i
          · exact fin (hst i (ofL_mem.2 ⟨by omega, hin⟩) hon)
          · rcases hp i hi hon with hc | ⟨y, hy, hd⟩
            · exact fin (Stay.ext (Ext.refl S) a2 (by omega) a1 hc)
            · rw [hTp] at hd
              rcases List.mem_cons.1 hd with e | hd
              · have : y = -l := by omega
                rw [this] at hy; exact absurd hy hin
              · exact .inr ⟨y, hy, hdrop _ hd⟩
        obtain ⟨b1, b2, b3⟩ := spread_law f R.1 (p + 1) m a1 hp1 (by rw [a2.cl]; exact hm) (by have := a2.len; omega) (by omega)
        refine ⟨b1, a2.trans b2, ?_⟩
        rcases b3 with ⟨e, b3⟩ | b3
        · refine .inl ⟨e, fun i hi hon => ?_⟩
          have := b3 i hi (by rw [a2.onA]; exact hon)
          rwa [a2.c] at this
        · exact .inr b3
      · rw [if_neg hid]
        refine ⟨a1, a2, ?_⟩
        rcases a3 with ⟨e, -⟩ | a3
        · exact absurd e hid
        · exact .inr a3
    · rw [if_neg hlt]
      refine ⟨h, Ext.refl S, .inl ⟨rfl, fun i hi hon => ?_⟩⟩
      rcases hp i hi hon with hc | ⟨y, hy, hd⟩
      · exact hc
      · rw [List.drop_eq_nil_of_le (by rw [S.T_len]; omega)] at hd
        simp at hd
/-! ### a clause is added, or goes -/
/-- Between two calls: the first m clauses are closed, or one is false. -/
structure Set_ (S : RS) (m : Nat) : Prop where
  inv : RInv S []
  base : S.base = S.tr.length
  cls : S.bk = -1 → ∀ i, i < m → S.onA i = true → ClosedC (S.c i) S.T
  bad : S.bk ≠ -1 → Fails S S.bk
def fuel : Nat := 1073741825
def RS.fin (S : RS) (id : Int) : RS := { S with bk := id, base := S.tr.length }
/-- All that is told from a place on, for good. -/
def RS.all_ (S : RS) (p : Nat) : RS := (RS.spread fuel S p).1.fin (RS.spread fuel S p).2
def RS.settle (S : RS) (i : Nat) : RS :=
  if S.bk ≠ -1 then S
  else if falR (S.c i) S.T = true then { S with bk := (i : Int) }
  else if telR (S.c i) S.T ≠ 0 then (S.asg (telR (S.c i) S.T) (i : Int)).all_ S.base
  else S.all_ S.base
end Go.Proofs.Ytknpfopepedmmaa
/-
  Checkers of proofs, plainly: a clause is added, or goes; whether one follows, and of which.
-/
namespace Go.Proofs.Ytknpfopepedmmaa
set_option linter.unusedVariables false
set_option linter.unusedSimpArgs false
/-- The same clauses, the same of them there. -/
def SameC (S S' : RS) : Prop := S'.cl = S.cl ∧ S'.on = S.on
theorem SameC.refl (S : RS) : SameC S S := ⟨rfl, rfl⟩
theorem SameC.trans {a b c : RS} (h : SameC a b) (k : SameC b c) : SameC a c := ⟨k.1.trans h.1, k.2.trans h.2⟩
theorem Ext.same {S S' : RS} (h : Ext S S') : SameC S S' := ⟨h.cl, h.on⟩
theorem RInv.rebase {S : RS} (h : RInv S []) (b : Nat) (hb : b ≤ S.tr.length) (k : Int) : RInv { S with base := b, bk := k } [] :=
  ⟨h.con, h.len, h.c0, hb, fun i hi => by
    rcases h.just i hi with ⟨-, -, h3⟩ | h3
    · simp at h3
    · exact .inr h3⟩
theorem all_law {S : RS} {p m : Nat} (h : RInv S []) (hp : Pnd S p m) (hm : m ≤ S.cl.length) (hl : p ≤ S.tr.length) : Set_ (S.all_ p) m ∧ SameC S (S.all_ p) := by
  obtain ⟨a1, a2, a3⟩ := spread_law fuel S p m h hp hm hl (by unfold fuel; omega)
  obtain ⟨R, hR⟩ : ∃ R, R = RS.spread fuel S p := ⟨_, rfl⟩
  have e : S.all_ p = R.1.fin R.2 := by rw [hR]; rfl
  rw [e]
  rw [← hR] at a1 a2 a3
  refine ⟨⟨a1.rebase _ (Nat.le_refl _) _, rfl, fun hb i hi hon => ?_, fun hb => ?_⟩, ⟨a2.cl, a2.on⟩⟩
  · rcases a3 with ⟨-, a3⟩ | ⟨k, hk, -⟩
    · have := a3 i hi (by rw [← a2.onA]; exact hon)
      rw [← a2.c] at this
      exact this
    · have hb : R.2 = -1 := hb
      omega
  · rcases a3 with ⟨e, -⟩ | a3
    · exact absurd e hb
    · exact a3
theorem settle_law {S : RS} {m : Nat} (h : Set_ S m) (hm : m < S.cl.length) (hon : S.onA m = true) : Set_ (S.settle m) (m + 1) ∧ SameC S (S.settle m) := by
  unfold RS.settle
  by_cases hb : S.bk ≠ -1
  · rw [if_pos hb]
    exact ⟨⟨h.inv, h.base, fun e => absurd e hb, h.bad⟩, SameC.refl S⟩
  · rw [if_neg hb]
    have hb' : S.bk = -1 := Decidable.byContradiction hb
    by_cases hf : falR (S.c m) S.T = true
    · rw [if_pos hf]
      refine ⟨⟨h.inv.rebase _ h.inv.base _, h.base, fun e => ?_, fun _ => ⟨m, rfl, hm, hon, hf⟩⟩, rfl, rfl⟩
      have e : (m : Int) = -1 := e
      omega
    · rw [if_neg hf]
      by_cases ht : telR (S.c m) S.T ≠ 0
      · rw [if_pos ht]
        have h1 := asg_inv h.inv hm hon ht
        have e1 : (S.asg (telR (S.c m) S.T) (m : Int)).tr.length = S.tr.length + 1 := by simp [RS.asg]
        have hp : Pnd (S.asg (telR (S.c m) S.T) (m : Int)) S.base (m + 1) := fun i hi hoi => by
          have hoi : S.onA i = true := hoi
          rw [S.T_asg]
          show ClosedC (S.c i) _ ∨ ∃ y ∈ S.c i, _
          by_cases him : i = m
          · rw [him]; exact .inl (closed_told (h.inv.nz hm) ht)
          · have hci := h.cls hb' i (by omega) hoi
            have hcon := h1.con
            rw [S.T_asg] at hcon
            by_cases hy : ∃ y ∈ S.c i, -y ∈ [telR (S.c m) S.T]
            · obtain ⟨y, hy, hd⟩ := hy
              refine .inr ⟨y, hy, ?_⟩
              rw [h.base, ← S.T_len, List.drop_left]
              exact hd
            · exact .inl (closed_ext (h.inv.nz (by omega)) hcon hci fun y hyc hmm => hy ⟨y, hyc, hmm⟩)
        obtain ⟨b1, b2⟩ := all_law h1 hp (by show m + 1 ≤ S.cl.length; omega) (by rw [e1, h.base]; omega)
        exact ⟨b1, b2⟩
      · rw [if_neg ht]
        have hp : Pnd S S.base (m + 1) := fun i hi hoi => by
          by_cases him : i = m
          · rw [him]; exact .inl ⟨by simpa using hf, Decidable.byContradiction fun hh => ht hh⟩
          · exact .inl (h.cls hb' i (by omega) hoi)
        exact all_law h.inv hp (by omega) (by rw [h.base]; exact Nat.le_refl _)
/-- A clause more. -/
def RS.more (S : RS) (c : List Int) : RS := { S with cl := S.cl ++ [c], on := S.on ++ [true] }
def RS.add (S : RS) (c : List Int) : RS := (S.more c).settle S.cl.length
theorem more_c {S : RS} {c : List Int} {i : Nat} (hi : i < S.cl.length) : (S.more c).c i = S.c i := by
  unfold RS.c RS.more
  simp only
  rw [getD_snocP, if_pos hi]
theorem more_on {S : RS} {c : List Int} (hl : S.on.length = S.cl.length) {i : Nat} (hi : i < S.cl.length) : (S.more c).onA i = S.onA i := by
  unfold RS.onA RS.more
  simp only
  rw [getD_snocP, if_pos (by omega)]
theorem more_last {S : RS} {c : List Int} (hl : S.on.length = S.cl.length) : (S.more c).c S.cl.length = c ∧ (S.more c).onA S.cl.length = true := by
  unfold RS.c RS.onA RS.more
  simp only
  rw [getD_snocP, getD_snocP, if_neg (by omega), if_pos rfl, if_neg (by omega), if_pos hl.symm]
  exact ⟨rfl, rfl⟩
theorem more_len (S : RS) (c : List Int) : (S.more c).cl.length = S.cl.length + 1 := by simp [RS.more]
theorem RInv.more {S : RS} {A : List Int} (h : RInv S A) {c : List Int} (hc : Lit30s c) (hn : c.Nodup) : RInv (S.more c) A := by
  refine ⟨h.con, by simp [RS.more, h.len], fun i hi => ?_, h.base, fun i hi => ?_⟩
  · rw [more_len] at hi
    by_cases e : i < S.cl.length
    · rw [more_c e]; exact h.c0 i e
    · obtain rfl : i = S.cl.length := by omega
      rw [(more_last h.len).1]; exact ⟨hc, hn⟩
  · rcases h.just i hi with h1 | ⟨k, k1, k2, k3, k4, k5⟩
    · exact .inl h1
    · refine .inr ⟨k, k1, by rw [more_len]; omega, by rw [more_on h.len k2]; exact k3, by rw [more_c k2]; exact k4, fun y hy hne => ?_⟩
      rw [more_c k2] at hy
      exact k5 y hy hne
theorem Fails.more {S : RS} {c : List Int} {id : Int} (hl : S.on.length = S.cl.length) (h : Fails S id) : Fails (S.more c) id := by
  obtain ⟨k, k1, k2, k3, k4⟩ := h
  exact ⟨k, k1, by rw [more_len]; omega, by rw [more_on hl k2]; exact k3, by rw [more_c k2]; exact k4⟩
theorem add_law {S : RS} (h : Set_ S S.cl.length) {c : List Int} (hc : Lit30s c) (hn : c.Nodup) : Set_ (S.add c) (S.cl.length + 1) ∧ (S.add c).cl = S.cl ++ [c] ∧ (S.add c).on = S.on ++ [true] := by
  have h1 : Set_ (S.more c) S.cl.length := by
    refine ⟨h.inv.more hc hn, h.base, fun hb i hi hon => ?_, fun hb => (h.bad hb).more h.inv.len⟩
    rw [more_c hi]
    rw [more_on h.inv.len hi] at hon
    exact h.cls hb i hi hon
  obtain ⟨a1, a2⟩ := settle_law h1 (by rw [more_len]; omega) (more_last h.inv.len).2
  exact ⟨a1, a2.1, a2.2⟩
/-- All anew. -/
def RS.wipe (S : RS) : RS := { S with tr := [], base := 0, bk := -1 }
def RS.againN (S : RS) : Nat → RS
  | 0 => S.wipe
  | n + 1 => if (S.againN n).onA n = true then (S.againN n).settle n else S.againN n
theorem wipe_law {S : RS} (hl : S.on.length = S.cl.length) (h0 : ∀ i, i < S.cl.length → Lit30s (S.c i) ∧ (S.c i).Nodup) : Set_ S.wipe 0 :=
  ⟨⟨Con.nil, hl, h0, Nat.le_refl _, fun i hi => by simp [RS.wipe] at hi⟩, rfl, fun _ i hi => by omega, fun hb => absurd rfl hb⟩
theorem again_law {S : RS} (hl : S.on.length = S.cl.length) (h0 : ∀ i, i < S.cl.length → Lit30s (S.c i) ∧ (S.c i).Nodup) : ∀ n, n ≤ S.cl.length → Set_ (S.againN n) n ∧ SameC S (S.againN n)
  | 0, _ => ⟨wipe_law hl h0, rfl, rfl⟩
  | n + 1, hn => by
    obtain ⟨a1, a2⟩ := again_law hl h0 n (by omega)
    rw [RS.againN]
    by_cases hon : (S.againN n).onA n = true
    · rw [if_pos hon]
      obtain ⟨b1, b2⟩ := settle_law a1 (by rw [a2.1]; omega) hon
      exact ⟨b1, a2.trans b2⟩
    · rw [if_neg hon]
      refine ⟨⟨a1.inv, a1.base, fun hb i hi hoi => ?_, a1.bad⟩, a2⟩
      by_cases e : i = n
      · rw [e] at hoi; exact absurd hoi hon
      · exact a1.cls hb i (by omega) hoi
def RS.gone (S : RS) (id : Nat) : RS := { S with on := S.on.set id false }
def RS.uses (S : RS) (id : Nat) : Bool := decide (S.bk = (id : Int)) || S.tr.any fun e => decide (e.2 = (id : Int))
def RS.drop (S : RS) (id : Nat) : RS := if S.uses id = true then (S.gone id).againN S.cl.length else S.gone id
theorem gone_on {S : RS} {id i : Nat} (hid : id < S.on.length) : (S.gone id).onA i = if i = id then false else S.onA i := by
  unfold RS.onA RS.gone
  simp only
  rw [List.getD_eq_getElem?_getD, List.getElem?_set]
  by_cases e : id = i
  · subst e; rw [if_pos rfl, if_pos hid, if_pos rfl]; rfl
  · rw [if_neg e, if_neg (fun h => e h.symm), List.getD_eq_getElem?_getD]
theorem drop_law {S : RS} (h : Set_ S S.cl.length) {id : Nat} (hid : id < S.cl.length) : Set_ (S.drop id) S.cl.length ∧ (S.drop id).cl = S.cl ∧ (S.drop id).on = S.on.set id false := by
  have hlen : (S.gone id).on.length = (S.gone id).cl.length := by simp [RS.gone, h.inv.len]
  have hid' : id < S.on.length := by rw [h.inv.len]; exact hid
  unfold RS.drop
  by_cases hu : S.uses id = true
  · rw [if_pos hu]
    obtain ⟨a1, a2⟩ := again_law hlen h.inv.c0 S.cl.length (Nat.le_refl _)
    exact ⟨a1, a2.1, a2.2⟩
  · rw [if_neg hu]
    have hu' : S.uses id = false := by simpa using hu
    unfold RS.uses at hu'
    rw [Bool.or_eq_false_iff] at hu'
    obtain ⟨u1, u2⟩ := hu'
    have u1 : S.bk ≠ (id : Int) := by simpa using u1
    have u2 : ∀ i, i < S.tr.length → (S.tr.getD i (0, 0)).2 ≠ (id : Int) := fun i hi => by
      have := List.any_eq_false.1 u2 (S.tr.getD i (0, 0)) (by rw [List.getD_eq_getElem?_getD, List.getElem?_eq_getElem hi]; exact List.getElem_mem hi)
      simpa using this
    refine ⟨⟨⟨h.inv.con, hlen, h.inv.c0, h.inv.base, fun i hi => ?_⟩, h.base, fun hb i hi hon => ?_, fun hb => ?_⟩, rfl, rfl⟩
    · rcases h.inv.just i hi with h1 | ⟨k, k1, k2, k3, k4, k5⟩
      · exact .inl h1
      · refine .inr ⟨k, k1, k2, ?_, k4, k5⟩
        have hne : k ≠ id := fun e => u2 i hi (by rw [k1, e])
        rw [gone_on hid', if_neg hne]; exact k3
    · rw [gone_on hid'] at hon
      by_cases e : i = id
      · rw [if_pos e] at hon; cases hon
      · rw [if_neg e] at hon; exact h.cls hb i hi hon
    · obtain ⟨k, k1, k2, k3, k4⟩ := h.bad hb
      have k1 : S.bk = (k : Int) := k1
      refine ⟨k, k1, k2, ?_, k4⟩
      rw [gone_on hid', if_neg (fun e => u1 (by rw [k1, e]))]; exact k3
/-! ### whether a clause follows -/
/-- Can the clauses that are there be closed, with the literals of a clause the other way? -/
def OpenS (S : RS) (c : List Int) : Prop := ∃ T, Con T ∧ (∀ y ∈ c, -y ∈ T) ∧ ClosedS S T
theorem Fails.notOpen {S : RS} {A : List Int} (h : RInv S A) {id : Int} (hf : Fails S id) {T : List Int} (hT : Con T) (hA : ∀ x ∈ A, x ∈ T) : ¬ ClosedS S T := fun hcl => by
  obtain ⟨k, -, k2, k3, k4⟩ := hf
  exact not_false hT (hcl k k2 k3) fun y hy => h.sub hT hA hcl _ (fal_iff.1 k4 y hy).2
theorem why_broken {S : RS} {m : Nat} (h : Set_ S m) (hb : S.bk ≠ -1) (c : List Int) : ¬ OpenS S c := fun ⟨T, t1, t2, t3⟩ => Fails.notOpen h.inv (h.bad hb) t1 (fun x hx => by simp at hx) t3
theorem why_holds {S : RS} {m : Nat} (h : Set_ S m) {c : List Int} {l : Int} (hl : l ∈ c) (hv : l ∈ S.T) : ¬ OpenS S c := fun ⟨T, t1, t2, t3⟩ => t1.co l (h.inv.sub t1 (fun x hx => by simp at hx) t3 l hv) (t2 l hl)
/-- What a clause's literals, the other way, are assigned without a clause. -/
def RS.neg1 (S : RS) : List Int → RS
  | [] => S
  | l :: r => if valR l S.T = 0 then (S.asg (-l) (-1)).neg1 r else S.neg1 r
theorem neg1_law {A : List Int} : ∀ (r : List Int) (S : RS), RInv S A → (∀ l ∈ r, lit30 l ∧ -l ∈ A ∧ l ∉ S.T) → (∀ l ∈ r, -l ∉ r) → RInv (S.neg1 r) A ∧ Ext S (S.neg1 r) ∧ ∀ l ∈ r, -l ∈ (S.neg1 r).T
  | [], S, h, _, _ => ⟨h, Ext.refl S, fun l hl => by simp at hl⟩
  | l :: r, S, h, h1, h2 => by
    obtain ⟨l1, l2, l3⟩ := h1 l List.mem_cons_self
    have hr : ∀ x ∈ r, -x ∉ r := fun x hx hn => h2 x (List.mem_cons_of_mem _ hx) (List.mem_cons_of_mem _ hn)
    unfold RS.neg1
    by_cases hv : valR l S.T = 0
    · rw [if_pos hv]
      obtain ⟨v1, v2⟩ := val_0 hv
      have lb : lit30 (-l) := by obtain ⟨a, b, c⟩ := l1; exact ⟨by omega, by omega, by omega⟩
      have ha := h.asg (l := -l) (b := -1) lb (val_zero v2 (by rw [Int.neg_neg]; exact v1)) (.inl ⟨rfl, h.base, l2⟩)
      obtain ⟨b1, b2, b3⟩ := neg1_law r (S.asg (-l) (-1)) ha (fun x hx => by
        obtain ⟨x1, x2, x3⟩ := h1 x (List.mem_cons_of_mem _ hx)
        refine ⟨x1, x2, ?_⟩
        rw [S.T_asg]
        intro hm
        rcases List.mem_append.1 hm with hm | hm
        · exact x3 hm
        · have e := List.mem_singleton.1 hm
          exact h2 l List.mem_cons_self (by rw [← e]; exact List.mem_cons_of_mem _ hx)) hr
      have x1 := Ext.asg S (-l) (-1)
      refine ⟨b1, x1.trans b2, fun x hx => ?_⟩
      rcases List.mem_cons.1 hx with rfl | hx
      · rw [b2.T, S.T_asg]
        exact List.mem_append.2 (.inl (by simp))
      · exact b3 x hx
    · rw [if_neg hv]
      obtain ⟨b1, b2, b3⟩ := neg1_law r S h (fun x hx => h1 x (List.mem_cons_of_mem _ hx)) hr
      refine ⟨b1, b2, fun x hx => ?_⟩
      rcases List.mem_cons.1 hx with rfl | hx
      · rw [b2.T]
        refine List.mem_append.2 (.inl ?_)
        rcases valR_cases x S.T with e | e | e
        · exact absurd (val_1 e) l3
        · exact absurd e hv
        · exact (val_m1 e).2
      · exact b3 x hx
/-- A clause's literals, the other way, are spread. -/
def RS.try_ (S : RS) (c : List Int) : RS × Int := RS.spread fuel (S.neg1 c) S.base
theorem try_law {S : RS} (h : Set_ S S.cl.length) (hb : S.bk = -1) {c : List Int} (hc : Lit30s c) (hf : ∀ l ∈ c, -l ∉ c) (hv : ∀ l ∈ c, l ∉ S.T) :
    RInv (S.try_ c).1 (c.map fun y => -y) ∧ Ext S (S.try_ c).1 ∧ (((S.try_ c).2 = -1 ∧ OpenS S c) ∨ (Fails (S.try_ c).1 (S.try_ c).2 ∧ ¬ OpenS S c)) := by
  have hinv : RInv S (c.map fun y => -y) := ⟨h.inv.con, h.inv.len, h.inv.c0, h.inv.base, fun i hi => by
    rcases h.inv.just i hi with ⟨-, -, h3⟩ | h3
    · simp at h3
    · exact .inr h3⟩
  obtain ⟨n1, n2, n3⟩ := neg1_law c S hinv (fun l hl => ⟨hc l hl, List.mem_map.2 ⟨l, hl, rfl⟩, hv l hl⟩) hf
  have hp : Pnd (S.neg1 c) S.base S.cl.length := fun i hi hon => by
    rw [n2.c]
    rw [n2.onA] at hon
    rw [h.base]
    exact Stay.ext (Ext.refl S) n2 hi n1 (h.cls hb i hi hon)
  obtain ⟨a1, a2, a3⟩ := spread_law fuel (S.neg1 c) S.base S.cl.length n1 hp (by rw [n2.cl]; exact Nat.le_refl _) (by have := n2.len; have := h.base; omega) (by unfold fuel; omega)
  have ext := n2.trans a2
  have hneg : ∀ y ∈ c, -y ∈ (S.try_ c).1.T := fun y hy => by
    show -y ∈ (RS.spread fuel (S.neg1 c) S.base).1.T
    rw [a2.T]
    exact List.mem_append.2 (.inl (n3 y hy))
  refine ⟨a1, ext, ?_⟩
  rcases a3 with ⟨e, a3⟩ | a3
  · refine .inl ⟨e, (S.try_ c).1.T, a1.con, hneg, fun i hi hon => ?_⟩
    have := a3 i hi (by rw [n2.onA]; exact hon)
    rwa [n2.c] at this
  · refine .inr ⟨a3, fun ⟨T, t1, t2, t3⟩ => Fails.notOpen a1 a3 t1 (fun x hx => ?_) fun i hi hon => ?_⟩
    · obtain ⟨y, hy, rfl⟩ := List.mem_map.1 hx
      exact t2 y hy
    · rw [ext.c]
      exact t3 i (by rw [← ext.cl]; exact hi) (by rw [← ext.onA]; exact hon)
/-! ### of which clauses -/
/-- Clauses with all those by which their literals came. -/
def RsP (S : RS) (id : Nat) (R : List Nat) : Prop := id ∈ R ∧ ∀ j ∈ R, j < S.cl.length ∧ S.onA j = true ∧ ∀ l ∈ S.c j, ∀ i, i < S.tr.length → ((S.tr.getD i (0, 0)).1 = l ∨ (S.tr.getD i (0, 0)).1 = -l) → (S.tr.getD i (0, 0)).2 = -1 ∨ ∃ k ∈ R, (S.tr.getD i (0, 0)).2 = (k : Int)
theorem core_in {S : RS} {A : List Int} (h : RInv S A) {id : Nat} {R : List Nat} (hR : RsP S id R) {T : List Int} (hT : Con T) (hA : ∀ x ∈ A, x ∈ T) (hcl : ∀ j ∈ R, ClosedC (S.c j) T) :
    ∀ n i, i < n → i < S.tr.length → ((S.tr.getD i (0, 0)).2 = -1 ∨ ∃ k ∈ R, (S.tr.getD i (0, 0)).2 = (k : Int)) → (S.tr.getD i (0, 0)).1 ∈ T
  | 0, i, hn, _, _ => by omega
  | n + 1, i, hn, hi, hb => by
    rcases h.just i hi with ⟨-, -, h3⟩ | ⟨k, k1, k2, k3, k4, k5⟩
    · exact hA _ h3
    · have hk : k ∈ R := by
        rcases hb with e | ⟨k', hk', e⟩
        · omega
        · have : k = k' := by omega
          rw [this]; exact hk'
      refine told_core (h.nz k2) hT (hcl k hk) k4 fun y hy hne => ?_
      obtain ⟨q, hq, e⟩ := List.getElem_of_mem (k5 y hy hne)
      have hql : q < i := by rw [List.length_take] at hq; omega
      have e1 : (S.tr.getD q (0, 0)).1 = -y := by
        rw [← getD_T, List.getD_eq_getElem?_getD, List.getElem?_eq_getElem (by rw [S.T_len]; omega)]
        rw [List.getElem_take] at e
        exact e
      rw [← e1]
      exact core_in h hR hT hA hcl n q (by omega) (by omega) ((hR.2 k hk).2.2 y hy q (by omega) (.inr e1))
theorem mem_T {S : RS} {x : Int} (h : x ∈ S.T) : ∃ i, i < S.tr.length ∧ (S.tr.getD i (0, 0)).1 = x := by
  obtain ⟨q, hq, e⟩ := List.getElem_of_mem h
  refine ⟨q, by rw [← S.T_len]; exact hq, ?_⟩
  rw [← getD_T, List.getD_eq_getElem?_getD, List.getElem?_eq_getElem hq]
  exact e
theorem core_false {S : RS} {A : List Int} (h : RInv S A) {id : Nat} {R : List Nat} (hR : RsP S id R) (hf : falR (S.c id) S.T = true) {T : List Int} (hT : Con T) (hA : ∀ x ∈ A, x ∈ T) : ¬ ∀ j ∈ R, ClosedC (S.c j) T := fun hcl => by
  refine not_false hT (hcl id hR.1) fun y hy => ?_
  obtain ⟨i, hi, e⟩ := mem_T (fal_iff.1 hf y hy).2
  rw [← e]
  exact core_in h hR hT hA hcl (i + 1) i (by omega) hi ((hR.2 id hR.1).2.2 y hy i hi (.inr e))
theorem core_holds {S : RS} {A : List Int} (h : RInv S A) {id : Nat} {R : List Nat} (hR : RsP S id R) {i : Nat} (hi : i < S.tr.length) (hb : (S.tr.getD i (0, 0)).2 = (id : Int)) {T : List Int} (hT : Con T) (hA : ∀ x ∈ A, x ∈ T) (hn : -(S.tr.getD i (0, 0)).1 ∈ T) : ¬ ∀ j ∈ R, ClosedC (S.c j) T := fun hcl =>
  hT.co _ (core_in h hR hT hA hcl (i + 1) i (by omega) hi (.inr ⟨id, hR.1, hb⟩)) hn
/-- All literals of a clause are assigned. -/
def AllIn (S : RS) (j : Nat) : Prop := ∀ l ∈ S.c j, l ∈ S.T ∨ -l ∈ S.T
theorem Fails.allIn {S : RS} {k : Nat} (hf : falR (S.c k) S.T = true) : AllIn S k := fun l hl => .inr (fal_iff.1 hf l hl).2
theorem just_allIn {S : RS} {A : List Int} (h : RInv S A) {i k : Nat} (hi : i < S.tr.length) (hk : (S.tr.getD i (0, 0)).2 = (k : Int)) : AllIn S k ∧ k < S.cl.length ∧ S.onA k = true := by
  rcases h.just i hi with ⟨e, -, -⟩ | ⟨k', k1, k2, k3, k4, k5⟩
  · omega
  · obtain rfl : k = k' := by omega
    refine ⟨fun l hl => ?_, k2, k3⟩
    by_cases e : l = (S.tr.getD i (0, 0)).1
    · refine .inl ?_
      rw [e, ← getD_T, List.getD_eq_getElem?_getD, List.getElem?_eq_getElem (by rw [S.T_len]; exact hi)]
      exact List.getElem_mem _
    · exact .inr (List.mem_of_mem_take (k5 l hl e))
end Go.Proofs.Ytknpfopepedmmaa
