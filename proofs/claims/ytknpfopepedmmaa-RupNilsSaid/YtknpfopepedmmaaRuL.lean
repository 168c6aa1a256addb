/-
  Checkers of proofs, plainly: what clauses tell, trails, and what is closed.
-/
import Derived.Lib.Hide
namespace Go.Proofs.Ytknpfopepedmmaa
set_option linter.unusedVariables false
set_option linter.unusedSimpArgs false
def lit30 (x : Int) : Prop := x ≠ 0 ∧ -1073741824 ≤ x ∧ x ≤ 1073741824
def valR (l : Int) (lits : List Int) : Int := if lits.contains l then 1 else if lits.contains (-l) then -1 else 0
def falR (c lits : List Int) : Bool := c.all fun x => decide (valR x lits < 0)
def telG (lits : List Int) : List Int → Int → Int
  | [], l => l
  | x :: r, l => if valR x lits = 1 then 0 else if valR x lits = 0 then (if l ≠ 0 ∧ l ≠ x then 0 else telG lits r x) else telG lits r l
def telR (c lits : List Int) : Int := telG lits c 0
def Lit30s (c : List Int) : Prop := ∀ x ∈ c, lit30 x
theorem valR_cases (l : Int) (lits : List Int) : valR l lits = 1 ∨ valR l lits = 0 ∨ valR l lits = -1 := by
  unfold valR
  split
  · exact .inl rfl
  · split
    · exact .inr (.inr rfl)
    · exact .inr (.inl rfl)
theorem val_pos {x : Int} {l : List Int} (h : x ∈ l) : valR x l = 1 := by unfold valR; rw [if_pos (by simpa using h)]
theorem val_neg {x : Int} {l : List Int} (h : x ∉ l) (h2 : -x ∈ l) : valR x l = -1 := by unfold valR; rw [if_neg (by simpa using h), if_pos (by simpa using h2)]
theorem val_zero {x : Int} {l : List Int} (h : x ∉ l) (h2 : -x ∉ l) : valR x l = 0 := by unfold valR; rw [if_neg (by simpa using h), if_neg (by simpa using h2)]
theorem val_m1 {x : Int} {l : List Int} (h : valR x l = -1) : x ∉ l ∧ -x ∈ l := by
  by_cases h1 : x ∈ l
  · rw [val_pos h1] at h; omega
  · by_cases h2 : -x ∈ l
    · exact ⟨h1, h2⟩
    · rw [val_zero h1 h2] at h; omega
theorem val_0 {x : Int} {l : List Int} (h : valR x l = 0) : x ∉ l ∧ -x ∉ l := by
  by_cases h1 : x ∈ l
  · rw [val_pos h1] at h; omega
  · by_cases h2 : -x ∈ l
    · rw [val_neg h1 h2] at h; omega
    · exact ⟨h1, h2⟩
theorem val_1 {x : Int} {l : List Int} (h : valR x l = 1) : x ∈ l := by
  by_cases h1 : x ∈ l
  · exact h1
  · by_cases h2 : -x ∈ l
    · rw [val_neg h1 h2] at h; omega
    · rw [val_zero h1 h2] at h; omega
theorem val_lt {x : Int} {l : List Int} (h : valR x l < 0) : valR x l = -1 := by rcases valR_cases x l with e | e | e <;> omega
theorem telG_ne (lits : List Int) : ∀ (r : List Int) (l x : Int), (∀ y ∈ r, y ≠ 0) → telG lits r l = x → x ≠ 0 → (∀ y ∈ r, y ≠ x → valR y lits = -1) ∧ (l = x ∨ (l = 0 ∧ x ∈ r ∧ valR x lits = 0))
  | [], l, x, _, h, hx => ⟨fun y hy => by simp at hy, .inl h⟩
  | z :: r, l, x, h0, h, hx => by
    have hz0 := h0 z List.mem_cons_self
    have hr0 : ∀ y ∈ r, y ≠ 0 := fun y hy => h0 y (List.mem_cons_of_mem _ hy)
    unfold telG at h
    rcases valR_cases z lits with e | e | e
    · rw [if_pos e] at h; exact absurd h.symm hx
    · rw [if_neg (by omega), if_pos e] at h
      by_cases hl : l ≠ 0 ∧ l ≠ z
      · rw [if_pos hl] at h; exact absurd h.symm hx
      · rw [if_neg hl] at h
        obtain ⟨h1, h2⟩ := telG_ne lits r z x hr0 h hx
        have hzx : z = x := by
          rcases h2 with h2 | ⟨h2, -⟩
          · exact h2
          · exact absurd h2 hz0
        subst hzx
        refine ⟨fun y hy hne => ?_, ?_⟩
        · rcases List.mem_cons.1 hy with e2 | hy
          · exact absurd e2 hne
          · exact h1 y hy hne
        · by_cases h0 : l = 0
          · exact .inr ⟨h0, List.mem_cons_self, e⟩
          · exact .inl (by omega)
    · rw [if_neg (by omega), if_neg (by omega)] at h
      obtain ⟨h1, h2⟩ := telG_ne lits r l x hr0 h hx
      refine ⟨fun y hy hne => ?_, ?_⟩
      · rcases List.mem_cons.1 hy with e2 | hy
        · rw [e2]; exact e
        · exact h1 y hy hne
      · rcases h2 with h2 | ⟨h2, h3, h4⟩
        · exact .inl h2
        · exact .inr ⟨h2, List.mem_cons_of_mem _ h3, h4⟩
/-- What a clause tells: all its other literals are false. -/
theorem tel_ne {c lits : List Int} (h0 : ∀ y ∈ c, y ≠ 0) (h : telR c lits ≠ 0) : telR c lits ∈ c ∧ valR (telR c lits) lits = 0 ∧ ∀ y ∈ c, y ≠ telR c lits → valR y lits = -1 := by
  obtain ⟨h1, h2⟩ := telG_ne lits c 0 _ h0 rfl h
  rcases h2 with h2 | ⟨-, h2, h3⟩
  · exact absurd h2.symm h
  · exact ⟨h2, h3, h1⟩
theorem telG_is (lits : List Int) (x : Int) (hx : x ≠ 0) (hv : valR x lits = 0) : ∀ (r : List Int) (l : Int), (∀ y ∈ r, y ≠ x → valR y lits = -1) → ((l = 0 ∧ x ∈ r) ∨ l = x) → telG lits r l = x
  | [], l, _, h => by
    rcases h with ⟨-, h⟩ | h
    · simp at h
    · exact h
  | z :: r, l, h1, h => by
    have hr : ∀ y ∈ r, y ≠ x → valR y lits = -1 := fun y hy => h1 y (List.mem_cons_of_mem _ hy)
    unfold telG
    by_cases e : z = x
    · subst e
      rw [if_neg (by omega), if_pos hv]
      have hl : ¬ (l ≠ 0 ∧ l ≠ z) := by rcases h with ⟨h, -⟩ | h <;> omega
      rw [if_neg hl]
      exact telG_is lits z hx hv r z hr (.inr rfl)
    · have hz := h1 z List.mem_cons_self e
      rw [if_neg (by omega), if_neg (by omega)]
      refine telG_is lits x hx hv r l hr ?_
      rcases h with ⟨h, hm⟩ | h
      · rcases List.mem_cons.1 hm with e2 | hm
        · exact absurd e2.symm e
        · exact .inl ⟨h, hm⟩
      · exact .inr h
theorem tel_is {c lits : List Int} {x : Int} (hx : x ≠ 0) (hc : x ∈ c) (hv : valR x lits = 0) (h : ∀ y ∈ c, y ≠ x → valR y lits = -1) : telR c lits = x := telG_is lits x hx hv c 0 h (.inl ⟨rfl, hc⟩)
theorem fal_iff {c lits : List Int} : falR c lits = true ↔ ∀ y ∈ c, y ∉ lits ∧ -y ∈ lits := by
  unfold falR
  rw [List.all_eq_true]
  constructor
  · intro h y hy
    exact val_m1 (val_lt (of_decide_eq_true (h y hy)))
  · intro h y hy
    rw [val_neg (h y hy).1 (h y hy).2]; rfl
/-- Literals that go together. -/
structure Con (l : List Int) : Prop where
  li : Lit30s l
  nd : l.Nodup
  co : ∀ x ∈ l, -x ∉ l
theorem Con.nil : Con [] := ⟨fun x hx => by simp at hx, by simp, fun x hx => by simp at hx⟩
theorem Con.snoc {l : List Int} (h : Con l) {x : Int} (hx : lit30 x) (h0 : valR x l = 0) : Con (l ++ [x]) := by
  obtain ⟨h1, h2⟩ := val_0 h0
  refine ⟨fun y hy => ?_, ?_, fun y hy hn => ?_⟩
  · rcases List.mem_append.1 hy with hy | hy
    · exact h.li y hy
    · rw [List.mem_singleton.1 hy]; exact hx
  · rw [List.nodup_append]
    refine ⟨h.nd, by simp, fun a ha b hb e => ?_⟩
    rw [List.mem_singleton.1 hb] at e; rw [e] at ha; exact h1 ha
  · rcases List.mem_append.1 hy with hy | hy
    · rcases List.mem_append.1 hn with hn | hn
      · exact h.co y hy hn
      · have := List.mem_singleton.1 hn
        rw [← this, Int.neg_neg] at h2; exact h2 hy
    · have e := List.mem_singleton.1 hy
      subst e
      rcases List.mem_append.1 hn with hn | hn
      · exact h2 hn
      · have := List.mem_singleton.1 hn; have := hx.1; omega
theorem Con.take {l : List Int} (h : Con l) (n : Nat) : Con (l.take n) :=
  ⟨fun x hx => h.li x (List.mem_of_mem_take hx), h.nd.sublist (List.take_sublist _ _), fun x hx hn => h.co x (List.mem_of_mem_take hx) (List.mem_of_mem_take hn)⟩
/-- Nothing follows of a clause. -/
def ClosedC (c T : List Int) : Prop := falR c T = false ∧ telR c T = 0
/-- Nothing follows of clauses. -/
def ClosedM (og : List (List Int)) (T : List Int) : Prop := ∀ c ∈ og, ClosedC c T
theorem ClosedM.sub {og og' : List (List Int)} {T : List Int} (h : ClosedM og T) (hs : ∀ c ∈ og', c ∈ og) : ClosedM og' T := fun c hc => h c (hs c hc)
/-- Can literals be closed by clauses? -/
def OpenM (og : List (List Int)) (st : List Int) : Prop := ∃ T, Con T ∧ (∀ x ∈ st, x ∈ T) ∧ ClosedM og T
theorem OpenM.sub {og og' : List (List Int)} {st : List Int} (h : OpenM og st) (hs : ∀ c ∈ og', c ∈ og) : OpenM og' st := by
  obtain ⟨T, h1, h2, h3⟩ := h
  exact ⟨T, h1, h2, h3.sub hs⟩
/-- Clauses of the same literals are closed alike. -/
theorem ClosedC.congr {c d T : List Int} (hc : ∀ y ∈ c, y ≠ 0) (he : ∀ y, y ∈ c ↔ y ∈ d) (h : ClosedC c T) : ClosedC d T := by
  have hd : ∀ y ∈ d, y ≠ 0 := fun y hy => hc y ((he y).2 hy)
  refine ⟨?_, ?_⟩
  · cases hf : falR d T with
    | false => rfl
    | true =>
      have := fal_iff.2 fun y hy => fal_iff.1 hf y ((he y).1 hy)
      rw [h.1] at this; cases this
  · refine Decidable.byContradiction fun hne => ?_
    obtain ⟨t1, t2, t3⟩ := tel_ne hd hne
    have := tel_is hne ((he _).2 t1) t2 (fun y hy hn => t3 y ((he y).1 hy) hn)
    rw [h.2] at this
    exact hne this.symm
theorem told_core {c T : List Int} (h0 : ∀ y ∈ c, y ≠ 0) (hT : Con T) (hcl : ClosedC c T) {x : Int} (hx : x ∈ c) (ho : ∀ y ∈ c, y ≠ x → -y ∈ T) : x ∈ T := by
  have hno : ∀ y ∈ c, y ≠ x → y ∉ T := fun y hy hne hm => hT.co y hm (ho y hy hne)
  refine Decidable.byContradiction fun hxT => ?_
  by_cases hn : -x ∈ T
  · have : falR c T = true := fal_iff.2 fun y hy => by
      by_cases e : y = x
      · rw [e]; exact ⟨hxT, hn⟩
      · exact ⟨hno y hy e, ho y hy e⟩
    rw [hcl.1] at this; cases this
  · have := tel_is (h0 x hx) hx (val_zero hxT hn) (fun y hy hne => val_neg (hno y hy hne) (ho y hy hne))
    rw [hcl.2] at this
    exact h0 x hx this.symm
theorem not_false {c T : List Int} (hT : Con T) (hcl : ClosedC c T) : ¬ ∀ y ∈ c, -y ∈ T := fun h => by
  have : falR c T = true := fal_iff.2 fun y hy => ⟨fun hm => hT.co y hm (h y hy), h y hy⟩
  rw [hcl.1] at this; cases this
/-- A clause that was closed, and is no more, has a literal that has come to be false. -/
theorem closed_ext {c T m : List Int} (h0 : ∀ y ∈ c, y ≠ 0) (hT : Con (T ++ m)) (hcl : ClosedC c T) (hn : ∀ y ∈ c, -y ∉ m) : ClosedC c (T ++ m) := by
  have hTT : Con T := by have := hT.take T.length; rwa [List.take_left] at this
  have neg_in : ∀ y ∈ c, -y ∈ T ++ m → -y ∈ T := fun y hy h => by
    rcases List.mem_append.1 h with h | h
    · exact h
    · exact absurd h (hn y hy)
  refine ⟨?_, ?_⟩
  · cases hf : falR c (T ++ m) with
    | false => rfl
    | true => exact absurd (fun y hy => neg_in y hy (fal_iff.1 hf y hy).2) (not_false hTT hcl)
  · refine Decidable.byContradiction fun hne => ?_
    obtain ⟨t1, t2, t3⟩ := tel_ne h0 hne
    have := told_core h0 hTT hcl t1 fun y hy hyn => neg_in y hy (val_m1 (t3 y hy hyn)).2
    exact (val_0 t2).1 (List.mem_append.2 (.inl this))
/-- A clause that tells a literal is closed behind it. -/
theorem closed_told {c T : List Int} (h0 : ∀ y ∈ c, y ≠ 0) (hne : telR c T ≠ 0) : ClosedC c (T ++ [telR c T]) := by
  obtain ⟨t1, t2, t3⟩ := tel_ne h0 hne
  have hin : telR c T ∈ T ++ [telR c T] := by simp
  refine ⟨?_, ?_⟩
  · cases hf : falR c (T ++ [telR c T]) with
    | false => rfl
    | true => exact absurd hin (fal_iff.1 hf _ t1).1
  · refine Decidable.byContradiction fun hx => ?_
    obtain ⟨u1, u2, u3⟩ := tel_ne h0 hx
    by_cases e : telR c T = telR c (T ++ [telR c T])
    · rw [← e] at u2; exact (val_0 u2).1 hin
    · have := u3 _ t1 e
      exact (val_m1 this).1 hin
end Go.Proofs.Ytknpfopepedmmaa
