/-
  Chapter 22, PLAIN: what the document's answers tell of a watch's trail.
-/
import Derived.Test.YtghlgegfokjgbaaWaQ
import Derived.Test.YtghlgegfokjgbaaWaW
namespace Go.Proofs.Ytghlgegfokjgbaa
open Go.ChangeShapes Go.WideShapes Go.ChangeAt Go.RowKit
set_option linter.unusedVariables false
set_option linter.unusedSimpArgs false
theorem val_pos {x : Int} {l : List Int} (h : x ∈ l) : valR x l = 1 := by unfold valR; rw [if_pos (by simpa using h)]
theorem val_neg {x : Int} {l : List Int} (h : x ∉ l) (h2 : -x ∈ l) : valR x l = -1 := by unfold valR; rw [if_neg (by simpa using h), if_pos (by simpa using h2)]
theorem val_zero {x : Int} {l : List Int} (h : x ∉ l) (h2 : -x ∉ l) : valR x l = 0 := by unfold valR; rw [if_neg (by simpa using h), if_neg (by simpa using h2)]
theorem val_m1 {x : Int} {l : List Int} (h : valR x l = -1) : x ∉ l ∧ -x ∈ l := by
  by_cases h1 : x ∈ l
  · rw [val_pos h1] at h; omega
  · by_cases h2 : -x ∈ l
    · exact ⟨h1, h2⟩
    · rw [val_zero h1 h2] at h; omega
theorem val_0 {x : Int} {l : List Int} (h : valR x l = 0) : x ∉ l ∧ -x ∉ l := by
  by_cases h1 : x ∈ l
  · rw [val_pos h1] at h; omega
  · by_cases h2 : -x ∈ l
    · rw [val_neg h1 h2] at h; omega
    · exact ⟨h1, h2⟩
theorem val_lt {x : Int} {l : List Int} (h : valR x l < 0) : valR x l = -1 := by rcases valR_cases x l with e | e | e <;> omega
theorem telG_ne (lits : List Int) : ∀ (r : List Int) (l x : Int), (∀ y ∈ r, y ≠ 0) → telG lits r l = x → x ≠ 0 → (∀ y ∈ r, y ≠ x → valR y lits = -1) ∧ (l = x ∨ (l = 0 ∧ x ∈ r ∧ valR x lits = 0))
  | [], l, x, _, h, hx => ⟨fun y hy => by simp at hy, .inl h⟩
  | z :: r, l, x, h0, h, hx => by
    have hz0 := h0 z List.mem_cons_self
    have hr0 : ∀ y ∈ r, y ≠ 0 := fun y hy => h0 y (List.mem_cons_of_mem _ hy)
    unfold telG at h
    rcases valR_cases z lits with e | e | e
    · rw [if_pos e] at h; exact absurd h.symm hx
    · rw [if_neg (by omega), if_pos e] at h
      by_cases hl : l ≠ 0 ∧ l ≠ z
      · rw [if_pos hl] at h; exact absurd h.symm hx
      · rw [if_neg hl] at h
        obtain ⟨h1, h2⟩ := telG_ne lits r z x hr0 h hx
        have hzx : z = x := by
          rcases h2 with h2 | ⟨h2, -⟩
          · exact h2
          · exact absurd h2 hz0
        subst hzx
        refine ⟨fun y hy hne => ?_, ?_⟩
        · rcases List.mem_cons.1 hy with e2 | hy
          · exact absurd e2 hne
          · exact h1 y hy hne
        · by_cases h0 : l = 0
          · exact .inr ⟨h0, List.mem_cons_self, e⟩
          · exact .inl (by omega)
    · rw [if_neg (by omega), if_neg (by omega)] at h
      obtain ⟨h1, h2⟩ := telG_ne lits r l x hr0 h hx
      refine ⟨fun y hy hne => ?_, ?_⟩
      · rcases List.mem_cons.1 hy with e2 | hy
        · rw [e2]; exact e
        · exact h1 y hy hne
      · rcases h2 with h2 | ⟨h2, h3, h4⟩
        · exact .inl h2
        · exact .inr ⟨h2, List.mem_cons_of_mem _ h3, h4⟩
/-- What a clause tells: all its other literals are false. -/
theorem tel_ne {c lits : List Int} (h0 : ∀ y ∈ c, y ≠ 0) (h : telR c lits ≠ 0) : telR c lits ∈ c ∧ valR (telR c lits) lits = 0 ∧ ∀ y ∈ c, y ≠ telR c lits → valR y lits = -1 := by
  obtain ⟨h1, h2⟩ := telG_ne lits c 0 _ h0 rfl h
  rcases h2 with h2 | ⟨-, h2, h3⟩
  · exact absurd h2.symm h
  · exact ⟨h2, h3, h1⟩
theorem telG_is (lits : List Int) (x : Int) (hx : x ≠ 0) (hv : valR x lits = 0) : ∀ (r : List Int) (l : Int), (∀ y ∈ r, y ≠ x → valR y lits = -1) → ((l = 0 ∧ x ∈ r) ∨ l = x) → telG lits r l = x
  | [], l, _, h => by
    rcases h with ⟨-, h⟩ | h
    · simp at h
    · exact h
  | z :: r, l, h1, h => by
    have hr : ∀ y ∈ r, y ≠ x → valR y lits = -1 := fun y hy => h1 y (List.mem_cons_of_mem _ hy)
    unfold telG
    by_cases e : z = x
    · subst e
      rw [if_neg (by omega), if_pos hv]
      have hl : ¬ (l ≠ 0 ∧ l ≠ z) := by rcases h with ⟨h, -⟩ | h <;> omega
      rw [if_neg hl]
      exact telG_is lits z hx hv r z hr (.inr rfl)
    · have hz := h1 z List.mem_cons_self e
      rw [if_neg (by omega), if_neg (by omega)]
      refine telG_is lits x hx hv r l hr ?_
      rcases h with ⟨h, hm⟩ | h
      · rcases List.mem_cons.1 hm with e2 | hm
        · exact absurd e2.symm e
        · exact .inl ⟨h, hm⟩
      · exact .inr h
theorem tel_is {c lits : List Int} {x : Int} (hx : x ≠ 0) (hc : x ∈ c) (hv : valR x lits = 0) (h : ∀ y ∈ c, y ≠ x → valR y lits = -1) : telR c lits = x := telG_is lits x hx hv c 0 h (.inl ⟨rfl, hc⟩)
theorem fal_iff {c lits : List Int} : falR c lits = true ↔ ∀ y ∈ c, y ∉ lits ∧ -y ∈ lits := by
  unfold falR
  rw [List.all_eq_true]
  constructor
  · intro h y hy
    exact val_m1 (val_lt (of_decide_eq_true (h y hy)))
  · intro h y hy
    rw [val_neg (h y hy).1 (h y hy).2]; rfl
/-- Behind a Run that went through no clause is false, and none tells a literal. -/
theorem Inv.closed {og lc : List (List Int)} {D : Int → Prop} {N : Nat} {S : WS} (h : Inv og lc D N S) (hb : S.bk < 0) (hd : S.dn.length = S.t.l.length) {k : Nat} (hk : k < lc.length) (hne : lc.getD k [] ≠ []) (hlc : lc.length = og.length) :
    falR (lc.getD k []) S.t.l = false ∧ telR (lc.getD k []) S.t.l = 0 := by
  obtain ⟨h, -⟩ := h
  have hp := h.cp k (by omega)
  have hcne : S.cl.getD k [] ≠ [] := fun e => by rw [e] at hp; exact hne hp.nil_eq.symm
  obtain ⟨-, -, -, c9⟩ := h.cl9 hcne
  obtain ⟨c, hc⟩ : ∃ c, c = S.cl.getD k [] := ⟨_, rfl⟩
  have h1 := h.one hb k
  have h2 := h.pr k
  rw [← hc] at c9 hp h1 h2
  have h0 := List.length_pos_iff.2 c9.ne
  have hm0 : c.getD 0 0 ∈ c := mem_getD h0
  -- a false one of the first two has a true one beside it
  have at_ : ∀ x, -x ∈ S.t.l → ∃ p, p < S.dn.length ∧ x = -(S.t.l.getD p 0) := fun x hx => by
    obtain ⟨p, hp, e⟩ := List.getElem_of_mem hx
    exact ⟨p, by omega, by rw [getD_mem' hp, e, Int.neg_neg]⟩
  have key : c.getD 0 0 ∈ S.t.l ∨ (2 ≤ c.length ∧ (c.getD 1 0 ∈ S.t.l ∨ (-(c.getD 0 0) ∉ S.t.l ∧ -(c.getD 1 0) ∉ S.t.l))) := by
    rcases (show c.length = 1 ∨ 2 ≤ c.length by omega) with hl | hl
    · exact .inl (h1 hl).mem
    · by_cases q0 : -(c.getD 0 0) ∈ S.t.l
      · obtain ⟨p, hp, e⟩ := at_ _ q0
        exact .inr ⟨hl, .inl ((h2 p hp).1 e).mem⟩
      · by_cases q1 : -(c.getD 1 0) ∈ S.t.l
        · obtain ⟨p, hp, e⟩ := at_ _ q1
          exact .inl ((h2 p hp).2 e).mem
        · exact .inr ⟨hl, .inr ⟨q0, q1⟩⟩
  constructor
  · rw [Bool.eq_false_iff]
    intro hf
    rw [fal_iff] at hf
    rcases key with q | ⟨hl, q | ⟨q, -⟩⟩
    · exact (hf _ (hp.mem_iff.1 hm0)).1 q
    · exact (hf _ (hp.mem_iff.1 (mem_getD (by omega)))).1 q
    · exact q (hf _ (hp.mem_iff.1 hm0)).2
  · refine Decidable.byContradiction fun hne2 => ?_
    obtain ⟨t1, t2, t3⟩ := tel_ne (fun y hy => (c9.li y (hp.mem_iff.2 hy)).1) hne2
    have tru : ∀ y ∈ c, y ∈ S.t.l → False := fun y hy hyl => by
      by_cases e : y = telR (lc.getD k []) S.t.l
      · rw [← e, val_pos hyl] at t2; omega
      · have := t3 y (hp.mem_iff.1 hy) e; rw [val_pos hyl] at this; omega
    rcases key with q | ⟨hl, q | ⟨q0, q1⟩⟩
    · exact tru _ hm0 q
    · exact tru _ (mem_getD (by omega)) q
    · have e0 : c.getD 0 0 = telR (lc.getD k []) S.t.l := Decidable.byContradiction fun e => by
        have := t3 _ (hp.mem_iff.1 hm0) e; exact q0 (val_m1 this).2
      have e1 : c.getD 1 0 = telR (lc.getD k []) S.t.l := Decidable.byContradiction fun e => by
        have := t3 _ (hp.mem_iff.1 (mem_getD (by omega))) e; exact q1 (val_m1 this).2
      have := nodup_at c9.nd (i := 0) (j := 1) (by omega) (by omega) (by rw [e0, e1])
      omega
/-- Literals that go together. -/
structure Con (l : List Int) : Prop where
  li : Lit9s l
  nd : l.Nodup
  co : ∀ x ∈ l, -x ∉ l
theorem TI.con {t : TS} (h : TI t) : Con t.l := ⟨h.li, h.nd, fun x hx => h.cons hx⟩
theorem Con.len {l : List Int} (h : Con l) : l.length ≤ 9 := by
  have hs : (l.map absI).Nodup := by
    refine List.Pairwise.map _ ?_ (List.Pairwise.and_mem.1 h.nd)
    intro a b ⟨ha, hb, hne⟩ he
    rcases absI_eq he with e | e
    · exact hne e
    · rw [e] at ha; exact h.co _ hb ha
  have := hs.length_le_of_subset (l₂ := [1, 2, 3, 4, 5, 6, 7, 8, 9]) (fun v hv => by
    obtain ⟨x, hx, rfl⟩ := List.mem_map.1 hv
    have := (h.li x hx).abs
    simp; omega)
  simpa using this
theorem Con.snoc {l : List Int} (h : Con l) {x : Int} (hx : lit9 x) (h0 : valR x l = 0) : Con (l ++ [x]) := by
  obtain ⟨h1, h2⟩ := val_0 h0
  refine ⟨fun y hy => ?_, ?_, fun y hy hn => ?_⟩
  · rcases List.mem_append.1 hy with hy | hy
    · exact h.li y hy
    · rw [List.mem_singleton.1 hy]; exact hx
  · rw [List.nodup_append]
    refine ⟨h.nd, by simp, fun a ha b hb e => ?_⟩
    rw [List.mem_singleton.1 hb] at e; rw [e] at ha; exact h1 ha
  · rcases List.mem_append.1 hy with hy | hy
    · rcases List.mem_append.1 hn with hn | hn
      · exact h.co y hy hn
      · have := List.mem_singleton.1 hn
        rw [← this, Int.neg_neg] at h2; exact h2 hy
    · have e := List.mem_singleton.1 hy
      subst e
      rcases List.mem_append.1 hn with hn | hn
      · exact h2 hn
      · have := List.mem_singleton.1 hn; have := hx.1; omega
/-- Literals that come one behind the other, each told by a clause. -/
def Der (og : List (List Int)) (st out : List Int) : Prop := ∃ m, out = st ++ m ∧ ∀ i, i < m.length → ∃ k, k < og.length ∧ telR (og.getD k []) (st ++ m.take i) = m.getD i 0 ∧ m.getD i 0 ≠ 0
theorem Der.refl (og : List (List Int)) (st : List Int) : Der og st st := ⟨[], by simp, fun i hi => by simp at hi⟩
theorem Der.snoc {og : List (List Int)} {st out : List Int} (h : Der og st out) {k : Nat} (hk : k < og.length) (hx : telR (og.getD k []) out ≠ 0) : Der og st (out ++ [telR (og.getD k []) out]) := by
  obtain ⟨m, rfl, hm⟩ := h
  refine ⟨m ++ [telR (og.getD k []) (st ++ m)], by simp, fun i hi => ?_⟩
  rcases Nat.lt_or_ge i m.length with h1 | h1
  · obtain ⟨k', g1, g2, g3⟩ := hm i h1
    have e : (m ++ [telR (og.getD k []) (st ++ m)]).getD i 0 = m.getD i 0 := by simp [List.getD, List.getElem?_append_left h1]
    rw [e, List.take_append_of_le_length (by omega)]
    exact ⟨k', g1, g2, g3⟩
  · obtain rfl : i = m.length := by simp at hi; omega
    have e : (m ++ [telR (og.getD k []) (st ++ m)]).getD m.length 0 = telR (og.getD k []) (st ++ m) := by simp [List.getD]
    rw [e, List.take_append_of_le_length (Nat.le_refl _), List.take_length]
    exact ⟨k, hk, rfl, hx⟩
def Closed (og : List (List Int)) (out : List Int) : Prop := ∀ k, k < og.length → falR (og.getD k []) out = false ∧ telR (og.getD k []) out = 0
theorem told_core {c T : List Int} (h9 : C9 c) (hT : Con T) (hcl : falR c T = false ∧ telR c T = 0) {x : Int} (hx : x ∈ c) (ho : ∀ y ∈ c, y ≠ x → -y ∈ T) : x ∈ T := by
  have hno : ∀ y ∈ c, y ≠ x → y ∉ T := fun y hy hne hm => hT.co y hm (ho y hy hne)
  refine Decidable.byContradiction fun hxT => ?_
  by_cases hn : -x ∈ T
  · have : falR c T = true := fal_iff.2 fun y hy => by
      by_cases e : y = x
      · rw [e]; exact ⟨hxT, hn⟩
      · exact ⟨hno y hy e, ho y hy e⟩
    rw [hcl.1] at this; cases this
  · have := tel_is (h9.li x hx).1 hx (val_zero hxT hn) (fun y hy hne => val_neg (hno y hy hne) (ho y hy hne))
    rw [hcl.2] at this
    exact (h9.li x hx).1 this.symm
/-- Told literals are in what is closed. -/
theorem der_sub {og : List (List Int)} (h9 : ∀ k, k < og.length → C9 (og.getD k [])) {st out T : List Int} (hd : Der og st out) (hT : Con T) (hst : ∀ x ∈ st, x ∈ T) (hcl : Closed og T) : ∀ x ∈ out, x ∈ T := by
  obtain ⟨m, rfl, hm⟩ := hd
  have key : ∀ n, n ≤ m.length → ∀ x ∈ m.take n, x ∈ T := by
    intro n
    induction n with
    | zero => intro _ x hx; simp at hx
    | succ n ih =>
      intro hn x hx
      rw [List.take_succ_eq_append_getElem (by omega)] at hx
      rcases List.mem_append.1 hx with hx | hx
      · exact ih (by omega) x hx
      · rw [List.mem_singleton.1 hx]
        obtain ⟨k, hk, ht, hne⟩ := hm n (by omega)
        rw [getD_mem' (by omega)] at ht hne
        rw [← ht] at hne ⊢
        obtain ⟨t1, t2, t3⟩ := tel_ne (fun y hy => ((h9 k hk).li y hy).1) hne
        refine told_core (h9 k hk) hT (hcl k hk) t1 fun y hy hyn => ?_
        have := (val_m1 (t3 y hy hyn)).2
        rcases List.mem_append.1 this with q | q
        · exact hst _ q
        · exact ih (by omega) _ q
  intro x hx
  rcases List.mem_append.1 hx with hx | hx
  · exact hst x hx
  · exact key m.length (Nat.le_refl _) x (by rw [List.take_length]; exact hx)
/-- A trail's literals, from those decided, are in what is closed. -/
theorem Inv0.sub {og lc : List (List Int)} {D : Int → Prop} {N : Nat} {S : WS} (h : Inv0 og lc D N S) {T : List Int} (hT : Con T) (hD : ∀ x, D x → x ∈ T) (hcl : Closed og T) : ∀ x ∈ S.t.l, x ∈ T := by
  have key : ∀ n, n ≤ S.t.l.length → ∀ x ∈ S.t.l.take n, x ∈ T := by
    intro n
    induction n with
    | zero => intro _ x hx; simp at hx
    | succ n ih =>
      intro hn x hx
      rw [List.take_succ_eq_append_getElem (by omega)] at hx
      rcases List.mem_append.1 hx with hx | hx
      · exact ih (by omega) x hx
      · rw [List.mem_singleton.1 hx]
        have hm : S.t.l[n] ∈ S.t.l := List.getElem_mem (by omega)
        by_cases hr : S.t.reason (absI S.t.l[n]) < 0
        · exact hD _ (h.de _ hm hr)
        · obtain ⟨k, g1, g2, g3, g4⟩ := h.fo n (by omega) (by rw [getD_mem' (by omega)]; omega)
          rw [getD_mem' (by omega)] at g3 g4
          exact told_core (h.og9 k g2) hT (hcl k g2) g3 fun y hy hne => ih (by omega) _ (g4 y hy hne)
  intro x hx
  exact key S.t.l.length (Nat.le_refl _) x (by rw [List.take_length]; exact hx)
/-- A Run, and the document's closure, agree. -/
theorem agree {og : List (List Int)} {D : Int → Prop} {N : Nat} {id : Int} {fine could : Bool} {S : WS} {st out : List Int} (hE : EInv og og D N id fine S) (hD : ∀ x, D x → x ∈ st) (hst : ∀ x ∈ st, x ∈ S.t.l) (hder : Der og st out) (hcon : Con out)
    (hc1 : could = true → Closed og out) (hc0 : could = false → ∃ k, k < og.length ∧ falR (og.getD k []) out = true) : fine = could ∧ (fine = true → ∀ x, x ∈ S.t.l ↔ x ∈ out) := by
  have h9 := hE.inv.1.og9
  have hT := hE.inv.1.ti.con
  have hclT : fine = true → Closed og S.t.l := fun hf k hk => hE.inv.closed hE.bk (hE.yes hf).2 hk (h9 k hk).ne rfl
  have hso : ∀ x ∈ st, x ∈ out := by obtain ⟨m, rfl, -⟩ := hder; exact fun x hx => List.mem_append_left _ hx
  cases could with
  | true =>
    have hcl := hc1 rfl
    have hsub := hE.inv.1.sub hcon (fun x hx => hso x (hD x hx)) hcl
    cases fine with
    | true => exact ⟨rfl, fun _ x => ⟨hsub x, der_sub h9 hder hT hst (hclT rfl) x⟩⟩
    | false =>
      obtain ⟨k, -, hk, -, hf⟩ := hE.no rfl
      have : falR (og.getD k []) out = true := fal_iff.2 fun y hy => ⟨fun hm => hcon.co y hm (hsub _ (hf y hy)), hsub _ (hf y hy)⟩
      rw [(hcl k hk).1] at this; cases this
  | false =>
    obtain ⟨k, hk, hf⟩ := hc0 rfl
    cases fine with
    | false => exact ⟨rfl, fun h => by cases h⟩
    | true =>
      have hs := der_sub h9 hder hT hst (hclT rfl)
      rw [fal_iff] at hf
      have : falR (og.getD k []) S.t.l = true := fal_iff.2 fun y hy => ⟨fun hm => hT.co y hm (hs _ (hf y hy).2), hs _ (hf y hy).2⟩
      rw [(hclT rfl k hk).1] at this; cases this
/-- What a Run keeps beside: literals that were there stay. -/
theorem RunLaw.keep {Q : WS → Prop} {R : WS → List Int → List Int → Prop} {E : Int → Bool → WS → Prop} (h : RunLaw Q R E) (st : List Int) : RunLaw (fun S => Q S ∧ ∀ x ∈ st, x ∈ S.t.l) (fun S a b => R S a b ∧ ∀ x ∈ st, x ∈ S.t.l) (fun id fine S => E id fine S ∧ ∀ x ∈ st, x ∈ S.t.l) where
  qb := fun S hq => h.qb S hq.1
  skip := fun S hq a b => ⟨h.skip S hq.1 a b, hq.2⟩
  start := fun S hq a b => ⟨h.start S hq.1 a b, hq.2⟩
  rb := fun S a b hr => h.rb S a b hr.1
  vis := fun S a id b hr => h.vis S a id b hr.1
  step := fun S a k b hr hf => ⟨h.step S a k b hr.1 hf, fun x hx => by obtain ⟨m, hm⟩ := visitF_l S k (wrongOf S); rw [hm]; exact List.mem_append_left _ (hr.2 x hx)⟩
  confl := fun S a k b hr hf => ⟨h.confl S a k b hr.1 hf, fun x hx => by
    obtain ⟨m, hm⟩ := visitF_l S k (wrongOf S)
    show x ∈ (visitF S k (wrongOf S)).1.t.l
    rw [hm]; exact List.mem_append_left _ (hr.2 x hx)⟩
  finish := fun S a hr => ⟨h.finish S a hr.1, hr.2⟩
  done := fun S hq hd => ⟨h.done S hq.1 hd, hq.2⟩
end Go.Proofs.Ytghlgegfokjgbaa
/-
  Chapter 22: the document's Closure, walked.
-/
namespace Go.Proofs.Ytghlgegfokjgbaa
open Go.ChangeShapes Go.WideShapes Go.ChangeAt Go.RowKit
set_option linter.unusedVariables false
set_option linter.unusedSimpArgs false
attribute [local go_sem ↓] Go.wp_at_zero Go.wp_at_succ
theorem ints_src {w : World} {A : Option Addr} {n cap : Nat} {xs : List Int} (h : Ints w (.slice A n cap) xs) : Src w A 1 n (xs.map iv) := by
  obtain ⟨a, c, e, -, -, -, h3⟩ := h
  injection e with e1 e2 e3
  subst e1 e2
  refine ⟨by simp, fun h0 => ?_⟩
  have hne : xs ≠ [] := fun e => by rw [e] at h0; simp at h0
  obtain ⟨b, off, rfl, hc⟩ := h3.resolve_left hne
  refine ⟨b, off, rfl, fun j u hu => ?_⟩
  have hj : j < xs.length := by have := (List.getElem?_eq_some_iff.1 hu).1; simpa using this
  rw [hc j hj]
  simp [hj, iv] at hu
  rw [← hu]; simp [List.getD, hj]
/-- What Closure tells. -/
def CloQ (w : World) (og : List (List Int)) (st : List Int) (e : Ending) (w' : World) : Prop :=
  ∃ u out b, e = .returned (.tuple #[u, .bool b]) ∧ OwnI w w' u out ∧ Der og st out ∧ Con out ∧ (b = true → Closed og out) ∧ (b = false → ∃ k, k < og.length ∧ falR (og.getD k []) out = true)
def ClR (w : World) (og : List (List Int)) (st out0 : List Int) (k : Nat) (u more : Value) (wr : World) : Prop :=
  ∃ out b, more = .bool b ∧ OwnI w wr u out ∧ Der og st out ∧ Con out ∧ ((b = true ∧ out0.length < out.length) ∨ (b = false ∧ out = out0 ∧ ∀ j, j < k → falR (og.getD j []) out = false ∧ telR (og.getD j []) out = 0))
end Go.Proofs.Ytghlgegfokjgbaa
