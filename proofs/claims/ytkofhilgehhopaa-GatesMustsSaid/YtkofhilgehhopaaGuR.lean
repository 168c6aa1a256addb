/-
  Gates, PLAIN: what clauses of gates say: for each choice of the free variables just one assignment.
-/
import Derived.Test.YtkofhilgehhopaaRows
import Derived.Test.YtkofhilgehhopaaSortL
namespace Go.Proofs.Ytkofhilgehhopaa
set_option linter.unusedVariables false
set_option linter.unusedSimpArgs false
/-- A gate's key. -/
structure GKey where
  k : Int
  a : Int
  b : Int
  c : Int
  s : List UInt8
deriving DecidableEq
/-- Gates: variables, clauses, what was had. -/
structure GS where
  n : Nat
  cl : List (List Int)
  tab : List (GKey × Int)
/-- A literal's value. -/
def lvl (σ : Nat → Bool) (l : Int) : Bool := if 0 < l then σ l.toNat else !σ (-l).toNat
def hC (σ : Nat → Bool) (c : List Int) : Bool := c.any (lvl σ)
def hA (σ : Nat → Bool) (cls : List (List Int)) : Bool := cls.all (hC σ)
def okL (n : Nat) (l : Int) : Prop := l ≠ 0 ∧ -(n : Int) ≤ l ∧ l ≤ (n : Int)
theorem okL.mono {n m : Nat} {l : Int} (h : okL n l) (hm : n ≤ m) : okL m l := by unfold okL at *; omega
theorem okL.neg {n : Nat} {l : Int} (h : okL n l) : okL n (-l) := by unfold okL at *; omega
theorem lvl_neg {σ : Nat → Bool} {l : Int} (h : l ≠ 0) : lvl σ (-l) = !lvl σ l := by
  unfold lvl
  by_cases h0 : 0 < l
  · rw [if_pos h0, if_neg (by omega), Int.neg_neg]
  · rw [if_neg h0, if_pos (by omega), Bool.not_not]
theorem lvl_same {σ σ' : Nat → Bool} {n : Nat} (h : ∀ v, 1 ≤ v → v ≤ n → σ v = σ' v) {l : Int} (hl : okL n l) : lvl σ l = lvl σ' l := by
  unfold okL at hl
  unfold lvl
  split
  · exact h _ (by omega) (by omega)
  · rw [h _ (by omega) (by omega)]
theorem hC_same {σ σ' : Nat → Bool} {n : Nat} (h : ∀ v, 1 ≤ v → v ≤ n → σ v = σ' v) {c : List Int} (hc : ∀ x ∈ c, okL n x) : hC σ c = hC σ' c := by
  unfold hC
  rw [Bool.eq_iff_iff, List.any_eq_true, List.any_eq_true]
  constructor
  · rintro ⟨x, hx, e⟩; exact ⟨x, hx, by rw [← lvl_same h (hc x hx)]; exact e⟩
  · rintro ⟨x, hx, e⟩; exact ⟨x, hx, by rw [lvl_same h (hc x hx)]; exact e⟩
theorem hA_same {σ σ' : Nat → Bool} {n : Nat} (h : ∀ v, 1 ≤ v → v ≤ n → σ v = σ' v) {cls : List (List Int)} (hc : ∀ c ∈ cls, ∀ x ∈ c, okL n x) : hA σ cls = hA σ' cls := by
  unfold hA
  rw [Bool.eq_iff_iff, List.all_eq_true, List.all_eq_true]
  constructor
  · intro g c hm; rw [← hC_same h (hc c hm)]; exact g c hm
  · intro g c hm; rw [hC_same h (hc c hm)]; exact g c hm
theorem hA_app (σ : Nat → Bool) (a b : List (List Int)) : hA σ (a ++ b) = (hA σ a && hA σ b) := by unfold hA; rw [List.all_append]
/-- A number as four bytes, the lowest first; literals as a text. -/
def byte4 (x : Int) : List UInt8 := [UInt8.ofNat (x % 256).toNat, UInt8.ofNat (x / 256 % 256).toNat, UInt8.ofNat (x / 65536 % 256).toNat, UInt8.ofNat (x / 16777216 % 256).toNat]
def textB (l : List Int) : List UInt8 := l.flatMap byte4
def in32 (x : Int) : Prop := -2147483648 ≤ x ∧ x ≤ 2147483647
theorem ofNat_inj {a b : Nat} (ha : a < 256) (hb : b < 256) (h : UInt8.ofNat a = UInt8.ofNat b) : a = b := by
  have := congrArg UInt8.toNat h
  simp [UInt8.toNat_ofNat] at this
  omega
theorem byte4_inj {x y : Int} (hx : in32 x) (hy : in32 y) (h : byte4 x = byte4 y) : x = y := by
  unfold byte4 at h
  simp only [List.cons.injEq, and_true] at h
  obtain ⟨h0, h1, h2, h3⟩ := h
  have e0 := ofNat_inj (by omega) (by omega) h0
  have e1 := ofNat_inj (by omega) (by omega) h1
  have e2 := ofNat_inj (by omega) (by omega) h2
  have e3 := ofNat_inj (by omega) (by omega) h3
  unfold in32 at hx hy
  omega
theorem textB_inj : ∀ {a b : List Int}, (∀ x ∈ a, in32 x) → (∀ x ∈ b, in32 x) → textB a = textB b → a = b
  | [], [], _, _, _ => rfl
  | [], y :: b, _, _, h => by simp [textB, byte4] at h
  | x :: a, [], _, _, h => by simp [textB, byte4] at h
  | x :: a, y :: b, ha, hb, h => by
    have h2 : byte4 x ++ textB a = byte4 y ++ textB b := h
    obtain ⟨e1, e2⟩ := List.append_inj h2 (by simp [byte4])
    rw [byte4_inj (ha x (by simp)) (hb y (by simp)) e1, textB_inj (fun z hz => ha z (by simp [hz])) (fun z hz => hb z (by simp [hz])) e2]
/-- What a key means. -/
def Sem (σ : Nat → Bool) (x : GKey) (v : Bool) : Prop :=
  (x.k = 0 → v = (lvl σ x.a && lvl σ x.b)) ∧ (x.k = 1 → v = (lvl σ x.a != lvl σ x.b)) ∧ (x.k = 2 → v = if lvl σ x.a then lvl σ x.b else lvl σ x.c) ∧
  (x.k = 3 → ∀ l, (∀ y ∈ l, in32 y) → textB l = x.s → v = l.all (lvl σ))
/-- What holds of gates; F: the free variables. -/
structure GI (S : GS) (F : Nat → Prop) : Prop where
  n1 : 1 ≤ S.n
  lit : ∀ c ∈ S.cl, ∀ x ∈ c, okL S.n x
  tru : ∀ σ, hA σ S.cl = true → σ 1 = true
  fre : ∀ v, F v → 1 ≤ v ∧ v ≤ S.n
  ext : ∀ τ : Nat → Bool, ∃ σ, hA σ S.cl = true ∧ ∀ v, F v → σ v = τ v
  uni : ∀ σ σ', hA σ S.cl = true → hA σ' S.cl = true → (∀ v, F v → σ v = σ' v) → ∀ v, 1 ≤ v → v ≤ S.n → σ v = σ' v
  tab : ∀ x o, S.tab.lookup x = some o → okL S.n o ∧ ∀ σ, hA σ S.cl = true → Sem σ x (lvl σ o)
theorem GI.start : GI ⟨1, [[1]], []⟩ (fun _ => False) where
  n1 := Nat.le_refl _
  lit := fun c hc x hx => by simp at hc; subst hc; simp at hx; subst hx; exact ⟨by decide, by decide, by decide⟩
  tru := fun σ h => by simpa [hA, hC, lvl] using h
  fre := fun v h => h.elim
  ext := fun τ => ⟨fun _ => true, by simp [hA, hC, lvl], fun v h => h.elim⟩
  uni := fun σ σ' h h' _ v v1 vn => by
    obtain rfl : v = 1 := by dsimp only at vn; omega
    have e : σ 1 = true := by simpa [hA, hC, lvl] using h
    have e' : σ' 1 = true := by simpa [hA, hC, lvl] using h'
    rw [e, e']
  tab := fun x o h => by simp at h
def putV (σ : Nat → Bool) (n : Nat) (b : Bool) : Nat → Bool := fun v => if v = n then b else σ v
theorem putV_old (σ : Nat → Bool) (n : Nat) (b : Bool) : ∀ v, 1 ≤ v → v ≤ n → putV σ (n + 1) b v = σ v := fun v _ h => by unfold putV; rw [if_neg (by omega)]
/-- A free variable more. -/
theorem GI.fresh {S : GS} {F : Nat → Prop} (h : GI S F) : GI { S with n := S.n + 1 } (fun v => F v ∨ v = S.n + 1) where
  n1 := by show 1 ≤ S.n + 1; omega
  lit := fun c hc x hx => (h.lit c hc x hx).mono (Nat.le_succ _)
  tru := h.tru
  fre := fun v hv => by
    show 1 ≤ v ∧ v ≤ S.n + 1
    rcases hv with hv | hv
    · have := h.fre v hv; omega
    · omega
  ext := fun τ => by
    obtain ⟨σ, h1, h2⟩ := h.ext τ
    refine ⟨putV σ (S.n + 1) (τ (S.n + 1)), ?_, fun v hv => ?_⟩
    · rw [hA_same (putV_old σ S.n _) h.lit]; exact h1
    · rcases hv with hv | rfl
      · have := h.fre v hv
        rw [putV_old σ S.n _ v this.1 this.2]; exact h2 v hv
      · unfold putV; rw [if_pos rfl]
  uni := fun σ σ' h1 h2 h3 v v1 vn => by
    have vn : v ≤ S.n + 1 := vn
    by_cases e : v = S.n + 1
    · exact h3 v (.inr e)
    · exact h.uni σ σ' h1 h2 (fun u hu => h3 u (.inl hu)) v v1 (by omega)
  tab := fun x o hx => by
    obtain ⟨q1, q2⟩ := h.tab x o hx
    exact ⟨q1.mono (Nat.le_succ _), q2⟩
/-- A gate more. -/
theorem GI.gate {S : GS} {F : Nat → Prop} (h : GI S F) (cls : List (List Int)) (e : (Nat → Bool) → Bool) (x : GKey) (he : ∀ σ σ', (∀ v, 1 ≤ v → v ≤ S.n → σ v = σ' v) → e σ = e σ')
    (hc : ∀ σ, hA σ cls = (σ (S.n + 1) == e σ)) (hl : ∀ c ∈ cls, ∀ y ∈ c, okL (S.n + 1) y) (hs : ∀ σ, Sem σ x (e σ)) : GI ⟨S.n + 1, S.cl ++ cls, (x, ((S.n + 1 : Nat) : Int)) :: S.tab⟩ F where
  n1 := by show 1 ≤ S.n + 1; omega
  lit := fun c hm y hy => by
    rcases List.mem_append.1 hm with hm | hm
    · exact (h.lit c hm y hy).mono (Nat.le_succ _)
    · exact hl c hm y hy
  tru := fun σ hσ => by
    rw [hA_app, Bool.and_eq_true] at hσ
    exact h.tru σ hσ.1
  fre := fun v hv => by
    show 1 ≤ v ∧ v ≤ S.n + 1
    have := h.fre v hv; omega
  ext := fun τ => by
    obtain ⟨σ, h1, h2⟩ := h.ext τ
    refine ⟨putV σ (S.n + 1) (e σ), ?_, fun v hv => ?_⟩
    · rw [hA_app, Bool.and_eq_true]
      refine ⟨?_, ?_⟩
      · show hA _ S.cl = true
        rw [hA_same (putV_old σ S.n _) h.lit]; exact h1
      · rw [hc, he (putV σ (S.n + 1) (e σ)) σ (putV_old σ S.n _)]
        unfold putV
        rw [if_pos rfl]
        simp
    · have := h.fre v hv
      rw [putV_old σ S.n _ v this.1 this.2]; exact h2 v hv
  uni := fun σ σ' h1 h2 h3 v v1 vn => by
    have vn : v ≤ S.n + 1 := vn
    rw [hA_app, Bool.and_eq_true] at h1 h2
    have old := h.uni σ σ' h1.1 h2.1 h3
    by_cases ev : v = S.n + 1
    · have e1 := h1.2
      have e2 := h2.2
      rw [hc, beq_iff_eq] at e1 e2
      rw [ev, e1, e2]
      exact he σ σ' old
    · exact old v v1 (by omega)
  tab := fun y o hy => by
    have hy : ((x, ((S.n + 1 : Nat) : Int)) :: S.tab).lookup y = some o := hy
    rw [List.lookup_cons] at hy
    split at hy
    · rename_i hxy
      have hxy : y = x := by simpa using hxy
      injection hy with hy
      subst hy
      refine ⟨⟨by omega, by show -((S.n + 1 : Nat) : Int) ≤ _; omega, by show _ ≤ ((S.n + 1 : Nat) : Int); omega⟩, fun σ hσ => ?_⟩
      rw [hA_app, Bool.and_eq_true] at hσ
      have e1 := hσ.2
      rw [hc, beq_iff_eq] at e1
      have : lvl σ ((S.n + 1 : Nat) : Int) = e σ := by
        unfold lvl
        rw [if_pos (by omega), Int.toNat_natCast, e1]
      rw [this, hxy]
      exact hs σ
    · obtain ⟨q1, q2⟩ := h.tab y o hy
      refine ⟨q1.mono (Nat.le_succ _), fun σ hσ => ?_⟩
      rw [hA_app, Bool.and_eq_true] at hσ
      exact q2 σ hσ.1
end Go.Proofs.Ytkofhilgehhopaa
/-
  Gates, PLAIN: what the calls come to.
-/
namespace Go.Proofs.Ytkofhilgehhopaa
set_option linter.unusedVariables false
set_option linter.unusedSimpArgs false
/-- Later gates. -/
structure ExtS (S S' : GS) : Prop where
  n : S.n ≤ S'.n
  cl : ∃ m, S'.cl = S.cl ++ m
  tab : ∀ x o, S.tab.lookup x = some o → S'.tab.lookup x = some o
theorem ExtS.refl (S : GS) : ExtS S S := ⟨Nat.le_refl _, ⟨[], by simp⟩, fun _ _ h => h⟩
theorem ExtS.trans {S S' S'' : GS} (h : ExtS S S') (g : ExtS S' S'') : ExtS S S'' := by
  obtain ⟨m, hm⟩ := h.cl
  obtain ⟨k, hk⟩ := g.cl
  exact ⟨Nat.le_trans h.n g.n, ⟨m ++ k, by rw [hk, hm, List.append_assoc]⟩, fun x o e => g.tab x o (h.tab x o e)⟩
theorem ExtS.hA {S S' : GS} (h : ExtS S S') {σ : Nat → Bool} (hs : hA σ S'.cl = true) : hA σ S.cl = true := by
  obtain ⟨m, hm⟩ := h.cl
  rw [hm, hA_app, Bool.and_eq_true] at hs
  exact hs.1
/-- What a call answers and leaves. -/
structure ResS (S : GS) (F : Nat → Prop) (f : GS → Int × GS) (e : (Nat → Bool) → Bool) (m k : Nat) : Prop where
  gi : GI (f S).2 F
  ok : okL (f S).2.n (f S).1
  sem : ∀ σ, hA σ (f S).2.cl = true → lvl σ (f S).1 = e σ
  ext : ExtS S (f S).2
  nb : (f S).2.n ≤ S.n + m
  cb : (f S).2.cl.length ≤ S.cl.length + k
  tb : (f S).2.tab.length ≤ S.tab.length + m
  again : ∀ S'', ExtS (f S).2 S'' → f S'' = ((f S).1, S'')
theorem ResS.const {S : GS} {F : Nat → Prop} (h : GI S F) (r : Int) (hr : okL S.n r) {e : (Nat → Bool) → Bool} (he : ∀ σ, hA σ S.cl = true → lvl σ r = e σ) (m k : Nat) : ResS S F (fun S => (r, S)) e m k :=
  ⟨h, hr, he, ExtS.refl S, Nat.le_add_right _ _, Nat.le_add_right _ _, Nat.le_add_right _ _, fun _ _ => rfl⟩
theorem ResS.mono {S : GS} {F : Nat → Prop} {f : GS → Int × GS} {e : (Nat → Bool) → Bool} {m k m' k' : Nat} (h : ResS S F f e m k) (hm : m ≤ m') (hk : k ≤ k') : ResS S F f e m' k' :=
  ⟨h.gi, h.ok, h.sem, h.ext, by have := h.nb; omega, by have := h.cb; omega, by have := h.tb; omega, h.again⟩
theorem ResS.neg {S : GS} {F : Nat → Prop} {f : GS → Int × GS} {e : (Nat → Bool) → Bool} {m k : Nat} (h : ResS S F f e m k) : ResS S F (fun S => (-(f S).1, (f S).2)) (fun σ => !e σ) m k :=
  ⟨h.gi, h.ok.neg, fun σ hs => by show lvl σ (-(f S).1) = _; rw [lvl_neg h.ok.1, h.sem σ hs], h.ext, h.nb, h.cb, h.tb, fun S'' hS => by show (-(f S'').1, (f S'').2) = _; rw [h.again S'' hS]⟩
theorem ResS.eqv {S : GS} {F : Nat → Prop} {f : GS → Int × GS} {e e' : (Nat → Bool) → Bool} {m k : Nat} (h : ResS S F f e m k) (he : ∀ σ, hA σ S.cl = true → e σ = e' σ) : ResS S F f e' m k :=
  ⟨h.gi, h.ok, fun σ hs => by rw [h.sem σ hs, he σ (h.ext.hA hs)], h.ext, h.nb, h.cb, h.tb, h.again⟩
def gateS (x : GKey) (cls : Int → List (List Int)) (S : GS) : Int × GS :=
  match S.tab.lookup x with
  | some o => (o, S)
  | none => (((S.n + 1 : Nat) : Int), ⟨S.n + 1, S.cl ++ cls ((S.n + 1 : Nat) : Int), (x, ((S.n + 1 : Nat) : Int)) :: S.tab⟩)
theorem lvl_new (σ : Nat → Bool) (n : Nat) : lvl σ ((n + 1 : Nat) : Int) = σ (n + 1) := by unfold lvl; rw [if_pos (by omega), Int.toNat_natCast]
theorem gate_res {S : GS} {F : Nat → Prop} (h : GI S F) (x : GKey) (cls : Int → List (List Int)) (e : (Nat → Bool) → Bool) (k : Nat) (he : ∀ σ σ', (∀ v, 1 ≤ v → v ≤ S.n → σ v = σ' v) → e σ = e σ')
    (hc : ∀ σ, hA σ (cls ((S.n + 1 : Nat) : Int)) = (lvl σ ((S.n + 1 : Nat) : Int) == e σ)) (hl : ∀ c ∈ cls ((S.n + 1 : Nat) : Int), ∀ y ∈ c, okL (S.n + 1) y) (hk : (cls ((S.n + 1 : Nat) : Int)).length ≤ k) (hs : ∀ σ v, Sem σ x v ↔ v = e σ) : ResS S F (gateS x cls) e 1 k := by
  unfold gateS
  cases hx : S.tab.lookup x with
  | some o =>
    obtain ⟨q1, q2⟩ := h.tab x o hx
    have e1 : (match S.tab.lookup x with | some o => (o, S) | none => (((S.n + 1 : Nat) : Int), (⟨S.n + 1, S.cl ++ cls ((S.n + 1 : Nat) : Int), (x, ((S.n + 1 : Nat) : Int)) :: S.tab⟩ : GS))) = (o, S) := by rw [hx]
    constructor
    · try dsimp only
      rw [e1]; exact h
    · try dsimp only
      rw [e1]; exact q1
    · intro σ hσ
      try dsimp only at hσ ⊢
      rw [e1] at hσ ⊢; exact (hs σ _).1 (q2 σ hσ)
    · try dsimp only
      rw [e1]; exact ExtS.refl S
    · try dsimp only
      rw [e1]; exact Nat.le_add_right _ _
    · try dsimp only
      rw [e1]; exact Nat.le_add_right _ _
    · try dsimp only
      rw [e1]; exact Nat.le_add_right _ _
    · intro S'' hS
      try dsimp only at hS ⊢
      rw [e1] at hS ⊢
      rw [hS.tab x o hx]
  | none =>
    have e1 : (match S.tab.lookup x with | some o => (o, S) | none => (((S.n + 1 : Nat) : Int), (⟨S.n + 1, S.cl ++ cls ((S.n + 1 : Nat) : Int), (x, ((S.n + 1 : Nat) : Int)) :: S.tab⟩ : GS))) = (((S.n + 1 : Nat) : Int), ⟨S.n + 1, S.cl ++ cls ((S.n + 1 : Nat) : Int), (x, ((S.n + 1 : Nat) : Int)) :: S.tab⟩) := by rw [hx]
    have hG := h.gate (cls ((S.n + 1 : Nat) : Int)) e x he (fun σ => by rw [hc, lvl_new]) hl (fun σ => (hs σ _).2 rfl)
    constructor
    · try dsimp only
      rw [e1]; exact hG
    · try dsimp only
      rw [e1]; exact ⟨by omega, by show -((S.n + 1 : Nat) : Int) ≤ _; omega, by show _ ≤ ((S.n + 1 : Nat) : Int); omega⟩
    · intro σ hσ
      try dsimp only at hσ ⊢
      rw [e1] at hσ ⊢
      try dsimp only at hσ ⊢
      rw [hA_app, Bool.and_eq_true, hc, beq_iff_eq] at hσ
      exact hσ.2
    · try dsimp only
      rw [e1]
      refine ⟨Nat.le_succ _, ⟨_, rfl⟩, fun y o hy => ?_⟩
      show ((x, ((S.n + 1 : Nat) : Int)) :: S.tab).lookup y = some o
      rw [List.lookup_cons]
      have : (y == x) = false := by
        rw [beq_eq_false_iff_ne]
        intro e
        rw [e, hx] at hy; cases hy
      rw [this]
      exact hy
    · try dsimp only
      rw [e1]; exact Nat.le_refl _
    · try dsimp only
      rw [e1]; show (S.cl ++ cls ((S.n + 1 : Nat) : Int)).length ≤ S.cl.length + k; rw [List.length_append]; omega
    · try dsimp only
      rw [e1]; simp
    · intro S'' hS
      try dsimp only at hS ⊢
      rw [e1] at hS ⊢
      have := hS.tab x ((S.n + 1 : Nat) : Int) (by show ((x, ((S.n + 1 : Nat) : Int)) :: S.tab).lookup x = _; rw [List.lookup_cons]; simp)
      rw [this]
/-! ### And, Or -/
def andS (a b : Int) (S : GS) : Int × GS :=
  if a = -1 ∨ b = -1 ∨ a = -b then (-1, S) else if a = 1 ∨ a = b then (b, S) else if b = 1 then (a, S)
  else gateS ⟨0, min a b, max a b, 0, []⟩ (fun o => [[-o, a], [-o, b], [o, -a, -b]]) S
theorem tru_lvl {S : GS} {F : Nat → Prop} (h : GI S F) {σ : Nat → Bool} (hs : hA σ S.cl = true) : lvl σ 1 = true ∧ lvl σ (-1) = false := by
  have := h.tru σ hs
  unfold lvl
  simp [this]
theorem ok1 {S : GS} {F : Nat → Prop} (h : GI S F) : okL S.n 1 ∧ okL S.n (-1) := by have := h.n1; unfold okL; omega
theorem min_max_lvl (σ : Nat → Bool) (a b : Int) (f : Bool → Bool → Bool) (hf : ∀ x y, f x y = f y x) : f (lvl σ (min a b)) (lvl σ (max a b)) = f (lvl σ a) (lvl σ b) := by
  rcases Int.le_total a b with h | h
  · rw [Int.min_eq_left h, Int.max_eq_right h]
  · rw [Int.min_eq_right h, Int.max_eq_left h, hf]
theorem and_res {S : GS} {F : Nat → Prop} (h : GI S F) {a b : Int} (ha : okL S.n a) (hb : okL S.n b) : ResS S F (andS a b) (fun σ => lvl σ a && lvl σ b) 1 3 := by
  by_cases c1 : a = -1 ∨ b = -1 ∨ a = -b
  · have e : andS a b = fun S => (-1, S) := by funext S; unfold andS; rw [if_pos c1]
    rw [e]
    refine ResS.const h _ (ok1 h).2 (fun σ hσ => ?_) _ _
    obtain ⟨t1, t2⟩ := tru_lvl h hσ
    rcases c1 with rfl | rfl | rfl
    · rw [t2]; rfl
    · rw [t2]; simp
    · rw [t2, lvl_neg hb.1]; cases lvl σ b <;> rfl
  by_cases c2 : a = 1 ∨ a = b
  · have e : andS a b = fun S => (b, S) := by funext S; unfold andS; rw [if_neg c1, if_pos c2]
    rw [e]
    refine ResS.const h _ hb (fun σ hσ => ?_) _ _
    obtain ⟨t1, t2⟩ := tru_lvl h hσ
    rcases c2 with rfl | rfl
    · rw [t1]; rfl
    · simp
  by_cases c3 : b = 1
  · have e : andS a b = fun S => (a, S) := by funext S; unfold andS; rw [if_neg c1, if_neg c2, if_pos c3]
    rw [e]
    refine ResS.const h _ ha (fun σ hσ => ?_) _ _
    obtain ⟨t1, t2⟩ := tru_lvl h hσ
    rw [c3, t1]; simp
  have e : andS a b = gateS ⟨0, min a b, max a b, 0, []⟩ (fun o => [[-o, a], [-o, b], [o, -a, -b]]) := by funext S; unfold andS; rw [if_neg c1, if_neg c2, if_neg c3]
  rw [e]
  have no : okL (S.n + 1) ((S.n + 1 : Nat) : Int) := by unfold okL; omega
  have oa := ha.mono (Nat.le_succ S.n)
  have ob := hb.mono (Nat.le_succ S.n)
  refine gate_res h _ _ _ 3 (fun σ σ' hv => ?_) (fun σ => ?_) (fun c hc y hy => ?_) (by simp) (fun σ v => ?_)
  · rw [lvl_same hv ha, lvl_same hv hb]
  · generalize ((S.n + 1 : Nat) : Int) = o at *
    simp only [hA, hC, List.all_cons, List.all_nil, List.any_cons, List.any_nil, lvl_neg no.1, lvl_neg ha.1, lvl_neg hb.1]
    cases lvl σ o <;> cases lvl σ a <;> cases lvl σ b <;> rfl
  · generalize ((S.n + 1 : Nat) : Int) = o at *
    simp at hc
    rcases hc with rfl | rfl | rfl <;> simp at hy <;> rcases hy with rfl | rfl | rfl <;> first | assumption | exact no.neg | exact oa.neg | exact ob.neg
  · unfold Sem
    have := min_max_lvl σ a b (fun x y => x && y) (fun x y => Bool.and_comm x y)
    dsimp only at this ⊢
    constructor
    · rintro ⟨q, -⟩; rw [← this]; exact q rfl
    · intro q; exact ⟨fun _ => (by rw [q, this]), fun e => absurd e (by decide), fun e => absurd e (by decide), fun e => absurd e (by decide)⟩
def orS (a b : Int) (S : GS) : Int × GS := (-(andS (-a) (-b) S).1, (andS (-a) (-b) S).2)
theorem or_res {S : GS} {F : Nat → Prop} (h : GI S F) {a b : Int} (ha : okL S.n a) (hb : okL S.n b) : ResS S F (orS a b) (fun σ => lvl σ a || lvl σ b) 1 3 :=
  (and_res h ha.neg hb.neg).neg.eqv fun σ hσ => by
    rw [lvl_neg ha.1, lvl_neg hb.1]; cases lvl σ a <;> cases lvl σ b <;> rfl
/-! ### Choose -/
def chooseS (c a b : Int) (S : GS) : Int × GS :=
  if c = 1 ∨ a = b then (a, S) else if c = -1 then (b, S) else gateS ⟨2, c, a, b, []⟩ (fun o => [[-c, -a, o], [-c, a, -o], [c, -b, o], [c, b, -o]]) S
theorem choose_res {S : GS} {F : Nat → Prop} (h : GI S F) {c a b : Int} (hc : okL S.n c) (ha : okL S.n a) (hb : okL S.n b) : ResS S F (chooseS c a b) (fun σ => if lvl σ c then lvl σ a else lvl σ b) 1 4 := by
  by_cases c1 : c = 1 ∨ a = b
  · have e : chooseS c a b = fun S => (a, S) := by funext S; unfold chooseS; rw [if_pos c1]
    rw [e]
    refine ResS.const h _ ha (fun σ hσ => ?_) _ _
    obtain ⟨t1, t2⟩ := tru_lvl h hσ
    rcases c1 with rfl | rfl
    · rw [t1]; rfl
    · simp
  by_cases c2 : c = -1
  · have e : chooseS c a b = fun S => (b, S) := by funext S; unfold chooseS; rw [if_neg c1, if_pos c2]
    rw [e]
    refine ResS.const h _ hb (fun σ hσ => ?_) _ _
    obtain ⟨t1, t2⟩ := tru_lvl h hσ
    rw [c2, t2]; rfl
  have e : chooseS c a b = gateS ⟨2, c, a, b, []⟩ (fun o => [[-c, -a, o], [-c, a, -o], [c, -b, o], [c, b, -o]]) := by funext S; unfold chooseS; rw [if_neg c1, if_neg c2]
  rw [e]
  have no : okL (S.n + 1) ((S.n + 1 : Nat) : Int) := by unfold okL; omega
  have oc := hc.mono (Nat.le_succ S.n)
  have oa := ha.mono (Nat.le_succ S.n)
  have ob := hb.mono (Nat.le_succ S.n)
  refine gate_res h _ _ _ 4 (fun σ σ' hv => ?_) (fun σ => ?_) (fun d hd y hy => ?_) (by simp) (fun σ v => ?_)
  · rw [lvl_same hv ha, lvl_same hv hb, lvl_same hv hc]
  · generalize ((S.n + 1 : Nat) : Int) = o at *
    simp only [hA, hC, List.all_cons, List.all_nil, List.any_cons, List.any_nil, lvl_neg no.1, lvl_neg ha.1, lvl_neg hb.1, lvl_neg hc.1]
    cases lvl σ o <;> cases lvl σ a <;> cases lvl σ b <;> cases lvl σ c <;> rfl
  · generalize ((S.n + 1 : Nat) : Int) = o at *
    simp at hd
    rcases hd with rfl | rfl | rfl | rfl <;> simp at hy <;> rcases hy with rfl | rfl | rfl <;> first | assumption | exact no.neg | exact oa.neg | exact ob.neg | exact oc.neg
  · unfold Sem
    dsimp only
    constructor
    · rintro ⟨-, -, q, -⟩; exact q rfl
    · intro q; exact ⟨fun e => absurd e (by decide), fun e => absurd e (by decide), fun _ => q, fun e => absurd e (by decide)⟩
/-! ### Xor -/
def sgn (a : Int) : Int := if a < 0 then -1 else 1
def absG (a : Int) : Int := if a < 0 then -a else a
def xorS (a b : Int) (S : GS) : Int × GS :=
  if a = 1 ∨ a = -1 then (-a * b, S) else if b = 1 ∨ b = -1 then (-b * a, S) else if a = b then (-1, S) else if a = -b then (1, S)
  else (sgn a * sgn b * (gateS ⟨1, min (absG a) (absG b), max (absG a) (absG b), 0, []⟩ (fun o => [[-o, absG a, absG b], [-o, -absG a, -absG b], [o, -absG a, absG b], [o, absG a, -absG b]]) S).1, (gateS ⟨1, min (absG a) (absG b), max (absG a) (absG b), 0, []⟩ (fun o => [[-o, absG a, absG b], [-o, -absG a, -absG b], [o, -absG a, absG b], [o, absG a, -absG b]]) S).2)
theorem lvl_abs (σ : Nat → Bool) {a : Int} (h : a ≠ 0) : lvl σ (absG a) = (lvl σ a != decide (a < 0)) := by
  unfold absG
  by_cases h0 : a < 0
  · rw [if_pos h0, decide_eq_true h0, lvl_neg h]; simp
  · rw [if_neg h0, decide_eq_false h0]; simp
theorem ResS.sign {S : GS} {F : Nat → Prop} {f : GS → Int × GS} {e : (Nat → Bool) → Bool} {m k : Nat} (h : ResS S F f e m k) (s : Int) (hs : s = 1 ∨ s = -1) : ResS S F (fun S => (s * (f S).1, (f S).2)) (fun σ => e σ != decide (s = -1)) m k := by
  rcases hs with rfl | rfl
  · have e1 : (fun S => ((1 : Int) * (f S).1, (f S).2)) = f := by funext S; rw [Int.one_mul]
    rw [e1]
    exact h.eqv fun σ _ => by simp
  · have e1 : (fun S => ((-1 : Int) * (f S).1, (f S).2)) = fun S => (-(f S).1, (f S).2) := by funext S; rw [Int.neg_mul, Int.one_mul]
    rw [e1]
    exact h.neg.eqv fun σ _ => by simp
theorem xor_res {S : GS} {F : Nat → Prop} (h : GI S F) {a b : Int} (ha : okL S.n a) (hb : okL S.n b) : ResS S F (xorS a b) (fun σ => lvl σ a != lvl σ b) 1 4 := by
  by_cases c1 : a = 1 ∨ a = -1
  · have e : xorS a b = fun S => (-a * b, S) := by funext S; unfold xorS; rw [if_pos c1]
    rw [e]
    have hr : -a * b = -b ∨ -a * b = b := by rcases c1 with rfl | rfl <;> simp
    refine ResS.const h _ (by rcases hr with e | e <;> rw [e]; exact hb.neg; exact hb) (fun σ hσ => ?_) _ _
    obtain ⟨t1, t2⟩ := tru_lvl h hσ
    rcases c1 with rfl | rfl
    · rw [show (-1 : Int) * b = -b by omega, lvl_neg hb.1, t1]; cases lvl σ b <;> rfl
    · rw [show (- -1 : Int) * b = b by omega, t2]; cases lvl σ b <;> rfl
  by_cases c2 : b = 1 ∨ b = -1
  · have e : xorS a b = fun S => (-b * a, S) := by funext S; unfold xorS; rw [if_neg c1, if_pos c2]
    rw [e]
    have hr : -b * a = -a ∨ -b * a = a := by rcases c2 with rfl | rfl <;> simp
    refine ResS.const h _ (by rcases hr with e | e <;> rw [e]; exact ha.neg; exact ha) (fun σ hσ => ?_) _ _
    obtain ⟨t1, t2⟩ := tru_lvl h hσ
    rcases c2 with rfl | rfl
    · rw [show (-1 : Int) * a = -a by omega, lvl_neg ha.1, t1]; cases lvl σ a <;> rfl
    · rw [show (- -1 : Int) * a = a by omega, t2]; cases lvl σ a <;> rfl
  by_cases c3 : a = b
  · have e : xorS a b = fun S => (-1, S) := by funext S; unfold xorS; rw [if_neg c1, if_neg c2, if_pos c3]
    rw [e]
    refine ResS.const h _ (ok1 h).2 (fun σ hσ => ?_) _ _
    rw [(tru_lvl h hσ).2, c3]; simp
  by_cases c4 : a = -b
  · have e : xorS a b = fun S => (1, S) := by funext S; unfold xorS; rw [if_neg c1, if_neg c2, if_neg c3, if_pos c4]
    rw [e]
    refine ResS.const h _ (ok1 h).1 (fun σ hσ => ?_) _ _
    rw [(tru_lvl h hσ).1, c4, lvl_neg hb.1]; cases lvl σ b <;> rfl
  have oa : okL S.n (absG a) := by unfold okL absG at *; split <;> omega
  have ob : okL S.n (absG b) := by unfold okL absG at *; split <;> omega
  have hg : ResS S F (gateS ⟨1, min (absG a) (absG b), max (absG a) (absG b), 0, []⟩ (fun o => [[-o, absG a, absG b], [-o, -absG a, -absG b], [o, -absG a, absG b], [o, absG a, -absG b]])) (fun σ => lvl σ (absG a) != lvl σ (absG b)) 1 4 := by
    have la := lvl_abs (a := a)
    generalize absG a = x at *
    generalize absG b = y at *
    have no : okL (S.n + 1) ((S.n + 1 : Nat) : Int) := by unfold okL; omega
    have ox := oa.mono (Nat.le_succ S.n)
    have oy := ob.mono (Nat.le_succ S.n)
    refine gate_res h _ _ _ 4 (fun σ σ' hv => ?_) (fun σ => ?_) (fun d hd z hz => ?_) (by simp) (fun σ v => ?_)
    · rw [lvl_same hv oa, lvl_same hv ob]
    · generalize ((S.n + 1 : Nat) : Int) = o at *
      simp only [hA, hC, List.all_cons, List.all_nil, List.any_cons, List.any_nil, lvl_neg no.1, lvl_neg oa.1, lvl_neg ob.1]
      cases lvl σ o <;> cases lvl σ x <;> cases lvl σ y <;> rfl
    · generalize ((S.n + 1 : Nat) : Int) = o at *
      simp at hd
      rcases hd with rfl | rfl | rfl | rfl <;> simp at hz <;> rcases hz with rfl | rfl | rfl <;> first | assumption | exact no.neg | exact ox.neg | exact oy.neg
    · unfold Sem
      have := min_max_lvl σ x y (fun x y => x != y) (fun x y => by cases x <;> cases y <;> rfl)
      dsimp only at this ⊢
      constructor
      · rintro ⟨-, q, -⟩; rw [← this]; exact q rfl
      · intro q; exact ⟨fun e => absurd e (by decide), fun _ => (by rw [q, this]), fun e => absurd e (by decide), fun e => absurd e (by decide)⟩
  have e : xorS a b = fun S => (sgn a * sgn b * (gateS ⟨1, min (absG a) (absG b), max (absG a) (absG b), 0, []⟩ (fun o => [[-o, absG a, absG b], [-o, -absG a, -absG b], [o, -absG a, absG b], [o, absG a, -absG b]]) S).1, (gateS ⟨1, min (absG a) (absG b), max (absG a) (absG b), 0, []⟩ (fun o => [[-o, absG a, absG b], [-o, -absG a, -absG b], [o, -absG a, absG b], [o, absG a, -absG b]]) S).2) := by
    funext S; unfold xorS; rw [if_neg c1, if_neg c2, if_neg c3, if_neg c4]
  rw [e]
  refine (hg.sign (sgn a * sgn b) ?_).eqv fun σ hσ => ?_
  · unfold sgn; split <;> split <;> simp
  · rw [lvl_abs σ ha.1, lvl_abs σ hb.1]
    unfold sgn
    by_cases ha0 : a < 0 <;> by_cases hb0 : b < 0 <;> simp [ha0, hb0] <;> cases lvl σ a <;> cases lvl σ b <;> rfl
end Go.Proofs.Ytkofhilgehhopaa
/-
  Gates, PLAIN: what All, Some and Equal come to.
-/
namespace Go.Proofs.Ytkofhilgehhopaa
set_option linter.unusedVariables false
set_option linter.unusedSimpArgs false
def canonL (l : List Int) : List Int := (sortR l).filter fun x => !(x == 1)
def oppB (c : List Int) (x : Int) : Bool := x == -1 || c.contains (-x)
def allCls (c : List Int) (o : Int) : List (List Int) := c.map (fun x => [-o, x]) ++ [o :: c.map fun x => -x]
def allS (l : List Int) (S : GS) : Int × GS :=
  if (canonL l).any (oppB (canonL l)) = true then (-1, S) else if canonL l = [] then (1, S) else if (canonL l).length = 1 then ((canonL l).getD 0 0, S)
  else gateS ⟨3, 0, 0, 0, textB (canonL l)⟩ (allCls (canonL l)) S
theorem mem_canonL {l : List Int} {x : Int} : x ∈ canonL l ↔ x ∈ l ∧ x ≠ 1 := by
  unfold canonL
  rw [List.mem_filter, mem_sortR]
  simp
theorem canonL_len (l : List Int) : (canonL l).length ≤ l.length := Nat.le_trans (List.length_filter_le _ _) (length_sortR l)
theorem all_canon {S : GS} {F : Nat → Prop} (h : GI S F) {σ : Nat → Bool} (hσ : hA σ S.cl = true) (l : List Int) : (canonL l).all (lvl σ) = l.all (lvl σ) := by
  rw [Bool.eq_iff_iff, List.all_eq_true, List.all_eq_true]
  constructor
  · intro g x hx
    by_cases e : x = 1
    · rw [e]; exact (tru_lvl h hσ).1
    · exact g x (mem_canonL.2 ⟨hx, e⟩)
  · intro g x hx
    exact g x (mem_canonL.1 hx).1
theorem hC_pair (σ : Nat → Bool) {o x : Int} (ho : o ≠ 0) : hC σ [-o, x] = (!lvl σ o || lvl σ x) := by simp [hC, lvl_neg ho]
theorem hC_negs (σ : Nat → Bool) (o : Int) : ∀ (c : List Int), (∀ x ∈ c, x ≠ 0) → hC σ (o :: c.map fun x => -x) = (lvl σ o || !c.all (lvl σ)) := by
  intro c hc
  have : ∀ c : List Int, (∀ x ∈ c, x ≠ 0) → (c.map fun x => -x).any (lvl σ) = !c.all (lvl σ) := by
    intro c
    induction c with
    | nil => intro _; rfl
    | cons x c ih =>
      intro hc
      rw [List.map_cons, List.any_cons, List.all_cons, ih (fun y hy => hc y (List.mem_cons_of_mem _ hy)), lvl_neg (hc x (by simp))]
      cases lvl σ x <;> rfl
  show (lvl σ o || (c.map fun x => -x).any (lvl σ)) = _
  rw [this c hc]
theorem hA_pairs (σ : Nat → Bool) {o : Int} (ho : o ≠ 0) : ∀ c : List Int, hA σ (c.map fun x => [-o, x]) = (!lvl σ o || c.all (lvl σ))
  | [] => by simp [hA]
  | x :: c => by
    have ih := hA_pairs σ ho c
    unfold hA at ih ⊢
    rw [List.map_cons, List.all_cons, ih, hC_pair σ ho, List.all_cons]
    cases lvl σ o <;> cases lvl σ x <;> simp
theorem hA_allCls (σ : Nat → Bool) {o : Int} (ho : o ≠ 0) {c : List Int} (hc : ∀ x ∈ c, x ≠ 0) : hA σ (allCls c o) = (lvl σ o == c.all (lvl σ)) := by
  unfold allCls
  rw [hA_app, hA_pairs σ ho]
  have : hA σ [o :: c.map fun x => -x] = (lvl σ o || !c.all (lvl σ)) := by
    rw [← hC_negs σ o c hc]
    simp [hA]
  rw [this]
  cases lvl σ o <;> cases c.all (lvl σ) <;> rfl
theorem all_res {S : GS} {F : Nat → Prop} (h : GI S F) {l : List Int} (hl : ∀ x ∈ l, okL S.n x) (hn : S.n ≤ 1000000) : ResS S F (allS l) (fun σ => l.all (lvl σ)) l.length (l.length + 1) := by
  have hcl : ∀ x ∈ canonL l, okL S.n x := fun x hx => hl x (mem_canonL.1 hx).1
  have hlen := canonL_len l
  by_cases c1 : (canonL l).any (oppB (canonL l)) = true
  · have e : allS l = fun S => (-1, S) := by funext S; unfold allS; rw [if_pos c1]
    rw [e]
    refine ResS.const h _ (ok1 h).2 (fun σ hσ => ?_) _ _
    rw [(tru_lvl h hσ).2, ← all_canon h hσ]
    symm
    rw [List.any_eq_true] at c1
    obtain ⟨x, hx, ho⟩ := c1
    unfold oppB at ho
    rw [Bool.or_eq_true, beq_iff_eq, List.contains_iff_mem] at ho
    rw [← Bool.not_eq_true]
    intro hall
    rw [List.all_eq_true] at hall
    rcases ho with rfl | ho
    · have := hall _ hx
      rw [(tru_lvl h hσ).2] at this; cases this
    · have q1 := hall _ hx
      have q2 := hall _ ho
      rw [lvl_neg (hcl x hx).1, q1] at q2; cases q2
  by_cases c2 : canonL l = []
  · have e : allS l = fun S => (1, S) := by funext S; unfold allS; rw [if_neg c1, if_pos c2]
    rw [e]
    refine ResS.const h _ (ok1 h).1 (fun σ hσ => ?_) _ _
    rw [(tru_lvl h hσ).1, ← all_canon h hσ, c2]; rfl
  by_cases c3 : (canonL l).length = 1
  · have e : allS l = fun S => ((canonL l).getD 0 0, S) := by funext S; unfold allS; rw [if_neg c1, if_neg c2, if_pos c3]
    rw [e]
    obtain ⟨x, hx⟩ : ∃ x, canonL l = [x] := by
      match hc : canonL l, c3 with
      | [x], _ => exact ⟨x, rfl⟩
    refine ResS.const h _ (by rw [hx]; exact hcl x (by rw [hx]; simp)) (fun σ hσ => ?_) _ _
    rw [← all_canon h hσ, hx]
    simp
  have e : allS l = gateS ⟨3, 0, 0, 0, textB (canonL l)⟩ (allCls (canonL l)) := by funext S; unfold allS; rw [if_neg c1, if_neg c2, if_neg c3]
  rw [e]
  have h2 : 2 ≤ (canonL l).length := by
    rcases hc : canonL l with _ | ⟨x, _ | ⟨y, r⟩⟩
    · exact absurd hc c2
    · rw [hc] at c3; exact absurd rfl c3
    · simp
  have no : okL (S.n + 1) ((S.n + 1 : Nat) : Int) := by unfold okL; omega
  have h32 : ∀ x ∈ canonL l, in32 x := fun x hx => by have := hcl x hx; unfold okL at this; unfold in32; omega
  have hg : ResS S F (gateS ⟨3, 0, 0, 0, textB (canonL l)⟩ (allCls (canonL l))) (fun σ => (canonL l).all (lvl σ)) 1 (l.length + 1) := by
    refine gate_res h _ _ _ _ (fun σ σ' hv => ?_) (fun σ => hA_allCls σ no.1 (fun x hx => (hcl x hx).1)) (fun c hc y hy => ?_) (by unfold allCls; simp; omega) (fun σ v => ?_)
    · rw [Bool.eq_iff_iff, List.all_eq_true, List.all_eq_true]
      constructor
      · intro g x hx; rw [← lvl_same hv (hcl x hx)]; exact g x hx
      · intro g x hx; rw [lvl_same hv (hcl x hx)]; exact g x hx
    · unfold allCls at hc
      rw [List.mem_append, List.mem_map, List.mem_singleton] at hc
      rcases hc with ⟨x, hx, rfl⟩ | rfl
      · rw [List.mem_cons, List.mem_singleton] at hy
        rcases hy with rfl | rfl
        · exact no.neg
        · exact (hcl _ hx).mono (Nat.le_succ _)
      · rw [List.mem_cons, List.mem_map] at hy
        rcases hy with rfl | ⟨x, hx, rfl⟩
        · exact no
        · exact ((hcl _ hx).mono (Nat.le_succ _)).neg
    · unfold Sem
      dsimp only
      constructor
      · rintro ⟨-, -, -, q⟩; exact q rfl _ h32 rfl
      · intro q
        refine ⟨fun e => absurd e (by decide), fun e => absurd e (by decide), fun e => absurd e (by decide), fun _ l' h' e' => ?_⟩
        rw [textB_inj h' h32 e']
        exact q
  exact (hg.mono (by omega) (Nat.le_refl _)).eqv fun σ hσ => all_canon h hσ l
/-! ### Some -/
def negs (l : List Int) : List Int := l.map fun x => -x
def someS (l : List Int) (S : GS) : Int × GS := (-(allS (negs l) S).1, (allS (negs l) S).2)
theorem negs_ok {n : Nat} {l : List Int} (hl : ∀ x ∈ l, okL n x) : ∀ x ∈ negs l, okL n x := fun x hx => by
  obtain ⟨y, hy, rfl⟩ := List.mem_map.1 hx
  exact (hl y hy).neg
theorem negs_len (l : List Int) : (negs l).length = l.length := by unfold negs; simp
theorem some_res {S : GS} {F : Nat → Prop} (h : GI S F) {l : List Int} (hl : ∀ x ∈ l, okL S.n x) (hn : S.n ≤ 1000000) : ResS S F (someS l) (fun σ => l.any (lvl σ)) l.length (l.length + 1) := by
  have := (all_res h (negs_ok hl) hn).neg
  rw [negs_len] at this
  refine this.eqv fun σ hσ => ?_
  clear this
  unfold negs
  induction l with
  | nil => rfl
  | cons x l ih =>
    have := ih (fun y hy => hl y (List.mem_cons_of_mem _ hy))
    rw [List.map_cons, List.all_cons, List.any_cons, lvl_neg (hl x (by simp)).1, ← this]
    cases lvl σ x <;> simp
/-! ### Equal -/
def xorsS : List (Int × Int) → GS → List Int × GS
  | [], S => ([], S)
  | p :: r, S => (-(xorS p.1 p.2 S).1 :: (xorsS r (xorS p.1 p.2 S).2).1, (xorsS r (xorS p.1 p.2 S).2).2)
def equalS (ps : List (Int × Int)) (S : GS) : Int × GS := allS (xorsS ps S).1 (xorsS ps S).2
theorem xorsS_snoc (p : Int × Int) : ∀ (l : List (Int × Int)) (S : GS), xorsS (l ++ [p]) S = ((xorsS l S).1 ++ [-(xorS p.1 p.2 (xorsS l S).2).1], (xorS p.1 p.2 (xorsS l S).2).2)
  | [], S => rfl
  | q :: l, S => by
    show (_ :: (xorsS (l ++ [p]) _).1, (xorsS (l ++ [p]) _).2) = _
    rw [xorsS_snoc p l]
    rfl
theorem xorsS_len : ∀ (l : List (Int × Int)) (S : GS), (xorsS l S).1.length = l.length
  | [], S => rfl
  | q :: l, S => by
    show (_ :: (xorsS l _).1).length = _
    rw [List.length_cons, xorsS_len l, List.length_cons]
structure XsS (S : GS) (F : Nat → Prop) (ps : List (Int × Int)) : Prop where
  gi : GI (xorsS ps S).2 F
  ok : ∀ x ∈ (xorsS ps S).1, okL (xorsS ps S).2.n x
  sem : ∀ σ, hA σ (xorsS ps S).2.cl = true → (xorsS ps S).1.all (lvl σ) = ps.all fun p => lvl σ p.1 == lvl σ p.2
  ext : ExtS S (xorsS ps S).2
  nb : (xorsS ps S).2.n ≤ S.n + ps.length
  cb : (xorsS ps S).2.cl.length ≤ S.cl.length + 4 * ps.length
  tb : (xorsS ps S).2.tab.length ≤ S.tab.length + ps.length
  again : ∀ S'', ExtS (xorsS ps S).2 S'' → xorsS ps S'' = ((xorsS ps S).1, S'')
theorem xors_res : ∀ (ps : List (Int × Int)) {S : GS} {F : Nat → Prop} (h : GI S F), (∀ p ∈ ps, okL S.n p.1 ∧ okL S.n p.2) → XsS S F ps
  | [], S, F, h, _ => ⟨h, fun x hx => by simp [xorsS] at hx, fun σ hσ => by simp [xorsS], ExtS.refl S, Nat.le_refl _, Nat.le_refl _, Nat.le_refl _, fun _ _ => rfl⟩
  | p :: ps, S, F, h, hp => by
    have hx := xor_res h (hp p (by simp)).1 (hp p (by simp)).2
    have ih := xors_res ps hx.gi (fun q hq => ⟨((hp q (List.mem_cons_of_mem _ hq)).1).mono hx.ext.n, ((hp q (List.mem_cons_of_mem _ hq)).2).mono hx.ext.n⟩)
    refine ⟨ih.gi, fun x hm => ?_, fun σ hσ => ?_, hx.ext.trans ih.ext, ?_, ?_, ?_, fun S'' hS => ?_⟩
    · have hm : x ∈ -(xorS p.1 p.2 S).1 :: (xorsS ps (xorS p.1 p.2 S).2).1 := hm
      rcases List.mem_cons.1 hm with rfl | hm
      · exact (hx.ok.mono ih.ext.n).neg
      · exact ih.ok x hm
    · have hσ : hA σ (xorsS ps (xorS p.1 p.2 S).2).2.cl = true := hσ
      show (-(xorS p.1 p.2 S).1 :: (xorsS ps (xorS p.1 p.2 S).2).1).all (lvl σ) = _
      rw [List.all_cons, List.all_cons, ih.sem σ hσ, lvl_neg hx.ok.1, hx.sem σ (ih.ext.hA hσ)]
      cases lvl σ p.1 <;> cases lvl σ p.2 <;> rfl
    · have := ih.nb; have := hx.nb
      show (xorsS ps (xorS p.1 p.2 S).2).2.n ≤ _
      rw [List.length_cons]; omega
    · have := ih.cb; have := hx.cb
      show (xorsS ps (xorS p.1 p.2 S).2).2.cl.length ≤ _
      rw [List.length_cons]; omega
    · have := ih.tb; have := hx.tb
      show (xorsS ps (xorS p.1 p.2 S).2).2.tab.length ≤ _
      rw [List.length_cons]; omega
    · have hS : ExtS (xorsS ps (xorS p.1 p.2 S).2).2 S'' := hS
      show (-(xorS p.1 p.2 S'').1 :: (xorsS ps (xorS p.1 p.2 S'').2).1, (xorsS ps (xorS p.1 p.2 S'').2).2) = _
      rw [hx.again S'' (ih.ext.trans hS)]
      dsimp only
      rw [ih.again S'' hS]
      rfl
theorem equal_res {S : GS} {F : Nat → Prop} (h : GI S F) {ps : List (Int × Int)} (hp : ∀ p ∈ ps, okL S.n p.1 ∧ okL S.n p.2) (hn : S.n + ps.length ≤ 1000000) : ResS S F (equalS ps) (fun σ => ps.all fun p => lvl σ p.1 == lvl σ p.2) (2 * ps.length) (5 * ps.length + 1) := by
  have hx := xors_res ps h hp
  have ha := all_res hx.gi hx.ok (by have := hx.nb; omega)
  rw [xorsS_len] at ha
  refine ⟨ha.gi, ha.ok, fun σ hσ => ?_, hx.ext.trans ha.ext, ?_, ?_, ?_, fun S'' hS => ?_⟩
  · show lvl σ (allS (xorsS ps S).1 (xorsS ps S).2).1 = _
    rw [ha.sem σ hσ, hx.sem σ (ha.ext.hA hσ)]
  · have := ha.nb; have := hx.nb
    show (allS (xorsS ps S).1 (xorsS ps S).2).2.n ≤ _
    omega
  · have := ha.cb; have := hx.cb
    show (allS (xorsS ps S).1 (xorsS ps S).2).2.cl.length ≤ _
    omega
  · have := ha.tb; have := hx.tb
    show (allS (xorsS ps S).1 (xorsS ps S).2).2.tab.length ≤ _
    omega
  · have hS : ExtS (allS (xorsS ps S).1 (xorsS ps S).2).2 S'' := hS
    show allS (xorsS ps S'').1 (xorsS ps S'').2 = _
    rw [hx.again S'' (ha.ext.trans hS)]
    dsimp only
    rw [ha.again S'' hS]
    rfl
end Go.Proofs.Ytkofhilgehhopaa
