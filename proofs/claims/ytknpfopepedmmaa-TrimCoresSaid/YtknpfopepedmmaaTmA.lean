/-
  Trim, plainly: what is recorded of a proof, and what is needed of it.
-/
import Derived.Test.YtknpfopepedmmaaRwC
namespace Go.Proofs.Ytknpfopepedmmaa
open Go
set_option linter.unusedVariables false
set_option linter.unusedSimpArgs false
open Classical in
/-- Why a clause follows. -/
noncomputable def whyF (S : RS) (c : List Int) : List Nat := if h : ∃ R, WhyR S c true R then h.choose else []
theorem WhyR.eqF {S : RS} {c : List Int} {R : List Nat} (h : WhyR S c true R) : R = whyF S c := by
  have hx : ∃ R, WhyR S c true R := ⟨R, h⟩
  unfold whyF
  rw [dif_pos hx]
  exact (h.same hx.choose_spec).2
theorem WhyR.toF {S : RS} {c : List Int} {R : List Nat} (h : WhyR S c true R) : WhyR S c true (whyF S c) := by
  rw [← h.eqF]; exact h
/-- What is recorded: the checker, why each of its clauses came, which step each one is. -/
structure TrS where
  S : RS
  ws : List (List Nat)
  ts : List Nat
noncomputable def TrS.put (s : TrS) (i : Nat) (x : Stp) : TrS := if x.1 = true then ⟨s.S.rem (normC x.2), s.ws, s.ts⟩ else ⟨s.S.add (normC x.2), s.ws ++ [whyF s.S x.2], s.ts ++ [i]⟩
def TrS.inp (s : TrS) (c : List Int) : TrS := ⟨s.S.add (normC c), s.ws ++ [[]], s.ts⟩
def tr0 (og : List (List Int)) : TrS := og.foldl TrS.inp ⟨RS0, [], []⟩
theorem tr0_snoc (og : List (List Int)) (c : List Int) : tr0 (og ++ [c]) = (tr0 og).inp c := by
  unfold tr0; rw [List.foldl_append]; rfl
noncomputable def trK (og : List (List Int)) (xs : List Stp) : Nat → TrS
  | 0 => tr0 og
  | k + 1 => (trK og xs k).put k (xs.getD k (false, []))
def stC (xs : List Stp) (i : Nat) : List Int := (xs.getD i (false, [])).2
structure TrI (og : List (List Int)) (xs : List Stp) (k : Nat) (s : TrS) (L : List (List Int)) (G : List Bool) : Prop where
  mir : Mir s.S L G
  le : L = og ++ s.ts.map (stC xs)
  wl : s.ws.length = L.length
  up : s.ts.Pairwise (· < ·)
  lt : ∀ i ∈ s.ts, i < k
  ng : ∀ i ∈ s.ts, (xs.getD i (false, [])).1 = false
  wlt : ∀ j, j < s.ws.length → ∀ i ∈ s.ws.getD j [], i < j
  core : ∀ j, og.length ≤ j → j < L.length → ¬ OpenN (pick_ L (s.ws.getD j [])) (L.getD j [])
theorem openN_more {a b : List (List Int)} {c : List Int} (hs : ∀ d ∈ a, d ∈ b) (h : ¬ OpenN a c) : ¬ OpenN b c := fun ⟨T, t1, t2, t3⟩ => h ⟨T, t1, t2, fun d hd => t3 d (hs d hd)⟩
theorem pick_append {l m : List (List Int)} {R : List Nat} (hR : ∀ j ∈ R, j < l.length) : pick_ (l ++ m) R = pick_ l R := by
  unfold pick_
  exact List.map_congr_left fun j hj => getD_append_l (hR j hj)
section
variable {og : List (List Int)} {xs : List Stp} {k : Nat} {s : TrS} {L : List (List Int)} {G : List Bool}
theorem TrI.gone (h : TrI og xs k s L G) {S2 : RS} {G2 : List Bool} (hm : Mir S2 L G2) : TrI og xs (k + 1) ⟨S2, s.ws, s.ts⟩ L G2 :=
  ⟨hm, h.le, h.wl, h.up, fun i hi => Nat.lt_succ_of_lt (h.lt i hi), h.ng, h.wlt, h.core⟩
theorem TrI.more (h : TrI og xs k s L G) {c : List Int} {R : List Nat} (hx : xs.getD k (false, []) = (false, c)) (hy : WhyR s.S c true R) {S2 : RS} (hm : Mir S2 (L ++ [c]) (G ++ [false])) : TrI og xs (k + 1) ⟨S2, s.ws ++ [R], s.ts ++ [k]⟩ (L ++ [c]) (G ++ [false]) := by
  have hon : ∀ j ∈ R, j < L.length := fun j hj => by rw [← h.mir.size]; exact (hy.on j hj).1
  refine ⟨hm, ?_, ?_, ?_, ?_, ?_, ?_, ?_⟩
  · show L ++ [c] = og ++ (s.ts ++ [k]).map (stC xs)
    rw [List.map_append, ← List.append_assoc, ← h.le]
    simp only [List.map_cons, List.map_nil, stC, hx]
  · show (s.ws ++ [R]).length = _
    rw [List.length_append, List.length_append, h.wl]; rfl
  · show (s.ts ++ [k]).Pairwise _
    rw [List.pairwise_append]
    exact ⟨h.up, by simp, fun a ha b hb => by rw [List.mem_singleton.1 hb]; exact h.lt a ha⟩
  · intro i hi
    rcases List.mem_append.1 hi with hi | hi
    · exact Nat.lt_succ_of_lt (h.lt i hi)
    · rw [List.mem_singleton.1 hi]; omega
  · intro i hi
    rcases List.mem_append.1 hi with hi | hi
    · exact h.ng i hi
    · rw [List.mem_singleton.1 hi, hx]
  · intro j hj i hi
    replace hj : j < (s.ws ++ [R]).length := hj
    replace hi : i ∈ (s.ws ++ [R]).getD j [] := hi
    rw [List.length_append, List.length_singleton] at hj
    by_cases hlt : j < s.ws.length
    · rw [getD_append_l hlt] at hi
      exact h.wlt j hlt i hi
    · have e : j = s.ws.length := by omega
      rw [e, getD_snoc_eq] at hi
      rw [e, h.wl]; exact hon i hi
  · intro j h1 h2
    show ¬ OpenN (pick_ (L ++ [c]) ((s.ws ++ [R]).getD j [])) ((L ++ [c]).getD j [])
    rw [List.length_append, List.length_singleton] at h2
    by_cases hlt : j < L.length
    · rw [getD_append_l (by rw [h.wl]; exact hlt), getD_append_l hlt, pick_append (fun i hi => by have := h.wlt j (by rw [h.wl]; exact hlt) i hi; omega)]
      exact h.core j h1 hlt
    · have e : j = L.length := by omega
      rw [e, getD_snoc_eq, ← h.wl, getD_snoc_eq, pick_append hon]
      exact pick_core h.mir hy
end
/-! ### what is needed -/
def markL (o : List Bool) (R : List Nat) : List Bool := R.foldl (fun o k => o.set k true) o
theorem markL_snoc (o : List Bool) (R : List Nat) (k : Nat) : markL o (R ++ [k]) = (markL o R).set k true := by
  unfold markL; rw [List.foldl_append]; rfl
theorem markL_len : ∀ (R : List Nat) (o : List Bool), (markL o R).length = o.length
  | [], o => rfl
  | k :: R, o => by
    show (markL (o.set k true) R).length = _
    rw [markL_len R, List.length_set]
theorem markL_get : ∀ (R : List Nat) (o : List Bool) (i : Nat), (markL o R).getD i false = true ↔ o.getD i false = true ∨ i ∈ R ∧ i < o.length
  | [], o, i => by simp [markL]
  | k :: R, o, i => by
    have e : markL o (k :: R) = markL (o.set k true) R := rfl
    rw [e, markL_get R, List.length_set]
    by_cases hik : i = k
    · subst hik
      by_cases hlt : i < o.length
      · simp [List.getD_eq_getElem?_getD, hlt]
      · simp [List.getD_eq_getElem?_getD, hlt]
    · have : (o.set k true).getD i false = o.getD i false := by
        rw [List.getD_eq_getElem?_getD, List.getElem?_set_ne (fun e => hik e.symm), List.getD_eq_getElem?_getD]
      rw [this]
      simp [hik]
def needF (ws : List (List Nat)) : Nat → List Bool → List Bool
  | 0, o => o
  | id + 1, o => needF ws id (if o.getD id false = true then markL o (ws.getD id []) else o)
theorem needF_len (ws : List (List Nat)) : ∀ (m : Nat) (o : List Bool), (needF ws m o).length = o.length
  | 0, o => rfl
  | m + 1, o => by
    rw [needF, needF_len ws m]
    split
    · exact markL_len _ _
    · rfl
theorem needF_keep (ws : List (List Nat)) : ∀ (m : Nat) (o : List Bool) (i : Nat), o.getD i false = true → (needF ws m o).getD i false = true
  | 0, o, i, h => h
  | m + 1, o, i, h => by
    rw [needF]
    refine needF_keep ws m _ i ?_
    split
    · exact (markL_get _ _ _).2 (.inl h)
    · exact h
theorem needF_same {ws : List (List Nat)} (hw : ∀ j, ∀ i ∈ ws.getD j [], i < j) : ∀ (m : Nat) (o : List Bool) (i : Nat), m ≤ i → ((needF ws m o).getD i false = true ↔ o.getD i false = true)
  | 0, o, i, h => Iff.rfl
  | m + 1, o, i, h => by
    rw [needF, needF_same hw m _ i (by omega)]
    split
    · rw [markL_get]
      exact ⟨fun h' => h'.elim id fun ⟨h1, _⟩ => by have := hw m i h1; omega, .inl⟩
    · exact Iff.rfl
theorem needF_closed {ws : List (List Nat)} (hw : ∀ j, ∀ i ∈ ws.getD j [], i < j) : ∀ (m : Nat) (o : List Bool), m ≤ o.length → ∀ j, j < m → (needF ws m o).getD j false = true → ∀ i ∈ ws.getD j [], (needF ws m o).getD i false = true
  | 0, o, hm, j, hj, _, _, _ => by omega
  | m + 1, o, hm, j, hj, hb, i, hi => by
    by_cases hjm : j = m
    · subst hjm
      have h1 := (needF_same hw (j + 1) o j)
      rw [needF] at hb ⊢
      have h2 := (needF_same hw j _ j (Nat.le_refl _)).1 hb
      by_cases ho : o.getD j false = true
      · rw [if_pos ho] at hb ⊢
        refine needF_keep ws j _ i ((markL_get _ _ _).2 (.inr ⟨hi, ?_⟩))
        have := hw j i hi; omega
      · rw [if_neg ho] at h2; exact absurd h2 ho
    · rw [needF] at hb ⊢
      exact needF_closed hw m _ (by split <;> (try rw [markL_len]) <;> omega) j (by omega) hb i hi
def need (ws : List (List Nat)) (R : List Nat) : List Bool := needF ws ws.length (markL (List.replicate ws.length false) R)
theorem need_len (ws : List (List Nat)) (R : List Nat) : (need ws R).length = ws.length := by
  unfold need; rw [needF_len, markL_len, List.length_replicate]
theorem need_goal {ws : List (List Nat)} {R : List Nat} {i : Nat} (hi : i ∈ R) (hl : i < ws.length) : (need ws R).getD i false = true :=
  needF_keep _ _ _ _ ((markL_get _ _ _).2 (.inr ⟨hi, by rw [List.length_replicate]; exact hl⟩))
theorem need_closed {ws : List (List Nat)} (hw : ∀ j, j < ws.length → ∀ i ∈ ws.getD j [], i < j) {R : List Nat} {j : Nat} (hj : j < ws.length) (hb : (need ws R).getD j false = true) : ∀ i ∈ ws.getD j [], (need ws R).getD i false = true :=
  needF_closed (fun j i hi => by
    by_cases hjl : j < ws.length
    · exact hw j hjl i hi
    · rw [List.getD_eq_getElem?_getD, List.getElem?_eq_none (by omega)] at hi
      simp at hi) _ _ (by rw [markL_len, List.length_replicate]; exact Nat.le_refl _) j hj hb
/-! ### what is kept -/
def usedU (n : Nat) (M : List Bool) (k : Nat) : List Nat := (List.range k).filter fun i => decide (i < n) && M.getD i false
def keptU (n : Nat) (M : List Bool) (k : Nat) : List Nat := (List.range k).filter fun i => decide (n ≤ i) && M.getD i false
theorem range_up : ∀ k, (List.range k).Pairwise (· < ·)
  | 0 => by simp
  | k + 1 => by
    rw [List.range_succ, List.pairwise_append]
    exact ⟨range_up k, by simp, fun a ha b hb => by rw [List.mem_singleton.1 hb]; exact List.mem_range.1 ha⟩
theorem usedU_up (n : Nat) (M : List Bool) (k : Nat) : (usedU n M k).Pairwise (· < ·) := (range_up k).filter _
theorem keptU_up (n : Nat) (M : List Bool) (k : Nat) : (keptU n M k).Pairwise (· < ·) := (range_up k).filter _
theorem mem_usedU {n : Nat} {M : List Bool} {k i : Nat} : i ∈ usedU n M k ↔ i < k ∧ i < n ∧ M.getD i false = true := by
  unfold usedU; rw [List.mem_filter, List.mem_range]; simp
theorem mem_keptU {n : Nat} {M : List Bool} {k i : Nat} : i ∈ keptU n M k ↔ i < k ∧ n ≤ i ∧ M.getD i false = true := by
  unfold keptU; rw [List.mem_filter, List.mem_range]; simp
theorem usedU_succ (n : Nat) (M : List Bool) (k : Nat) : usedU n M (k + 1) = usedU n M k ++ (if k < n ∧ M.getD k false = true then [k] else []) := by
  unfold usedU
  rw [List.range_succ, List.filter_append, List.filter_cons]
  by_cases h : k < n ∧ M.getD k false = true
  · rw [if_pos h, if_pos (by rw [Bool.and_eq_true, decide_eq_true_eq]; exact h)]; rfl
  · rw [if_neg h, if_neg (by rw [Bool.and_eq_true, decide_eq_true_eq]; exact h)]; rfl
theorem keptU_succ (n : Nat) (M : List Bool) (k : Nat) : keptU n M (k + 1) = keptU n M k ++ (if n ≤ k ∧ M.getD k false = true then [k] else []) := by
  unfold keptU
  rw [List.range_succ, List.filter_append, List.filter_cons]
  by_cases h : n ≤ k ∧ M.getD k false = true
  · rw [if_pos h, if_pos (by rw [Bool.and_eq_true, decide_eq_true_eq]; exact h)]; rfl
  · rw [if_neg h, if_neg (by rw [Bool.and_eq_true, decide_eq_true_eq]; exact h)]; rfl
/-- The steps that are kept, of a list of places. -/
def stepsOf (L : List (List Int)) (ks : List Nat) : List Stp := ks.map fun i => (false, L.getD i [])
theorem kept_chk {og : List (List Int)} {xs : List Stp} {k : Nat} {s : TrS} {L : List (List Int)} {G : List Bool} (h : TrI og xs k s L G) {goal : List Int} {R : List Nat} (hy : WhyR s.S goal true R) {base : List (List Int)} (hb : ∀ i ∈ usedU og.length (need s.ws R) L.length, og.getD i [] ∈ base) :
    ∀ n id i, id + n = L.length → chkF (base ++ (keptU og.length (need s.ws R) id).map fun i => L.getD i []) goal (stepsOf L ((List.range' id n).filter fun i => decide (og.length ≤ i) && (need s.ws R).getD i false)) i = -1 := by
  have hon : ∀ j ∈ R, j < L.length := fun j hj => by rw [← h.mir.size]; exact (hy.on j hj).1
  have hin : ∀ id j, j < id → id ≤ L.length → (need s.ws R).getD j false = true → L.getD j [] ∈ base ++ (keptU og.length (need s.ws R) id).map fun i => L.getD i [] := fun id j h1 h2 h3 => by
    by_cases hjo : j < og.length
    · refine List.mem_append.2 (.inl ?_)
      have := hb j (mem_usedU.2 ⟨by omega, hjo, h3⟩)
      rw [h.le, getD_append_l hjo]; exact this
    · exact List.mem_append.2 (.inr (List.mem_map.2 ⟨j, mem_keptU.2 ⟨h1, by omega, h3⟩, rfl⟩))
  intro n
  induction n with
  | zero =>
    intro id i he
    refine chkF_end (openN_more (fun d hd => ?_) (pick_core h.mir hy)) i
    obtain ⟨j, hj, rfl⟩ := List.mem_map.1 hd
    exact hin id j (by have := hon j hj; omega) (by omega) (need_goal hj (by rw [h.wl]; exact hon j hj))
  | succ n ihn =>
    intro id i he
    have ih := ihn (id + 1) (i + 1) (by omega)
    rw [List.range'_succ, List.filter_cons]
    rw [keptU_succ] at ih
    by_cases hk : og.length ≤ id ∧ (need s.ws R).getD id false = true
    · rw [if_pos (by rw [Bool.and_eq_true, decide_eq_true_eq]; exact hk)]
      rw [if_pos hk, List.map_append, ← List.append_assoc] at ih
      show chkF _ goal ((false, L.getD id []) :: stepsOf L _) i = -1
      rw [chkF_yes]
      · exact ih
      · refine openN_more (fun d hd => ?_) (h.core id hk.1 (by omega))
        obtain ⟨j, hj, rfl⟩ := List.mem_map.1 hd
        exact hin id j (h.wlt id (by rw [h.wl]; omega) j hj) (by omega) (need_closed h.wlt (by rw [h.wl]; omega) hk.2 j hj)
    · rw [if_neg (by rw [Bool.and_eq_true, decide_eq_true_eq]; exact hk)]
      rw [if_neg hk, List.append_nil] at ih
      have := ihn (id + 1) i (by omega)
      rw [keptU_succ, if_neg hk, List.append_nil] at this
      exact this
theorem trim_chk {og : List (List Int)} {xs : List Stp} {k : Nat} {s : TrS} {L : List (List Int)} {G : List Bool} (h : TrI og xs k s L G) {goal : List Int} {R : List Nat} (hy : WhyR s.S goal true R) {base : List (List Int)} (hb : ∀ i ∈ usedU og.length (need s.ws R) L.length, og.getD i [] ∈ base) :
    chkD base (stepsOf L (keptU og.length (need s.ws R) L.length)) goal = -1 := by
  have := kept_chk h hy hb L.length 0 0 (by omega)
  rw [← List.range_eq_range'] at this
  rw [chkF_zero]
  simpa [keptU] using this
end Go.Proofs.Ytknpfopepedmmaa
