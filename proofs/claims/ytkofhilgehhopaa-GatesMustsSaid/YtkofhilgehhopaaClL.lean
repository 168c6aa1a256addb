/-
  PLAIN: clauses: the order of literals by variables, those above 0 first; clauses in order, each literal once.
-/
import Derived.Lib.SlicesCompact
namespace Go.Proofs.Ytkofhilgehhopaa
open Go
set_option linter.unusedVariables false
def absI (x : Int) : Int := if x < 0 then -x else x
def key (x : Int) : Int := 2 * absI x + (if x < 0 then 1 else 0)
theorem key_inj {x y : Int} (h : key x = key y) : x = y := by unfold key absI at h; omega
theorem key_lt (x y : Int) : key x < key y ↔ (absI x < absI y ∨ absI x = absI y ∧ y < x) := by unfold key absI; omega
def strictK (l : List Int) : Prop := l.Pairwise fun a b => key a < key b
theorem strictK_ext {xs ys : List Int} (hx : strictK xs) (hy : strictK ys) (h : ∀ a, a ∈ xs ↔ a ∈ ys) : xs = ys := by
  have nx : xs.Nodup := hx.imp fun {a b} h e => by rw [e] at h; omega
  have ny : ys.Nodup := hy.imp fun {a b} h e => by rw [e] at h; omega
  have hp : xs.Perm ys := (List.perm_ext_iff_of_nodup nx ny).2 h
  exact hp.eq_of_pairwise (le := fun a b => key a ≤ key b) (fun a b _ _ h1 h2 => key_inj (by omega)) (hx.imp fun {a b} h => by omega) (hy.imp fun {a b} h => by omega)
/-- How many literals at the head stand ahead of x. -/
def kOfK : List Int → Int → Nat
  | [], _ => 0
  | y :: r, x => if key y < key x then kOfK r x + 1 else 0
def insK : List Int → Int → List Int
  | [], x => [x]
  | y :: r, x => if key y < key x then y :: insK r x else if y = x then y :: r else x :: y :: r
theorem kOfK_le (x : Int) : ∀ xs : List Int, kOfK xs x ≤ xs.length
  | [] => Nat.le_refl _
  | y :: r => by
    unfold kOfK
    have := kOfK_le x r
    split <;> simp <;> omega
theorem kOfK_lt (x : Int) : ∀ (xs : List Int) (j : Nat), j < kOfK xs x → key (xs.getD j 0) < key x
  | [], j, h => by simp [kOfK] at h
  | y :: r, j, h => by
    unfold kOfK at h
    split at h
    · cases j with
      | zero => simpa
      | succ j => have := kOfK_lt x r j (by omega); simpa using this
    · omega
theorem kOfK_at (x : Int) : ∀ (xs : List Int), kOfK xs x < xs.length → ¬ key (xs.getD (kOfK xs x) 0) < key x
  | [], h => by simp at h
  | y :: r, h => by
    unfold kOfK at h ⊢
    split
    · rename_i hy
      rw [if_pos hy] at h
      have := kOfK_at x r (by simpa using h)
      simpa using this
    · rename_i hy
      simpa using hy
theorem insK_new (x : Int) : ∀ (xs : List Int), x ∉ xs → insK xs x = xs.take (kOfK xs x) ++ [x] ++ xs.drop (kOfK xs x)
  | [], _ => by simp [insK, kOfK]
  | y :: r, h => by
    unfold kOfK insK
    have hy' : ¬ y = x := fun e => h (by rw [e]; simp)
    by_cases hy : key y < key x
    · rw [if_pos hy, if_pos hy, insK_new x r (fun hr => h (by simp [hr]))]
      simp
    · rw [if_neg hy, if_neg hy, if_neg hy']
      simp
theorem mem_insK (x a : Int) : ∀ xs : List Int, a ∈ insK xs x ↔ a = x ∨ a ∈ xs
  | [] => by simp [insK]
  | y :: r => by
    unfold insK
    split
    · rw [List.mem_cons, mem_insK x a r, List.mem_cons]
      constructor
      · rintro (h | h | h)
        · exact .inr (.inl h)
        · exact .inl h
        · exact .inr (.inr h)
      · rintro (h | h | h)
        · exact .inr (.inl h)
        · exact .inl h
        · exact .inr (.inr h)
    · split
      · rename_i e
        constructor
        · exact .inr
        · rintro (h | h)
          · rw [h, e]; simp
          · exact h
      · simp
theorem strict_insK (x : Int) : ∀ xs : List Int, strictK xs → strictK (insK xs x)
  | [], _ => by simp [insK, strictK]
  | y :: r, h => by
    obtain ⟨h1, h2⟩ := List.pairwise_cons.1 h
    unfold insK
    split
    · rename_i hy
      refine List.pairwise_cons.2 ⟨fun a ha => ?_, strict_insK x r h2⟩
      rcases (mem_insK x a r).1 ha with e | ha
      · rw [e]; exact hy
      · exact h1 a ha
    · split
      · exact h
      · rename_i h3 h4
        have hk : key y ≠ key x := fun e => h4 (key_inj e)
        refine List.pairwise_cons.2 ⟨fun a ha => ?_, h⟩
        rcases List.mem_cons.1 ha with e | ha
        · rw [e]; omega
        · have := h1 a ha; omega
theorem insK_old (x : Int) : ∀ xs : List Int, strictK xs → x ∈ xs → insK xs x = xs := fun xs h hx => strictK_ext (strict_insK x xs h) h fun a => by
  rw [mem_insK]
  exact ⟨fun h => h.elim (fun e => by rw [e]; exact hx) id, .inr⟩
/-- A clause in order. -/
def normC (l : List Int) : List Int := l.foldl insK []
theorem normC_snoc (l : List Int) (x : Int) : normC (l ++ [x]) = insK (normC l) x := by simp [normC]
theorem foldl_insK (l : List Int) : ∀ acc : List Int, strictK acc → strictK (l.foldl insK acc) ∧ ∀ a, a ∈ l.foldl insK acc ↔ a ∈ acc ∨ a ∈ l := by
  induction l with
  | nil => intro acc h; exact ⟨h, by simp⟩
  | cons y r ih =>
    intro acc h
    obtain ⟨h1, h2⟩ := ih (insK acc y) (strict_insK y acc h)
    refine ⟨h1, fun a => ?_⟩
    rw [List.foldl_cons, h2, mem_insK, List.mem_cons]
    constructor
    · rintro ((h | h) | h)
      · exact .inr (.inl h)
      · exact .inl h
      · exact .inr (.inr h)
    · rintro (h | h | h)
      · exact .inl (.inr h)
      · exact .inl (.inl h)
      · exact .inr h
theorem strict_normC (l : List Int) : strictK (normC l) := (foldl_insK l [] List.Pairwise.nil).1
theorem mem_normC (l : List Int) (a : Int) : a ∈ normC l ↔ a ∈ l := by
  have := (foldl_insK l [] List.Pairwise.nil).2 a
  unfold normC
  rw [this]
  simp
theorem length_insK (x : Int) : ∀ xs : List Int, (insK xs x).length ≤ xs.length + 1
  | [] => by simp [insK]
  | y :: r => by
    unfold insK
    have := length_insK x r
    split
    · simp; omega
    · split <;> simp
theorem length_foldlK (l : List Int) : ∀ acc : List Int, (l.foldl insK acc).length ≤ acc.length + l.length := by
  induction l with
  | nil => intro acc; simp
  | cons y r ih =>
    intro acc
    have h1 := ih (insK acc y)
    have h2 := length_insK y acc
    rw [List.foldl_cons, List.length_cons]
    omega
theorem length_normC (l : List Int) : (normC l).length ≤ l.length := by have := length_foldlK l []; simpa [normC] using this
/-- Is no literal there with its negation? -/
def fineC (l : List Int) : Bool := l.all fun a => !l.contains (-a)
theorem fineC_mem {l m : List Int} (h : ∀ a, a ∈ l ↔ a ∈ m) : fineC l = fineC m := by
  rw [Bool.eq_iff_iff]
  unfold fineC
  simp only [List.all_eq_true, Bool.not_eq_true', List.contains_eq_mem, decide_eq_false_iff_not]
  exact ⟨fun g a ha hb => g a ((h a).2 ha) ((h _).2 hb), fun g a ha hb => g a ((h a).1 ha) ((h _).1 hb)⟩
/-- Clauses: no 0, and not too great. -/
def ClauseL (l : List Int) : Prop := ∀ x ∈ l, x ≠ 0 ∧ -1152921504606846976 ≤ x ∧ x ≤ 1152921504606846976
theorem fineC_snoc {l : List Int} {x : Int} (h : ClauseL (l ++ [x])) : fineC (l ++ [x]) = (fineC l && !l.contains (-x)) := by
  have hx := h x (by simp)
  rw [Bool.eq_iff_iff]
  unfold fineC
  simp only [List.all_eq_true, Bool.not_eq_true', List.contains_eq_mem, decide_eq_false_iff_not, Bool.and_eq_true, List.mem_append, List.mem_singleton]
  constructor
  · intro g
    exact ⟨fun a ha hb => g a (.inl ha) (.inl hb), fun hb => g x (.inr rfl) (.inl hb)⟩
  · rintro ⟨g1, g2⟩ a (ha | ha) (hb | hb)
    · exact g1 a ha hb
    · exact g2 (by rw [← hb, Int.neg_neg]; exact ha)
    · rw [ha] at hb; exact g2 hb
    · rw [ha] at hb; omega

/-! ### runs made one -/
theorem compactK {zs : List Int} (h : zs.Pairwise fun a b => key a ≤ key b) : strictK (Lib.compact zs) ∧ ∀ a, a ∈ Lib.compact zs ↔ a ∈ zs := by
  have hd : ∀ j, j < zs.length → zs.toArray[j]! = zs.getD j 0 := fun j hj => by rw [getElem!_pos zs.toArray j (by simpa using hj)]; simp [List.getD, hj]
  have hle : ∀ i j, i ≤ j → j < zs.length → key (zs.getD i 0) ≤ key (zs.getD j 0) := by
    intro i j hij hj
    rcases Nat.lt_or_ge i j with h1 | h1
    · have := List.pairwise_iff_getElem.1 h i j (by omega) hj h1
      simpa [List.getD, hj, show i < zs.length by omega] using this
    · rw [show i = j by omega]; exact Int.le_refl _
  have main : ∀ m, m ≤ zs.length → strictK (Lib.compactUpTo zs.toArray m) ∧ ∀ a, a ∈ Lib.compactUpTo zs.toArray m ↔ ∃ j, j < m ∧ zs.getD j 0 = a := by
    intro m
    induction m with
    | zero => intro _; exact ⟨by simp [Lib.compactUpTo, strictK], fun a => by simp [Lib.compactUpTo]⟩
    | succ m ih =>
      intro hm
      obtain ⟨h1, h2⟩ := ih (by omega)
      rw [Lib.compactUpTo_succ, hd m (by omega)]
      by_cases hk : Lib.keeps zs.toArray m = true
      · rw [if_pos hk]
        refine ⟨?_, fun a => ?_⟩
        · refine List.pairwise_append.2 ⟨h1, by simp, fun a ha b hb => ?_⟩
          obtain ⟨j, hj, rfl⟩ := (h2 a).1 ha
          have hb' : b = zs.getD m 0 := by simpa using hb
          subst hb'
          have hlt : zs.getD (m - 1) 0 ≠ zs.getD m 0 := by
            unfold Lib.keeps at hk
            rw [hd m (by omega), hd (m - 1) (by omega)] at hk
            have hm0 : m ≠ 0 := by omega
            simp [hm0] at hk
            intro e
            exact hk (by simpa using e.symm)
          have hlt' : key (zs.getD (m - 1) 0) ≠ key (zs.getD m 0) := fun e => hlt (key_inj e)
          have a1 := hle j (m - 1) (by omega) (by omega)
          have a2 := hle (m - 1) m (by omega) (by omega)
          omega
        · rw [List.mem_append, h2, List.mem_singleton]
          constructor
          · rintro (⟨j, hj, e⟩ | e)
            · exact ⟨j, by omega, e⟩
            · exact ⟨m, by omega, e.symm⟩
          · rintro ⟨j, hj, e⟩
            rcases Nat.lt_or_ge j m with h | h
            · exact .inl ⟨j, h, e⟩
            · right; rw [← e, show j = m by omega]
      · rw [if_neg hk, List.append_nil]
        refine ⟨h1, fun a => ?_⟩
        rw [h2]
        have hm0 : m ≠ 0 := by
          rintro rfl
          simp [Lib.keeps] at hk
        have he : zs.getD (m - 1) 0 = zs.getD m 0 := by
          unfold Lib.keeps at hk
          rw [hd m (by omega), hd (m - 1) (by omega)] at hk
          simp [hm0] at hk
          simpa using hk.symm
        constructor
        · rintro ⟨j, hj, e⟩; exact ⟨j, by omega, e⟩
        · rintro ⟨j, hj, e⟩
          rcases Nat.lt_or_ge j m with h | h
          · exact ⟨j, h, e⟩
          · exact ⟨m - 1, by omega, by rw [he, ← e, show j = m by omega]⟩
  obtain ⟨h1, h2⟩ := main zs.length (Nat.le_refl _)
  refine ⟨h1, fun a => ?_⟩
  show a ∈ Lib.compactUpTo zs.toArray zs.length ↔ _
  rw [h2]
  constructor
  · rintro ⟨j, hj, rfl⟩
    simp [List.getD, hj]
  · intro ha
    obtain ⟨j, hj, rfl⟩ := List.getElem_of_mem ha
    exact ⟨j, hj, by simp [List.getD, hj]⟩
theorem compactK_norm {l zs : List Int} (hp : ∀ a, a ∈ zs ↔ a ∈ l) (h : zs.Pairwise fun a b => key a ≤ key b) : Lib.compact zs = normC l := by
  obtain ⟨h1, h2⟩ := compactK h
  exact strictK_ext h1 (strict_normC l) fun a => by rw [h2, hp, mem_normC]
/-- In a clause in order a literal and its negation stand side by side. -/
theorem fineC_adj {l : List Int} (hs : strictK l) (hc : ClauseL l) : fineC l = true ↔ ∀ i, 0 < i → i < l.length → l.getD i 0 ≠ -(l.getD (i - 1) 0) := by
  unfold fineC
  simp only [List.all_eq_true, Bool.not_eq_true', List.contains_eq_mem, decide_eq_false_iff_not]
  constructor
  · intro h i h0 hi e
    have h1 : l.getD (i - 1) 0 ∈ l := by simp [List.getD, show i - 1 < l.length by omega]
    have h2 : l.getD i 0 ∈ l := by simp [List.getD, hi]
    exact h _ h1 (by rw [← e]; exact h2)
  · intro h a ha hb
    have main : ∀ a, 0 < a → a ∈ l → -a ∈ l → False := by
      intro a h0 ha hb
      obtain ⟨i, hi, rfl⟩ := List.getElem_of_mem ha
      obtain ⟨j, hj, e⟩ := List.getElem_of_mem hb
      have hk : key l[j] = key l[i] + 1 := by rw [e]; unfold key absI; omega
      have hij : i < j := by
        rcases Nat.lt_trichotomy i j with h | h | h
        · exact h
        · subst h; omega
        · have := List.pairwise_iff_getElem.1 hs j i hj hi h; omega
      have hj1 : j = i + 1 := by
        rcases Nat.lt_or_ge (i + 1) j with h | h
        · have h1 := List.pairwise_iff_getElem.1 hs i (i + 1) hi (by omega) (by omega)
          have h2 := List.pairwise_iff_getElem.1 hs (i + 1) j (by omega) hj h
          omega
        · omega
      subst hj1
      refine h (i + 1) (by omega) hj ?_
      simp [List.getD, hi, hj, e]
    have hne := (hc a ha).1
    rcases Int.lt_or_gt_of_ne hne with h | h
    · exact main (-a) (by omega) hb (by rw [Int.neg_neg]; exact ha)
    · exact main a h ha hb
theorem clause_normC {l : List Int} (h : ClauseL l) : ClauseL (normC l) := fun x hx => h x ((mem_normC l x).1 hx)
end Go.Proofs.Ytkofhilgehhopaa
