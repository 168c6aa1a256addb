/-
  PLAIN: numbers in order, each once: by insertion, and by a sort whose runs are made one.
-/
import Derived.Lib.SlicesCompact
namespace Go.Proofs.Ytkofhilgehhopaa
open Go
set_option linter.unusedVariables false
def strict (l : List Int) : Prop := l.Pairwise (· < ·)
theorem strict_ext {xs ys : List Int} (hx : strict xs) (hy : strict ys) (h : ∀ a, a ∈ xs ↔ a ∈ ys) : xs = ys := by
  have nx : xs.Nodup := hx.imp fun {a b} h e => by omega
  have ny : ys.Nodup := hy.imp fun {a b} h e => by omega
  have hp : xs.Perm ys := (List.perm_ext_iff_of_nodup nx ny).2 h
  exact hp.eq_of_pairwise (le := fun a b => a ≤ b) (fun a b _ _ h1 h2 => by omega) (hx.imp fun {a b} h => by omega) (hy.imp fun {a b} h => by omega)
def kOf : List Int → Int → Nat
  | [], _ => 0
  | y :: r, x => if y < x then kOf r x + 1 else 0
def insR : List Int → Int → List Int
  | [], x => [x]
  | y :: r, x => if y < x then y :: insR r x else if y = x then y :: r else x :: y :: r
theorem kOf_le (x : Int) : ∀ xs : List Int, kOf xs x ≤ xs.length
  | [] => Nat.le_refl _
  | y :: r => by
    unfold kOf
    have := kOf_le x r
    split <;> simp <;> omega
theorem kOf_lt (x : Int) : ∀ (xs : List Int) (j : Nat), j < kOf xs x → xs.getD j 0 < x
  | [], j, h => by simp [kOf] at h
  | y :: r, j, h => by
    unfold kOf at h
    split at h
    · cases j with
      | zero => simpa
      | succ j => have := kOf_lt x r j (by omega); simpa using this
    · omega
theorem kOf_at (x : Int) : ∀ (xs : List Int), kOf xs x < xs.length → x ≤ xs.getD (kOf xs x) 0
  | [], h => by simp at h
  | y :: r, h => by
    unfold kOf at h ⊢
    split
    · rename_i hy
      rw [if_pos hy] at h
      have := kOf_at x r (by simpa using h)
      simpa using this
    · rename_i hy
      simp; omega
theorem insR_has (x : Int) : ∀ (xs : List Int), kOf xs x < xs.length → xs.getD (kOf xs x) 0 = x → insR xs x = xs
  | [], h, _ => by simp at h
  | y :: r, h, e => by
    unfold kOf at h e
    unfold insR
    split at h
    · rename_i hy
      rw [if_pos hy] at e
      rw [if_pos hy, insR_has x r (by simpa using h) (by simpa using e)]
    · rename_i hy
      rw [if_neg hy] at e
      have e' : y = x := by simpa using e
      rw [if_neg hy, if_pos e']
theorem insR_new (x : Int) : ∀ (xs : List Int), (kOf xs x = xs.length ∨ xs.getD (kOf xs x) 0 ≠ x) → insR xs x = xs.take (kOf xs x) ++ [x] ++ xs.drop (kOf xs x)
  | [], _ => by simp [insR, kOf]
  | y :: r, h => by
    unfold kOf at h ⊢
    unfold insR
    by_cases hy : y < x
    · rw [if_pos hy] at h
      rw [if_pos hy, if_pos hy]
      have := insR_new x r (by
        rcases h with h | h
        · left; simpa using h
        · right; simpa using h)
      rw [this]
      simp
    · rw [if_neg hy] at h
      rw [if_neg hy, if_neg hy]
      have : ¬ y = x := by
        rcases h with h | h
        · simp at h
        · simpa using h
      rw [if_neg this]
      simp
theorem mem_insR (x a : Int) : ∀ xs : List Int, a ∈ insR xs x ↔ a = x ∨ a ∈ xs
  | [] => by simp [insR]
  | y :: r => by
    unfold insR
    split
    · rw [List.mem_cons, mem_insR x a r, List.mem_cons]
      constructor
      · rintro (h | h | h)
        · exact .inr (.inl h)
        · exact .inl h
        · exact .inr (.inr h)
      · rintro (h | h | h)
        · exact .inr (.inl h)
        · exact .inl h
        · exact .inr (.inr h)
    · split
      · rename_i e
        constructor
        · exact .inr
        · rintro (h | h)
          · rw [h, e]; simp
          · exact h
      · simp
theorem strict_insR (x : Int) : ∀ xs : List Int, strict xs → strict (insR xs x)
  | [], _ => by simp [insR, strict]
  | y :: r, h => by
    obtain ⟨h1, h2⟩ := List.pairwise_cons.1 h
    unfold insR
    split
    · rename_i hy
      refine List.pairwise_cons.2 ⟨fun a ha => ?_, strict_insR x r h2⟩
      rcases (mem_insR x a r).1 ha with e | ha
      · rw [e]; exact hy
      · exact h1 a ha
    · split
      · exact h
      · refine List.pairwise_cons.2 ⟨fun a ha => ?_, h⟩
        rcases List.mem_cons.1 ha with e | ha
        · rw [e]; omega
        · have := h1 a ha; omega
def sortR (l : List Int) : List Int := l.foldl insR []
theorem sortR_snoc (l : List Int) (x : Int) : sortR (l ++ [x]) = insR (sortR l) x := by simp [sortR]
theorem foldl_insR (l : List Int) : ∀ acc : List Int, strict acc → strict (l.foldl insR acc) ∧ ∀ a, a ∈ l.foldl insR acc ↔ a ∈ acc ∨ a ∈ l := by
  induction l with
  | nil => intro acc h; exact ⟨h, by simp⟩
  | cons y r ih =>
    intro acc h
    obtain ⟨h1, h2⟩ := ih (insR acc y) (strict_insR y acc h)
    refine ⟨h1, fun a => ?_⟩
    rw [List.foldl_cons, h2, mem_insR, List.mem_cons]
    constructor
    · rintro ((h | h) | h)
      · exact .inr (.inl h)
      · exact .inl h
      · exact .inr (.inr h)
    · rintro (h | h | h)
      · exact .inl (.inr h)
      · exact .inl (.inl h)
      · exact .inr h
theorem strict_sortR (l : List Int) : strict (sortR l) := (foldl_insR l [] List.Pairwise.nil).1
theorem mem_sortR (l : List Int) (a : Int) : a ∈ sortR l ↔ a ∈ l := by
  have := (foldl_insR l [] List.Pairwise.nil).2 a
  unfold sortR
  rw [this]
  simp
theorem length_insR (x : Int) : ∀ xs : List Int, (insR xs x).length ≤ xs.length + 1
  | [] => by simp [insR]
  | y :: r => by
    unfold insR
    have := length_insR x r
    split
    · simp; omega
    · split <;> simp
theorem length_foldl (l : List Int) : ∀ acc : List Int, (l.foldl insR acc).length ≤ acc.length + l.length := by
  induction l with
  | nil => intro acc; simp
  | cons y r ih =>
    intro acc
    have h1 := ih (insR acc y)
    have h2 := length_insR y acc
    rw [List.foldl_cons, List.length_cons]
    omega
theorem length_sortR (l : List Int) : (sortR l).length ≤ l.length := by have := length_foldl l []; simpa [sortR] using this

/-! ### runs made one -/
theorem compact_strict {zs : List Int} (h : zs.Pairwise (· ≤ ·)) : strict (Lib.compact zs) ∧ ∀ a, a ∈ Lib.compact zs ↔ a ∈ zs := by
  have hd : ∀ j, j < zs.length → zs.toArray[j]! = zs.getD j 0 := fun j hj => by rw [getElem!_pos zs.toArray j (by simpa using hj)]; simp [List.getD, hj]
  have hle : ∀ i j, i ≤ j → j < zs.length → zs.getD i 0 ≤ zs.getD j 0 := by
    intro i j hij hj
    rcases Nat.lt_or_ge i j with h1 | h1
    · have := List.pairwise_iff_getElem.1 h i j (by omega) hj h1
      simpa [List.getD, hj, show i < zs.length by omega] using this
    · rw [show i = j by omega]; exact Int.le_refl _
  have main : ∀ m, m ≤ zs.length → strict (Lib.compactUpTo zs.toArray m) ∧ ∀ a, a ∈ Lib.compactUpTo zs.toArray m ↔ ∃ j, j < m ∧ zs.getD j 0 = a := by
    intro m
    induction m with
    | zero => intro _; exact ⟨by simp [Lib.compactUpTo, strict], fun a => by simp [Lib.compactUpTo]⟩
    | succ m ih =>
      intro hm
      obtain ⟨h1, h2⟩ := ih (by omega)
      rw [Lib.compactUpTo_succ, hd m (by omega)]
      by_cases hk : Lib.keeps zs.toArray m = true
      · rw [if_pos hk]
        refine ⟨?_, fun a => ?_⟩
        · refine List.pairwise_append.2 ⟨h1, by simp, fun a ha b hb => ?_⟩
          obtain ⟨j, hj, rfl⟩ := (h2 a).1 ha
          have hb' : b = zs.getD m 0 := by simpa using hb
          subst hb'
          have hlt : zs.getD (m - 1) 0 ≠ zs.getD m 0 := by
            unfold Lib.keeps at hk
            rw [hd m (by omega), hd (m - 1) (by omega)] at hk
            have hm0 : m ≠ 0 := by omega
            simp [hm0] at hk
            intro e
            exact hk (by simpa using e.symm)
          have a1 := hle j (m - 1) (by omega) (by omega)
          have a2 := hle (m - 1) m (by omega) (by omega)
          omega
        · rw [List.mem_append, h2, List.mem_singleton]
          constructor
          · rintro (⟨j, hj, e⟩ | e)
            · exact ⟨j, by omega, e⟩
            · exact ⟨m, by omega, e.symm⟩
          · rintro ⟨j, hj, e⟩
            rcases Nat.lt_or_ge j m with h | h
            · exact .inl ⟨j, h, e⟩
            · right; rw [← e, show j = m by omega]
      · rw [if_neg hk, List.append_nil]
        refine ⟨h1, fun a => ?_⟩
        rw [h2]
        have hm0 : m ≠ 0 := by
          rintro rfl
          simp [Lib.keeps] at hk
        have he : zs.getD (m - 1) 0 = zs.getD m 0 := by
          unfold Lib.keeps at hk
          rw [hd m (by omega), hd (m - 1) (by omega)] at hk
          simp [hm0] at hk
          simpa using hk.symm
        constructor
        · rintro ⟨j, hj, e⟩; exact ⟨j, by omega, e⟩
        · rintro ⟨j, hj, e⟩
          rcases Nat.lt_or_ge j m with h | h
          · exact ⟨j, h, e⟩
          · exact ⟨m - 1, by omega, by rw [he, ← e, show j = m by omega]⟩
  obtain ⟨h1, h2⟩ := main zs.length (Nat.le_refl _)
  refine ⟨h1, fun a => ?_⟩
  show a ∈ Lib.compactUpTo zs.toArray zs.length ↔ _
  rw [h2]
  constructor
  · rintro ⟨j, hj, rfl⟩
    simp [List.getD, hj]
  · intro ha
    obtain ⟨j, hj, rfl⟩ := List.getElem_of_mem ha
    exact ⟨j, hj, by simp [List.getD, hj]⟩
theorem compact_sort (l : List Int) : Lib.compact (l.mergeSort fun x y => decide (x ≤ y)) = sortR l := by
  have hs : (l.mergeSort fun x y => decide (x ≤ y)).Pairwise (· ≤ ·) := by
    have := List.pairwise_mergeSort (le := fun x y : Int => decide (x ≤ y)) (fun a b c h1 h2 => by simp at *; omega) (fun a b => by simp; omega) l
    exact this.imp fun {a b} h => by simpa using h
  obtain ⟨h1, h2⟩ := compact_strict hs
  exact strict_ext h1 (strict_sortR l) fun a => by rw [h2, mem_sortR, List.mem_mergeSort]
end Go.Proofs.Ytkofhilgehhopaa
