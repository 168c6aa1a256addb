/-
  The document's lines of a text, against what is left of it.
-/
import Derived.Test.YtibinmabdidecaaGreatDoorTpV
namespace Go.Proofs.YtibinmabdidecaaGreatDoor
open Go.ChangeShapes Go.WideShapes Go.ChangeAt Go.RowKit
set_option linter.unusedVariables false
set_option linter.unusedSimpArgs false
/-- What is left behind i lines. -/
def RelL (s rest : List UInt8) (i : Nat) : Prop := linesF rest = ((linesF s).1.drop i, (linesF s).2) ∧ i ≤ (linesF s).1.length
theorem RelL.start (s : List UInt8) : RelL s s 0 := ⟨rfl, Nat.zero_le _⟩
theorem RelL.next {s rest a r : List UInt8} {i : Nat} (h : RelL s rest i) (hc : cutT rest = some (a, r)) : i < (linesF s).1.length ∧ (linesF s).1.getD i [] = a ∧ RelL s r (i + 1) := by
  have := cut_lines rest
  rw [hc] at this
  simp only at this
  rw [h.1] at this
  injection this with h1 h2
  have hi : i < (linesF s).1.length := by
    have := congrArg List.length h1
    simp at this
    omega
  rw [List.drop_eq_getElem_cons hi] at h1
  injection h1 with h3 h4
  exact ⟨hi, by rw [List.getD_eq_getElem?_getD, List.getElem?_eq_getElem hi]; exact h3, by rw [← Prod.eta (linesF r)]; rw [← h4, ← h2], by omega⟩
theorem RelL.stop_ {s rest : List UInt8} {i : Nat} (h : RelL s rest i) (hc : cutT rest = none) : i = (linesF s).1.length ∧ (linesF s).2 = rest := by
  have := cut_lines rest
  rw [hc] at this
  simp only at this
  rw [h.1] at this
  injection this with h1 h2
  have := congrArg List.length h1
  simp at this
  exact ⟨by have := h.2; omega, h2⟩
theorem RelL.at_ {s rest : List UInt8} {i : Nat} (h : RelL s rest i) : lineAt (linesT s).1 (linesT s).2 i = (cutT rest).map (·.1) := by
  unfold lineAt linesT
  cases hc : cutT rest with
  | none =>
    obtain ⟨h1, h2⟩ := h.stop_ hc
    by_cases ht : (linesF s).2 = []
    · rw [if_pos ht, if_pos (.inl (by simp only; omega))]
      rfl
    · rw [if_neg ht, if_pos (.inr ⟨rfl, by simp only [List.length_append, List.length_singleton]; omega⟩)]
      rfl
  | some q =>
    obtain ⟨a, r⟩ := q
    obtain ⟨h1, h2, -⟩ := h.next hc
    by_cases ht : (linesF s).2 = []
    · rw [if_pos ht, if_neg (by rintro (h | ⟨h, -⟩); simp only at h; omega; cases h)]
      simp only [h2, Option.map_some]
    · rw [if_neg ht, if_neg (by rintro (h | ⟨-, h⟩) <;> simp only [List.length_append, List.length_singleton] at h <;> omega)]
      simp only [Option.map_some, Option.some.injEq]
      rw [getD_snocG, if_pos h1, h2]
theorem RelL.end_ {s rest : List UInt8} {i : Nat} (h : RelL s rest i) : i < (linesT s).1.length ↔ rest ≠ [] := by
  unfold linesT
  cases hc : cutT rest with
  | none =>
    obtain ⟨h1, h2⟩ := h.stop_ hc
    by_cases ht : (linesF s).2 = []
    · rw [if_pos ht]
      simp only
      rw [← h2, ht, h1]
      simp
    · rw [if_neg ht, ← h2]
      simp only [List.length_append, List.length_singleton]
      exact ⟨fun _ => ht, fun _ => by omega⟩
  | some q =>
    obtain ⟨a, r⟩ := q
    obtain ⟨h1, h2, -⟩ := h.next hc
    have hne : rest ≠ [] := fun e => by rw [e] at hc; simp [cutT] at hc
    refine ⟨fun _ => hne, fun _ => ?_⟩
    split
    · exact h1
    · simp only [List.length_append]; omega
theorem RelL.le {s rest : List UInt8} {i : Nat} (h : RelL s rest i) : i ≤ s.length := Nat.le_trans h.2 (linesF_size s).1
theorem peek_map (rest : List UInt8) : ((cutT rest).map (·.1)).getD [] = peekT rest := by
  unfold peekT
  cases cutT rest with
  | none => rfl
  | some q => rfl
theorem linesT_len (s : List UInt8) : (linesT s).1.length ≤ s.length + 1 := by
  have := (linesF_size s).1
  unfold linesT
  split
  · simp only; omega
  · simp only [List.length_append, List.length_singleton]; omega
theorem lineR_ {w W : World} {u : Value} {s rest : List UInt8} {i : Nat} (h : OwnG KS w W u (linesT s).1) (hR : RelL s rest i) (hl : s.length ≤ 50000) :
    Calls Tryz.prog 17 #[u, .bool (linesT s).2, .int .i64 (i : Int)] W fun e w' => e = .returned (.tuple #[.string (bs (peekT rest)), .bool (cutT rest).isSome]) ∧ W = w' := by
  have := r15_line h (linesT s).2 i (by have := hR.le; omega) (by have := linesT_len s; omega)
  rw [hR.at_, peek_map, Option.isSome_map] at this
  exact this
/-- A line of numbers, there or not. -/
theorem numsR_cut {word : List UInt8} {most : List Nat} {rest a r : List UInt8} (h : cutT rest = some (a, r)) : numsR word most rest = match numsT word most a with | some l => some (l, r) | none => none := by
  rw [numsR_eq, h]
  rfl
theorem numsR_none {word : List UInt8} {most : List Nat} {rest : List UInt8} (h : cutT rest = none) : numsR word most rest = none := by rw [numsR_eq, h]
theorem boolsR_cut {word : List UInt8} {rest a r : List UInt8} (h : cutT rest = some (a, r)) : boolsR word rest = match boolsT word a with | some l => some (l, r) | none => none := by
  rw [boolsR_eq, h]
  rfl
theorem boolsR_none {word : List UInt8} {rest : List UInt8} (h : cutT rest = none) : boolsR word rest = none := by rw [boolsR_eq, h]
theorem peek_cut {rest a r : List UInt8} (h : cutT rest = some (a, r)) : peekT rest = a := by unfold peekT; rw [h]
theorem numsT_peek {word : List UInt8} {most : List Nat} {rest : List UInt8} (h : numsR word most rest = none) (hw : word ≠ []) : numsT word most (peekT rest) = none := by
  cases hc : cutT rest with
  | none =>
    unfold peekT numsT
    rw [hc]
    simp only [wordsT]
    rw [if_neg (fun h => hw h.1.symm)]
  | some q =>
    obtain ⟨a, r⟩ := q
    rw [numsR_cut hc] at h
    rw [show peekT rest = a by unfold peekT; rw [hc]]
    cases hn : numsT word most a with
    | none => rfl
    | some l => rw [hn] at h; simp at h
theorem numsR_parts {word : List UInt8} {most : List Nat} {rest r : List UInt8} {ns : List Nat} (h : numsR word most rest = some (ns, r)) : cutT rest = some (peekT rest, r) ∧ numsT word most (peekT rest) = some ns := by
  cases hc : cutT rest with
  | none => rw [numsR_eq, hc] at h; simp at h
  | some q =>
    obtain ⟨a, r'⟩ := q
    rw [numsR_cut hc] at h
    rw [show peekT rest = a by unfold peekT; rw [hc]]
    cases hn : numsT word most a with
    | none => rw [hn] at h; simp at h
    | some l =>
      rw [hn] at h
      simp only at h
      injection h with h
      injection h with h1 h2
      subst h1 h2
      exact ⟨rfl, rfl⟩
theorem peek_none {rest : List UInt8} (h : cutT rest = none) : peekT rest = [] := by unfold peekT; rw [h]
end Go.Proofs.YtibinmabdidecaaGreatDoor
