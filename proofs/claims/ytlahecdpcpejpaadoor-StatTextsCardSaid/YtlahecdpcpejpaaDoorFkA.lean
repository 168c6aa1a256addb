/-
  Chapter 40, plainly: how often each variable is used, how many variables each level has.
-/
import Derived.Test.YtlahecdpcpejpaaDoorTopL
namespace Go.Proofs.YtlahecdpcpejpaaDoor
set_option linter.unusedVariables false
set_option linter.unusedSimpArgs false
/-- How many of a list come to a number. -/
def cntF (f : Int → Int) (ls : List Int) (v : Int) : Nat := ls.countP fun l => decide (f l = v)
theorem cntF_snoc (f : Int → Int) (ls : List Int) (l v : Int) : cntF f (ls ++ [l]) v = if v = f l then cntF f ls v + 1 else cntF f ls v := by
  unfold cntF
  rw [List.countP_append]
  by_cases h : v = f l
  · rw [if_pos h]; simp [h]
  · have h2 : ¬ f l = v := fun e => h e.symm
    rw [if_neg h]; simp [h2]
theorem cntF_le (f : Int → Int) (ls : List Int) (v : Int) : cntF f ls v ≤ ls.length := by unfold cntF; exact List.countP_le_length
theorem cntF_nil (f : Int → Int) (v : Int) : cntF f [] v = 0 := rfl
/-- The greatest level of the first variables. -/
def mxL (lv : Int → Nat) : Nat → Nat
  | 0 => 0
  | k + 1 => max (mxL lv k) (lv (k : Int))
theorem mxL_le {lv : Int → Nat} : ∀ {k i : Nat}, i < k → lv (i : Int) ≤ mxL lv k
  | k + 1, i, h => by
    unfold mxL
    by_cases e : i = k
    · subst e; exact Nat.le_max_right _ _
    · exact Nat.le_trans (mxL_le (by omega)) (Nat.le_max_left _ _)
theorem mxL_hit {lv : Int → Nat} : ∀ {k : Nat}, 0 < k → ∃ i, i < k ∧ lv (i : Int) = mxL lv k
  | 1, _ => ⟨0, by omega, by simp [mxL]⟩
  | k + 2, _ => by
    obtain ⟨i, hi, e⟩ := mxL_hit (lv := lv) (k := k + 1) (by omega)
    rw [show mxL lv (k + 2) = max (mxL lv (k + 1)) (lv ((k + 1 : Nat) : Int)) from rfl]
    by_cases h : mxL lv (k + 1) ≤ lv ((k + 1 : Nat) : Int)
    · exact ⟨k + 1, by omega, by omega⟩
    · exact ⟨i, by omega, by omega⟩
theorem mxL_bound {lv : Int → Nat} {n : Nat} : ∀ {k : Nat}, (∀ i : Nat, i < k → lv (i : Int) ≤ n) → mxL lv k ≤ n
  | 0, _ => by unfold mxL; omega
  | k + 1, h => by
    unfold mxL
    have h1 := mxL_bound (k := k) (fun i hi => h i (by omega))
    have h2 := h k (by omega)
    omega
theorem mxL_congr {lv lv' : Int → Nat} : ∀ {k : Nat}, (∀ i : Nat, i < k → lv (i : Int) = lv' (i : Int)) → mxL lv k = mxL lv' k
  | 0, _ => rfl
  | k + 1, h => by
    unfold mxL
    rw [mxL_congr (k := k) (fun i hi => h i (by omega)), h k (by omega)]
/-- The levels of the first variables, but the constant's. -/
def lvs (lv : Int → Nat) (n : Nat) : List Int := (List.range n).map fun (i : Nat) => (lv ((i : Int) + 1) : Int)
theorem lvs_len (lv : Int → Nat) (n : Nat) : (lvs lv n).length = n := by simp [lvs]
theorem lvs_at {lv : Int → Nat} {n i : Nat} (h : i < n) : (lvs lv n).getD i 0 = (lv ((i : Int) + 1) : Int) := by
  unfold lvs
  rw [List.getD_eq_getElem?_getD, List.getElem?_eq_getElem (by simpa using h)]
  simp
theorem lvs_succ (lv : Int → Nat) (n : Nat) : lvs lv (n + 1) = lvs lv n ++ [(lv ((n : Int) + 1) : Int)] := by
  unfold lvs
  rw [List.range_succ, List.map_append]
  rfl
theorem lvs_congr {lv lv' : Int → Nat} {n : Nat} (h : ∀ v : Int, 0 ≤ v → v ≤ n → lv v = lv' v) : lvs lv n = lvs lv' n := by
  unfold lvs
  refine List.map_congr_left fun i hi => ?_
  have := List.mem_range.1 hi
  rw [h ((i : Int) + 1) (by omega) (by omega)]
/-- Numbers as a list. -/
def nums (n : Nat) (f : Int → Nat) : List Int := (List.range n).map fun (i : Nat) => (f (i : Int) : Int)
theorem nums_len (n : Nat) (f : Int → Nat) : (nums n f).length = n := by simp [nums]
theorem nums_at {n : Nat} {f : Int → Nat} {i : Nat} (h : i < n) : (nums n f).getD i 0 = (f (i : Int) : Int) := by
  unfold nums
  rw [List.getD_eq_getElem?_getD, List.getElem?_eq_getElem (by simpa using h)]
  simp
end Go.Proofs.YtlahecdpcpejpaaDoor
