/-
  Package ram: the order of the cells; slices.SortFunc at the cells; Copy.
-/
import Derived.Test.YtpohekmfdbleeaaRam5
import Derived.Test.YtpohekmfdbleeaaShelf
import Derived.Shelf.SlSortCmp.NoneTotal
namespace Go.Proofs.Ytpohekmfdbleeaa
open Go.ChangeShapes Go.WideShapes Go.ChangeAt Go.RowKit Go.Maps
open Go.Sort (SWO PermIn SortedIn grow HoldsK flatK get_flatK putRowK mapBlock alloc_eq_grow grow_grow)
set_option linter.unusedVariables false
def encC (p : Int × Int) : List Value := [.int .u64 p.1, .int .u64 p.2]
def flatC (cs : CS) : List Value := cs.flatMap encC
theorem flatC_len (cs : CS) : (flatC cs).length = cs.length * 2 := by
  induction cs with
  | nil => rfl
  | cons m ms ih => simp only [flatC, List.flatMap_cons, List.length_append, List.length_cons] at ih ⊢; rw [ih]; simp [encC]; omega
theorem flatC_get (cs : CS) (d : Value) : ∀ i, i < cs.length → (flatC cs).getD (i * 2) d = .int .u64 (cs.getD i (0, 0)).1 ∧ (flatC cs).getD (i * 2 + 1) d = .int .u64 (cs.getD i (0, 0)).2 := by
  induction cs with
  | nil => intro i h; simp at h
  | cons m ms ih =>
    intro i h
    cases i with
    | zero => simp [flatC, encC]
    | succ i =>
      have := ih i (by simpa using h)
      simp only [flatC, List.flatMap_cons, List.getD, encC] at this ⊢
      have e0 : (i + 1) * 2 = i * 2 + 2 := by omega
      have e1 : (i + 1) * 2 + 1 = i * 2 + 1 + 2 := by omega
      rw [e1, e0]
      simpa using this
theorem Row.holdsC {w : World} {g cap : Nat} {xs : CS} (h : Row w 49 2 (.slice (some ⟨g, 0, none⟩) xs.length cap) xs.length (flatC xs)) : HoldsK encC 2 w g 0 xs.toArray := by
  rcases h.form with ⟨h, -⟩ | ⟨g', cap', h', -, -, hg, hc⟩
  · cases h
  · injection h' with e1 e2 e3
    injection e1 with e1
    injection e1 with e1
    subst e1
    intro j hj
    have hj' : j < xs.length * 2 := by simpa [flatK] using hj
    obtain ⟨c1, c2⟩ := hc j (by rw [flatC_len]; exact hj')
    rw [Nat.zero_add]
    refine ⟨?_, c2⟩
    rw [c1, get_flatK _ _ _ _ (by simpa using hj')]
    have hi : j / 2 < xs.length := by omega
    obtain ⟨q1, q2⟩ := flatC_get xs undef (j / 2) hi
    have ex : xs.toArray[j / 2]! = xs.getD (j / 2) (0, 0) := by simp [List.getD, hi]
    rw [ex]
    rcases Nat.mod_two_eq_zero_or_one j with hm | hm
    · have : j = j / 2 * 2 := by omega
      rw [hm]
      conv => lhs; rw [this]
      rw [q1]; rfl
    · have : j = j / 2 * 2 + 1 := by omega
      rw [hm]
      conv => lhs; rw [this]
      rw [q2]; rfl
theorem chg_sort {w : World} {g n : Nat} {d : Array (Int × Int)} {os : Array Obj} : Chg (fun k => k = g) w (sortWorldK encC 2 w g 0 n d os) := by
  refine ⟨rfl, rfl, rfl, size_sortWorldK_c _ _ _ _ _ _ _ _, fun k hk hn => ?_⟩
  show ((w.heap.modify g _) ++ os)[k]? = _
  rw [Array.getElem?_append_left (by simpa using hk), Array.getElem?_modify, if_neg (fun e => hn e.symm)]

def cmpC (x y : Int × Int) : Int := if x.1 < y.1 then -1 else if y.1 < x.1 then 1 else 0
theorem lt_cmpC (x y : Int × Int) : ltOf cmpC x y = decide (x.1 < y.1) := by
  unfold ltOf cmpC
  by_cases h1 : x.1 < y.1
  · simp [h1]
  · by_cases h2 : y.1 < x.1 <;> simp [h1, h2]
theorem swoC : SWO (ltOf cmpC) where
  irrefl x := by rw [lt_cmpC]; simp
  trans x y z h1 h2 := by rw [lt_cmpC] at *; simp at *; omega
  ntrans x y z h1 h2 := by rw [lt_cmpC] at *; simp at *; omega
theorem cells_less (x y : Int × Int) (W : World) : Calls Try.prog 22 #[.agg #[.int .u64 x.1, .int .u64 x.2], .agg #[.int .u64 y.1, .int .u64 y.2]] W fun e w' => e = .returned (.int .i64 (cmpC x y)) ∧ ∃ q os', w' = grow (W.drewN q) os' := by
  go_enter Try.func22, Try.ntmps22
  go_wp2
  all_goals
    go_ret
    refine ⟨?_, 0, _, by rw [alloc_eq_grow, alloc_eq_grow, grow_grow]; rfl⟩
    refine congrArg (fun z => Ending.returned (Value.int IntKind.i64 z)) ?_
    unfold cmpC
    split <;> first | rfl | omega | (split <;> first | rfl | omega)
end Go.Proofs.Ytpohekmfdbleeaa
