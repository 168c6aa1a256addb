/-
  Package ram: Cells: the cells of a map, in order.
-/
import Derived.Test.YtpohekmfdbleeaaRam6
namespace Go.Proofs.Ytpohekmfdbleeaa
open Go.ChangeShapes Go.WideShapes Go.ChangeAt Go.RowKit Go.Maps
open Go.Sort (SWO PermIn SortedIn grow HoldsK flatK get_flatK putRowK mapBlock alloc_eq_grow grow_grow)
set_option linter.unusedVariables false
def rising (cs : CS) : Prop := cs.Pairwise fun p q => p.1 < q.1
def SortPost (w : World) (g : Nat) (xs : CS) (w' : World) : Prop :=
  ∃ ys : CS, ys.Perm xs ∧ (ys.Pairwise fun p q => p.1 ≤ q.1) ∧ (∀ j, j < ys.length → w'.cell? ⟨g, j * 2, none⟩ = some (.int .u64 (ys.getD j (0, 0)).1) ∧ w'.cell? ⟨g, j * 2 + 1, none⟩ = some (.int .u64 (ys.getD j (0, 0)).2)) ∧ Chg (fun k => k = g) w w'
theorem agg49 : ∀ w, (isAgg 49).run Try.prog w = .ok true w := fun w => by kernel_rfl
theorem size49 : ∀ w, (Go.sizeOf 49).run Try.prog w = .ok 2 w := fun w => by kernel_rfl
theorem sort_cells {w : World} {g cap : Nat} {xs : CS} (h : Row w 49 2 (.slice (some ⟨g, 0, none⟩) xs.length cap) xs.length (flatC xs)) (hs : xs.length < 4611686018427387904) :
    Calls Try.prog 21 #[.slice (some ⟨g, 0, none⟩) xs.length cap, .func (.func 22) #[] #[]] w fun e w' => e = .returned (.tuple #[]) ∧ SortPost w g xs w' := by
  have eg : ∀ args w, (callFunc 22 args).run Try.prog w = .ok (.enter 22 args) w := enters_of Try.func22 (by kernel_rfl) rfl
  have hH := h.holdsC
  have hg : g < w.heap.size := h.lt g rfl
  have hcon := AnyQ.slices_SortFunc Try.sortCell 2 agg49 size49 encC (fun _ => rfl) (fun x v hv => by simp [encC] at hv; rcases hv with rfl | rfl <;> rfl) cmpC swoC 22 #[] g 0 cap xs.toArray w eg (fun _ _ _ _ x y => cells_less x y _) hH hg (by simpa using hs)
  rw [show xs.toArray.size = xs.length by simp] at hcon
  change Calls Try.prog 21 _ _ _ at hcon
  refine hcon.mono fun e w' ⟨he, d', n, os, hp, hsrt, hw⟩ => ⟨he, ?_⟩
  subst hw
  obtain ⟨hp1, -, hp2⟩ := hp
  have hsz : d'.size = xs.length := by simpa using hp1
  refine ⟨d'.toList, ?_, ?_, fun j hj => ?_, chg_sort⟩
  · have e1 : (d'.extract 0 xs.length).toList = d'.toList := by rw [← hsz]; simp
    have e2 : (xs.toArray.extract 0 xs.length).toList = xs := by simp
    rw [e1, e2] at hp2
    exact hp2
  · rw [List.pairwise_iff_getElem]
    intro i j hi hj hij
    have hi' : i < d'.size := by simpa using hi
    have hj' : j < d'.size := by simpa using hj
    have := hsrt i j (Nat.zero_le _) hij (by rw [← hsz]; exact hj')
    rw [lt_cmpC, getElem!_pos d' i hi', getElem!_pos d' j hj'] at this
    have := of_decide_eq_false this
    simp only [Array.getElem_toList]
    omega
  · have hj' : j < d'.size := by simpa using hj
    have hH' := holdsK_sortWorldK_c encC 2 w g 0 xs.toArray d' n os hH hg (by simpa using hsz)
    have ex : d'.toList.getD j (0, 0) = d'[j]! := by rw [getElem!_pos d' j hj']; simp [List.getD, hj']
    rw [ex]
    have c0 := (hH'.cell hj' (c := 0) (by omega)).1
    have c1 := (hH'.cell hj' (c := 1) (by omega)).1
    simp only [Nat.zero_add, Nat.add_zero] at c0 c1
    exact ⟨c0, c1⟩

/-! ### lists -/
theorem rising_inj {cs : CS} (h : rising cs) {p q : Int × Int} (hp : p ∈ cs) (hq : q ∈ cs) (he : p.1 = q.1) : p = q := by
  induction cs with
  | nil => simp at hp
  | cons y r ih =>
    obtain ⟨h1, h2⟩ := List.pairwise_cons.1 h
    rcases List.mem_cons.1 hp with e | hp'
    · rcases List.mem_cons.1 hq with e' | hq'
      · rw [e, e']
      · have := h1 q hq'; rw [e] at he; omega
    · rcases List.mem_cons.1 hq with e' | hq'
      · have := h1 p hp'; rw [e'] at he; omega
      · exact ih h2 hp' hq'
theorem perm_rising {cs ys : CS} (h : rising cs) (hp : ys.Perm cs) (hs : ys.Pairwise fun p q => p.1 ≤ q.1) : ys = cs :=
  hp.eq_of_pairwise (le := fun p q => p.1 ≤ q.1) (fun a b ha hb h1 h2 => rising_inj h (hp.mem_iff.1 ha) hb (by omega)) hs (h.imp fun {a b} h => by omega)
theorem perm_of_mem {cs xs : CS} (hc : cs.Nodup) (hx : xs.Nodup) (h : ∀ p, p ∈ xs ↔ p ∈ cs) : xs.Perm cs := (List.perm_ext_iff_of_nodup hx hc).2 h
theorem rising_nodup {cs : CS} (h : rising cs) : cs.Nodup := h.imp fun {a b} h e => by subst e; omega
theorem mem_of_at {cs : CS} {x c : Int} (h : ∀ zd, (datC cs).atKey (kd x) zd = .lit (.int .u64 c)) : (x, c) ∈ cs := by
  have h1 := h (.lit (.int .u64 (c + 1)))
  unfold DataW.atKey datC at h1
  simp only [find_dat] at h1
  cases hf : cs.find? (fun p => p.1 == x) with
  | none => rw [hf] at h1; simp at h1; omega
  | some p =>
    rw [hf] at h1
    simp only [Option.map_some, ent] at h1
    have e1 : p.2 = c := lit_u64_inj h1
    have e2 : p.1 = x := by have := List.find?_some hf; simpa using this
    have := List.mem_of_find?_eq_some hf
    rw [show (x, c) = p by rw [← e1, ← e2]]
    exact this
end Go.Proofs.Ytpohekmfdbleeaa
