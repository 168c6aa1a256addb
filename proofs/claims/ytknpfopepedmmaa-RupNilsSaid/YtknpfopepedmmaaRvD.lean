/-
  Package slices: the keys of a map, in order.
-/
import Derived.Test.YtknpfopepedmmaaShelf
import Derived.Test.YtknpfopepedmmaaRvC
namespace Go.Proofs.Ytknpfopepedmmaa
open Go Go.ChangeShapes Go.WideShapes Go.ChangeAt Go.RowKit Go.Maps Go.Sort Go.Shelf
set_option linter.unusedVariables false
set_option linter.unusedSimpArgs false
theorem sortsA (m : Nat) : AnyZI.SortsIn Try.prog Try.sortedA_ren Fence.wide m :=
  ⟨fun blk off cap ss W hH hblk hsz => callsIn_wide.2 (AnyM.slices_Sort_int Try.sortA blk off cap ss W hH hblk hsz),
   fun p cap W => callsIn_wide.2 (AnyM.slices_Sort_int_none Try.sortA p cap W)⟩
theorem keys_ (mb : Option Nat) (W : World) : Calls Try.prog 71 #[.map mb] W fun e w' => e = .returned (.func (.func 84) #[] #[.pointer (some ⟨W.heap.size, 0, none⟩)]) ∧ w' = W.alloc (.cells #[.map mb] 68) :=
  (callsIn_wide (n := 5)).1 (AnyZI.keys_in Try.keysA Fence.wide 5 trivial rfl mb W)
theorem intKeys_dat {α : Type} (dv : α → DataW Unit) (cs : List (Int × α)) : intKeys (datF dv cs) = cs.map (·.1) := by
  show (cs.map (entF dv)).map (fun p => Go.intOf p.1) = _
  rw [List.map_map]
  rfl
/-- The keys of a set, in order. -/
def SrtQ (w : World) (seen : List Nat) (e : Ending) (w' : World) : Prop :=
  ∃ (v : Value) (R : List Nat), e = .returned v ∧ Row w' 3 1 v R.length (R.map fun i : Nat => iv (i : Nat)) ∧ (∀ g, v.ownBlock = some g → w.heap.size ≤ g) ∧ R.Pairwise (· < ·) ∧ (∀ x, x ∈ R ↔ x ∈ seen) ∧ Below w.heap.size w w'
theorem sorted_ {w : World} {b n : Nat} {seen : List Nat} (h : MapF eBool w b n (setF seen)) (hn : n ≤ 1000000) :
    Calls Try.prog 70 #[.func (.func 84) #[] #[.pointer (some ⟨w.heap.size, 0, none⟩)]] (w.alloc (.cells #[.map (some b)] 68)) (SrtQ w seen) := by
  have hbl := h.lt
  obtain ⟨cs, hown, hnd, hf⟩ := h
  have hsz : Maps.size (datF eBool.dv cs) ≤ 1000000 := by
    have := hown.size_le
    omega
  have hseq : SeqGives Fence.wide 2 Try.prog 84 #[.pointer (some ⟨w.heap.size, 0, none⟩)] encZ (fun ss => ss.Perm (intKeys (datF eBool.dv cs))) (Maps.size (datF eBool.dv cs)) (w.alloc (.cells #[.map (some b)] 68)) :=
    AnyZI.keys_gives (ρ := Try.keysA_ren) { Try.keysA with } Fence.wide _ trivial rfl (by omega) w.heap.size b n (datF eBool.dv cs) _ (by simp) (by simp) (by
      obtain ⟨es, clock, hb, Ft, hs, hD⟩ := hown
      exact ⟨es, clock, (Below.heap_alloc _ _ b hbl).trans hb, Ft, hs, hD⟩)
  have cS := AnyZI.sorted_in Try.sortedA Fence.wide 5 trivial trivial trivial trivial rfl (by omega) (sortsA _) (enters_of Try.func83 (by kernel_rfl) rfl) 84 #[.pointer (some ⟨w.heap.size, 0, none⟩)] trivial (enters_of Try.func84 (by kernel_rfl) rfl) _ _ (by unfold maxLen; omega) (by omega) _ hseq
  refine ((callsIn_wide (n := 5)).1 cS).mono ?_
  rintro e w' ⟨v, ss, rfl, hS, hrow, hnil, hb⟩
  rw [intKeys_dat] at hS
  obtain ⟨L, hL⟩ : ∃ L, L = ss.mergeSort fun x y => decide (x ≤ y) := ⟨_, rfl⟩
  rw [← hL] at hrow
  have hpL : L.Perm (cs.map (·.1)) := by rw [hL]; exact (List.mergeSort_perm _ _).trans hS
  have hndL : L.Nodup := hpL.nodup_iff.2 hnd
  have hsL : L.Pairwise fun x y => (decide (x ≤ y)) = true := by
    rw [hL]
    exact List.pairwise_mergeSort (fun a b c h1 h2 => by simp at *; omega) (fun a b => by simp; omega) ss
  have hmem : ∀ x, x ∈ L ↔ 0 ≤ x ∧ x.toNat ∈ seen := fun x => by
    rw [hpL.mem_iff, mem_keys, ← hf]
    unfold setF
    split
    · rename_i h; exact ⟨fun _ => h, fun _ => rfl⟩
    · rename_i h; exact ⟨fun e => by simp at e, fun e => absurd e h⟩
  have hle : ss.length = (L.map Int.toNat).length := by rw [List.length_map, hL, List.length_mergeSort]
  have hmap : L.map encZ = (L.map Int.toNat).map fun i : Nat => iv (i : Nat) := by
    rw [List.map_map]
    apply List.map_congr_left
    intro x hx
    have := ((hmem x).1 hx).1
    show Value.int .i64 x = Value.int .i64 ((x.toNat : Nat) : Int)
    rw [Int.toNat_of_nonneg this]
  rw [hmap, hle] at hrow
  refine ⟨v, L.map Int.toNat, rfl, ?_, fun g hg => ?_, ?_, fun x => ?_, ?_⟩
  · exact ownsRow_base_a hrow (Nat.zero_le _)
  · have := (World.ownsRow.lt hrow g hg).1
    simp at this
    omega
  · rw [List.pairwise_map]
    refine (List.Pairwise.and_mem.1 (hsL.and hndL)).imp ?_
    rintro a b ⟨ha, hb', h1, h2⟩
    have a0 := ((hmem a).1 ha).1
    have b0 := ((hmem b).1 hb').1
    have h1 : a ≤ b := of_decide_eq_true h1
    omega
  · rw [List.mem_map]
    constructor
    · rintro ⟨y, hy, rfl⟩
      exact ((hmem y).1 hy).2
    · intro hx
      exact ⟨(x : Int), (hmem _).2 ⟨by omega, by rw [Int.toNat_natCast]; exact hx⟩, by omega⟩
  · exact ((Below.refl _ w).alloc (Nat.le_refl _) _).trans (hb.mono (by simp))
end Go.Proofs.Ytknpfopepedmmaa
