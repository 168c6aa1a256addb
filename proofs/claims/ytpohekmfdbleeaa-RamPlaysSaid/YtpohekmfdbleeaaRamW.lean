/-
  Copy.
-/
import Derived.Test.YtpohekmfdbleeaaRamV
import Derived.Shelf.SlMaps.Clone
import Derived.Deep.RegionHeld3
namespace Go.Proofs.Ytpohekmfdbleeaa
open Go.ChangeShapes Go.WideShapes Go.ChangeAt Go.RowKit Go.Maps
set_option linter.unusedVariables false
theorem clone_any {w : World} {bm : Nat} {es : Array MapEntry} {clock : Nat} (hb : w.heap[bm]? = some (.map es clock)) : Calls Try.prog 24 #[.map (some bm)] w fun e w' => e = .returned (.map (some w.heap.size)) ∧ w' = w.alloc (.map es clock) :=
  AnyW.maps_Clone Try.cloneMap bm es clock w hb
set_option maxHeartbeats 1000000 in
theorem ram_Copy {w : World} {r bm : Nat} {aw ww : Int} {cs : CS} (h : RamAt w r bm aw ww cs) :
    Calls Try.prog 18 #[.pointer (some ⟨r, 0, none⟩)] w fun e w' => ∃ r' bm', e = .returned (.pointer (some ⟨r', 0, none⟩)) ∧ Mem w.heap.size w w' r' bm' aw ww cs := by
  obtain ⟨k0, k1, k2⟩ := h.cells
  obtain ⟨es, clock, hb, hrest⟩ := h.2
  have HO := Lib.hid hb
  have HE := Lib.hid hrest
  clear h hb hrest
  go_enter Try.func18, Try.ntmps18
  go_wp2_with fail
  go_region_held3 (fun w' => w'.cell? ⟨r, 0, none⟩ = some (.int .i64 aw) ∧ w'.cell? ⟨r, 1, none⟩ = some (.int .i64 ww) ∧ w'.cell? ⟨r, 2, none⟩ = some (.map (some bm))) (go_keep) ((go_at_call 24; refine (clone_any (w := w.drew) HO.out).mono ?_; rintro e w2 ⟨rfl, rfl⟩))
  all_goals
    go_wp2
    go_ret
    have hB := Blk.new (w.alloc (.map es clock)) 47 #[.int .i64 aw, .int .i64 ww, .map (some w.heap.size)]
    refine ⟨w.heap.size + 1, w.heap.size, rfl, ⟨?_, ?_⟩, by omega, Nat.le_refl _, ?_, ?_⟩
    · have e : (w.alloc (.map es clock)).heap.size = w.heap.size + 1 := by simp
      rw [e] at hB
      exact hB.drew
    · exact ⟨es, clock, (Below.heap_alloc (w.alloc (.map es clock)) _ w.heap.size (by simp)).trans (heap_alloc_new w _), HE.out⟩
    · exact (((Below.refl _ w).alloc (Nat.le_refl _) _).alloc (by simp) _).drew
    · simp; omega
end Go.Proofs.Ytpohekmfdbleeaa
