/-
  Chapter 06: TopoFirst, plain: what is there ahead of each node.
-/
import Derived.Test.YtgnimegdgphlmaaStJ
namespace Go.Proofs.Ytgnimegdgphlmaa
open Go.ChangeShapes Go.WideShapes Go.ChangeAt Go.RowKit
set_option linter.unusedVariables false
set_option linter.unusedSimpArgs false
/-- Ahead of a node all that define its literals have come. -/
theorem first_ok {d : NetD} (hc : checkN d = 0) {j : Nat} (hj : j < (ordD d).length) {y : Int} (hy : y ∈ ((ordD d).getD j node0).frm) :
    y / 2 = 0 ∨ y / 2 ∈ d.inp ∨ y / 2 ∈ d.lat.map (·.1) ∨ ∃ k, k < j ∧ y / 2 ∈ ((ordD d).getD k node0).vars := by
  obtain ⟨h0, V, hs, ha⟩ := good_iff.1 hc
  have hlv : ∀ v : Int, 0 ≤ v → v ≤ V → 0 ≤ ((levF d v : Nat) : Int) ∧ Lev (nodesN d) v ((levF d v : Nat) : Int).toNat := fun v a b => by
    obtain ⟨k, hk⟩ := ha v a b
    rw [levF_eq hs hk]
    exact ⟨by omega, by simpa using hk⟩
  have hO : OrdOK (nodesN d) (ordD d) := by
    unfold ordD
    rw [if_pos hc]
    exact ordN_ok hs.nodes hlv
  obtain ⟨i, hi, ei⟩ := hO.src j hj
  rw [ei] at hy
  have hr := hs.nodes.frng i hi y hy
  by_cases hz : y / 2 = 0
  · exact .inl hz
  right
  have hd := hs.all (y / 2) (by omega) (by omega)
  unfold definedN at hd
  rw [List.append_assoc, List.mem_append, List.mem_append] at hd
  rcases hd with (hd | hd) | hd
  · exact .inl hd
  · exact .inr (.inl hd)
  right
  right
  have hf : y / 2 ∈ (nodesN d).flatMap (·.vars) := by
    rw [flatten_vars]
    rcases List.mem_append.1 hd with h | h
    · exact List.mem_append_right _ h
    · exact List.mem_append_left _ h
  obtain ⟨x, hx, hxv⟩ := List.mem_flatMap.1 hf
  obtain ⟨q, hq, rfl⟩ := getD_idx (d := node0) hx
  obtain ⟨k, hk, ek⟩ := hO.all q hq
  refine ⟨k, ?_, by rw [ek]; exact hxv⟩
  obtain ⟨u, hu⟩ : ∃ u, u ∈ ((nodesN d).getD i node0).vars := by
    cases hcn : ((nodesN d).getD i node0).vars with
    | nil => exact absurd hcn (hs.nodes.vne i hi)
    | cons a t => exact ⟨a, by simp⟩
  have hur := hs.nodes.vrng i hi u hu
  obtain ⟨a, hLa⟩ := ha u (by omega) hur.2
  obtain ⟨f, hfr, e⟩ := hLa.inv hs.nodes hi hu
  have hlt := le_mx (f := f) y hy
  by_cases hkj : k < j
  · exact hkj
  · have := hO.up j k u (y / 2) a (f y) (by omega) hk (by rw [ei]; exact hu) (by rw [ek]; exact hxv) hLa (hfr y hy)
    omega
/-- What is there: at least the constant, the inputs, the latches, and the variables of some nodes. -/
structure There (d : NetD) (ls : List NodeD) (m : Int → Bool) : Prop where
  zero : m 0 = true
  inp : ∀ v ∈ d.inp, m v = true
  lat : ∀ t ∈ d.lat, m t.1 = true
  nod : ∀ x ∈ ls, ∀ v ∈ x.vars, m v = true
theorem There.has {d : NetD} (hc : checkN d = 0) {j : Nat} (hj : j < (ordD d).length) {m : Int → Bool} (h : There d ((ordD d).take j) m) {y : Int} (hy : y ∈ ((ordD d).getD j node0).frm) : m (y / 2) = true := by
  rcases first_ok hc hj hy with e | e | e | ⟨k, hk, hkv⟩
  · rw [e]; exact h.zero
  · exact h.inp _ e
  · obtain ⟨t, ht, e⟩ := List.mem_map.1 e
    rw [← e]
    exact h.lat t ht
  · refine h.nod _ ?_ _ hkv
    rw [List.mem_iff_getElem]
    refine ⟨k, by rw [List.length_take]; omega, ?_⟩
    rw [List.getElem_take, List.getD_eq_getElem?_getD, List.getElem?_eq_getElem (by omega)]
    rfl
theorem There.mono {d : NetD} {ls : List NodeD} {m m' : Int → Bool} (h : There d ls m) (hm : ∀ v, m v = true → m' v = true) : There d ls m' :=
  ⟨hm _ h.zero, fun v hv => hm _ (h.inp v hv), fun t ht => hm _ (h.lat t ht), fun x hx v hv => hm _ (h.nod x hx v hv)⟩
/-- Some of a node's variables more. -/
theorem There.next {d : NetD} {j : Nat} (hj : j < (ordD d).length) {m m' : Int → Bool} (h : There d ((ordD d).take j) m) (hm : ∀ v, m v = true → m' v = true) (hv : ∀ v ∈ ((ordD d).getD j node0).vars, m' v = true) : There d ((ordD d).take (j + 1)) m' := by
  have h' := h.mono hm
  refine ⟨h'.zero, h'.inp, h'.lat, fun x hx v hxv => ?_⟩
  rw [List.take_add_one, List.mem_append] at hx
  rcases hx with hx | hx
  · exact h'.nod x hx v hxv
  · rw [List.getElem?_eq_getElem hj] at hx
    simp at hx
    refine hv v ?_
    rw [List.getD_eq_getElem?_getD, List.getElem?_eq_getElem hj]
    rw [hx] at hxv
    exact hxv
end Go.Proofs.Ytgnimegdgphlmaa
