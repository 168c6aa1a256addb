/-
  Arguments that are slices of structs of two fields, the second a list of numbers (api.Step; acts of chapter 25).
-/
import Derived.Test.YtknpfopepedmmaaFrameS
import Derived.Test.YtknpfopepedmmaaRvQ
import Derived.Test.YtknpfopepedmmaaStructs
namespace Go.Proofs.Ytknpfopepedmmaa.Fr
open Go Go.RowKit Go.ChangeShapes Go.WideShapes Go.Deep
set_option linter.unusedVariables false
section
variable {H : Type} {enc : TypeId × Value → H} {P : Program} {w : World}
theorem pair_of {α : Type} (d0 : α) (FV : α → Value) {t e : TypeId} {f0 f1 : Field} {v : Value} {d : DataW H} {p : List MemPlace} {ei : TypeId} (ht : P.underlying t = some (.slice e)) (he : P.underlying e = some (.struct #[f0, f1]))
    (hone : oneCellFields P #[f0, f1] = true) (hC : P.cellsOf e = 2) (h1 : P.underlying f1.type = some (.slice ei)) (hei : P.underlying ei = some (.int .i64)) (hci : P.cellsOf ei = 1)
    (hf0 : ∀ (n : Nat) (l : List Value) (y : DataW H × List MemPlace), DataW.trod enc P w 0 (fun _ => true) true n f0.type l = some y → ∃ z : α, l = [FV z])
    (hv : ∃ b, Value.okWide P w .any b t v) (h : DataW.Trod enc P w 0 (fun _ => true) true t v d p) :
    ∃ xs : List (α × List Int), ∃ a cap, v = .slice a xs.length cap ∧ xs.length ≤ cap ∧ cap ≤ maxLen ∧ (xs = [] ∨ ∃ b off, a = some ⟨b, off, none⟩ ∧ ∀ j, j < xs.length → w.cell? ⟨b, off + j * 2, none⟩ = some (FV (xs.getD j (d0, [])).1) ∧ ∃ u, w.cell? ⟨b, off + j * 2 + 1, none⟩ = some u ∧ Ints w u (xs.getD j (d0, [])).2) := by
  obtain ⟨b0, hv⟩ := hv
  obtain ⟨a0, len, cap, rfl⟩ := okWide_slice ht hv
  obtain ⟨fuel, hf⟩ := h
  rcases Fr.open_slice_fields ht he hone (by rw [hC]; rfl) hf with ⟨hcs, -⟩ | ⟨a, len', cap', m, D, Pl, hcs, -, hl, hm, hmm, -, hel⟩
  · simp [Value.cells] at hcs
    obtain ⟨rfl, rfl, rfl⟩ := hcs
    exact ⟨[], none, 0, rfl, by simp, by simp [maxLen], .inl rfl⟩
  · simp [Value.cells] at hcs
    obtain ⟨rfl, rfl, rfl⟩ := hcs
    simp at hmm
    subst hmm
    have each : ∀ i, i < len → ∃ x : α × List Int, w.cell? (a.add (i * 2)) = some (FV x.1) ∧ (∃ u, w.cell? (a.add (i * 2 + 1)) = some u ∧ Ints w u x.2) := by
      intro i hi
      obtain ⟨ys, n, -, -, -, hj⟩ := hel i (by omega)
      obtain ⟨v0, y0, c0, -, t0⟩ := hj 0 f0 rfl
      obtain ⟨v1, y1, c1, -, t1⟩ := hj 1 f1 rfl
      obtain ⟨x0, e0⟩ := hf0 _ _ _ t0
      simp at e0
      subst e0
      rcases open_ints h1 hei hci t1 with ⟨hcs, hx⟩ | ⟨ia, ilen, icap, zs, hcs, _, hl, hm, hz, hx, hcell, hwz⟩
      · simp at hcs
        subst hcs
        exact ⟨(x0, []), c0, ⟨_, c1, ints_nil w⟩⟩
      · simp at hcs
        subst hcs
        simp at hz
        refine ⟨(x0, zs.take ilen), c0, ⟨_, c1, ?_⟩⟩
        refine ⟨some ia, icap, by rw [List.length_take, Nat.min_eq_left (by omega)], (fun h => by cases h), by rw [List.length_take]; omega, hm, ?_⟩
        by_cases h0 : ilen = 0
        · left; rw [h0]; rfl
        · right
          obtain ⟨b, off, rfl, hc'⟩ := ints_at hcell (by omega)
          refine ⟨b, off, rfl, fun j hj => ?_⟩
          rw [List.length_take] at hj
          rw [hc' j (by omega)]
          congr 2
          simp only [List.getD]
          rw [List.getElem?_take_of_lt (by omega)]
    obtain ⟨g, hg⟩ : ∃ g : Nat → α × List Int, ∀ i, i < len → w.cell? (a.add (i * 2)) = some (FV (g i).1) ∧ (∃ u, w.cell? (a.add (i * 2 + 1)) = some u ∧ Ints w u (g i).2) :=
      ⟨fun i => if h : i < len then (each i h).choose else (d0, []), fun i hi => by simp only [hi, dif_pos]; exact (each i hi).choose_spec⟩
    refine ⟨(List.range len).map g, some a, m, by simp, by simpa using hl, hm, ?_⟩
    by_cases hz : len = 0
    · left; rw [hz]; rfl
    · right
      obtain ⟨b, off, spot⟩ := a
      have hsp : spot = none := by
        have := (hg 0 (by omega)).1
        simpa [Addr.add] using World.cell?_spot this
      subst hsp
      have hadd : ∀ j, (⟨b, off, none⟩ : Addr).add j = ⟨b, off + j, none⟩ := fun j => by unfold Addr.add; split <;> simp_all
      refine ⟨b, off, rfl, fun j hj => ?_⟩
      have hj' : j < len := by simpa using hj
      obtain ⟨q0, ⟨u, q1, q1'⟩⟩ := hg j hj'
      rw [hadd] at q0 q1
      have e : ((List.range len).map g).getD j (d0, []) = g j := by simp [List.getD, hj']
      rw [e]
      exact ⟨q0, ⟨u, by rw [Nat.add_assoc]; exact q1, q1'⟩⟩
end
section
variable {H : Type} {enc : TypeId × Value → H} {w : World}
set_option maxRecDepth 100000 in
theorem stps_of {v : Value} {d : DataW H} {p : List MemPlace} (hv : ∃ b, Value.okWide Try.prog w .any b 45 v) (h : DataW.Trod enc Try.prog w 0 (fun _ => true) true 45 v d p) : ∃ xs, StpS w v xs := by
  obtain ⟨xs, hx⟩ := pair_of false Value.bool Try.underlying45 Try.underlying52 (by kernel_rfl) (by kernel_rfl) Try.underlying28 Try.underlying3 (by kernel_rfl)
    (fun n l y hy => by obtain ⟨z, e, -⟩ := DataW.trod_bool Try.underlying4 hy; exact ⟨z, e⟩) hv h
  exact ⟨xs, hx⟩
end
end Go.Proofs.Ytknpfopepedmmaa.Fr
