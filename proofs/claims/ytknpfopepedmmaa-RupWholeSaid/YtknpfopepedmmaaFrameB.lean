/-
  Arguments that are slices of truths.
-/
import Derived.Test.YtknpfopepedmmaaFrame
import Derived.Deep.Grids
namespace Go.Proofs.Ytknpfopepedmmaa.Fr
open Go Go.RowKit Go.WideShapes Go.ChangeShapes Go.Deep
section
variable {H : Type} {enc : TypeId × Value → H} {P : Program}
theorem bools_of {W : World} {t e : TypeId} {v : Value} {d : DataW H} {p : List MemPlace} (ht : P.underlying t = some (.slice e)) (he : P.underlying e = some .bool) (hc : P.cellsOf e = 1)
    (hv : ∃ b, Value.okWide P W .any b t v) (h : DataW.Trod enc P W 0 (fun _ => true) true t v d p) :
    ∃ a cap, ∃ ms : List Bool, v = .slice a ms.length cap ∧ (a = none → cap = 0) ∧ ms.length ≤ cap ∧ cap ≤ maxLen ∧
      (ms = [] ∨ ∃ b off, a = some ⟨b, off, none⟩ ∧ ∀ j, j < ms.length → W.cell? ⟨b, off + j, none⟩ = some (.bool (ms.getD j false))) := by
  obtain ⟨b0, hv⟩ := hv
  obtain ⟨a0, len, cap, rfl⟩ := okWide_slice ht hv
  obtain ⟨fuel, hf⟩ := h
  rcases open_bools ht he hc hf with ⟨hcs, -⟩ | ⟨a, len', cap', B, hcs, _, hl, hm, -, hcell⟩
  · simp [Value.cells] at hcs
    obtain ⟨rfl, rfl, rfl⟩ := hcs
    exact ⟨none, 0, [], rfl, fun _ => rfl, by simp, by simp [maxLen], .inl rfl⟩
  · simp [Value.cells] at hcs
    obtain ⟨rfl, rfl, rfl⟩ := hcs
    refine ⟨some a, cap, (List.range len).map B, by simp, (fun h => by cases h), by simpa using hl, hm, ?_⟩
    by_cases h0 : len = 0
    · left; rw [h0]; rfl
    · right
      obtain ⟨b, off, spot⟩ := a
      have hspot : spot = none := by simpa [Addr.add] using World.cell?_spot (hcell 0 (by omega))
      subst hspot
      refine ⟨b, off, rfl, fun j hj => ?_⟩
      have hj' : j < len := by simpa using hj
      have := hcell j (by omega)
      have e : (⟨b, off, none⟩ : Addr).add j = ⟨b, off + j, none⟩ := by unfold Addr.add; split <;> simp_all
      rw [e] at this
      rw [this]
      simp [List.getD, hj']
end
end Go.Proofs.Ytknpfopepedmmaa.Fr
