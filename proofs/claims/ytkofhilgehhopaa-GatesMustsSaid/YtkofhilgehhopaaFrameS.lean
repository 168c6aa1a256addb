/-
  An argument that is a slice of slices of integers: its lists.
-/
import Derived.Test.YtkofhilgehhopaaIntsS
import Derived.Test.YtkofhilgehhopaaFrame
import Derived.Deep.Matrix
namespace Go.Proofs.Ytkofhilgehhopaa.Fr
open Go Go.RowKit Go.ChangeShapes Go.WideShapes Go.Deep
section
variable {H : Type} {enc : TypeId × Value → H} {P : Program} {w : World}
theorem addr_off (a : Addr) (h : a.spot = none) (j : Nat) : a.add j = ⟨a.block, a.off + j, none⟩ := by
  obtain ⟨b, off, spot⟩ := a
  simp only at h
  subst h
  unfold Addr.add; split <;> simp_all
theorem intsS_of {t e q : TypeId} {v : Value} {d : DataW H} {p : List MemPlace} (ht : P.underlying t = some (.slice e)) (he : P.underlying e = some (.slice q)) (hq : P.underlying q = some (.int .i64)) (ce : P.cellsOf e = 1) (cq : P.cellsOf q = 1)
    (hv : ∃ b, Value.okWide P w .any b t v) (h : DataW.Trod enc P w 0 (fun _ => true) true t v d p) : ∃ xss : List (List Int), IntsS w v xss := by
  obtain ⟨b0, hv⟩ := hv
  obtain ⟨a0, len, cap, rfl⟩ := okWide_slice ht hv
  obtain ⟨fuel, hf⟩ := h
  rcases open_int_rows ht he hq ce cq hf with ⟨hcs, -⟩ | ⟨a, len', cap', A, L, C, Z, hcs, -, hl, hm, -, hel⟩
  · simp [Value.cells] at hcs
    obtain ⟨rfl, rfl, rfl⟩ := hcs
    exact ⟨[], intsS_nil w⟩
  · simp [Value.cells] at hcs
    obtain ⟨rfl, rfl, rfl⟩ := hcs
    refine ⟨(List.range len).map fun r => (Z r).take (L r), some a, cap, by simp, by simpa using hl, hm, ?_⟩
    by_cases hz : len = 0
    · left; rw [hz]; rfl
    · right
      have hsp : a.spot = none := by
        have := (hel 0 (by omega)).1
        have := World.cell?_spot this
        simpa [Addr.add] using this
      refine ⟨a.block, a.off, ?_, fun j hj => ?_⟩
      · obtain ⟨b, off, spot⟩ := a
        simp only at hsp
        subst hsp
        rfl
      · have hj' : j < len := by simpa using hj
        obtain ⟨q1, q2, q3, q4, -, q6, q7⟩ := hel j (by omega)
        rw [addr_off a hsp] at q1
        have e1 : ((List.range len).map fun r => (Z r).take (L r)).getD j [] = (Z j).take (L j) := by simp [List.getD, hj']
        rw [e1]
        have hlen : ((Z j).take (L j)).length = L j := by rw [List.length_take]; omega
        refine ⟨_, q1, A j, C j, by rw [hlen], q6, by rw [hlen]; exact q2, q3, ?_⟩
        by_cases h0 : L j = 0
        · left; rw [h0]; rfl
        · right
          cases hA : A j with
          | none => have := q6 hA; omega
          | some a' =>
            have hc := (q7 a' hA).2
            have hsp' : a'.spot = none := by
              have := World.cell?_spot (hc 0 (by omega))
              simpa [Addr.add] using this
            refine ⟨a'.block, a'.off, ?_, fun i hi => ?_⟩
            · obtain ⟨b, off, spot⟩ := a'
              simp only at hsp'
              subst hsp'
              rfl
            · rw [hlen] at hi
              have := hc i (by omega)
              rw [addr_off a' hsp'] at this
              rw [this]
              congr 2
              simp only [List.getD]
              rw [List.getElem?_take_of_lt (by omega)]
end
end Go.Proofs.Ytkofhilgehhopaa.Fr
