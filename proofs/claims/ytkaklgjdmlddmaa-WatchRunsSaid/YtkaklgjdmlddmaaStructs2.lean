/-
  Arguments that are slices of structs of two integers.
-/
import Derived.Test.YtkaklgjdmlddmaaStructs
namespace Go.Proofs.Ytkaklgjdmlddmaa.Fr
open Go Go.RowKit Go.ChangeShapes Go.WideShapes Go.Deep
section
variable {H : Type} {enc : TypeId × Value → H} {P : Program} {w : World}
theorem structs2 {t e : TypeId} {f0 f1 : Field} {k : IntKind} {v : Value} {d : DataW H} {p : List MemPlace} (ht : P.underlying t = some (.slice e)) (he : P.underlying e = some (.struct #[f0, f1]))
    (hone : oneCellFields P #[f0, f1] = true) (hC : P.cellsOf e = 2) (h0 : P.underlying f0.type = some (.int k)) (h1 : P.underlying f1.type = some (.int k))
    (hv : ∃ b, Value.okWide P w .any b t v) (h : DataW.Trod enc P w 0 (fun _ => true) true t v d p) :
    ∃ a cap, ∃ xs : List (Int × Int), v = .slice a xs.length cap ∧ xs.length ≤ cap ∧ cap ≤ maxLen ∧ (∀ p ∈ xs, (Lit.int k p.1).wf = true ∧ (Lit.int k p.2).wf = true) ∧ (xs = [] ∨ ∃ b off, a = some ⟨b, off, none⟩ ∧ b < w.heap.size ∧ ∀ j, j < xs.length →
      w.cell? ⟨b, off + j * 2, none⟩ = some (.int k (xs.getD j (0, 0)).1) ∧ w.cell? ⟨b, off + j * 2 + 1, none⟩ = some (.int k (xs.getD j (0, 0)).2)) := by
  obtain ⟨b0, hv⟩ := hv
  obtain ⟨a0, len, cap, rfl⟩ := okWide_slice ht hv
  obtain ⟨fuel, hf⟩ := h
  rcases open_slice_fields ht he hone (by rw [hC]; rfl) hf with ⟨hcs, -⟩ | ⟨a, len', cap', m, D, Pl, hcs, -, hl, hm, hmm, -, hel⟩
  · simp [Value.cells] at hcs
    obtain ⟨rfl, rfl, rfl⟩ := hcs
    exact ⟨none, 0, [], rfl, by simp, by simp [maxLen], by simp, .inl rfl⟩
  · simp [Value.cells] at hcs
    obtain ⟨rfl, rfl, rfl⟩ := hcs
    simp at hmm
    subst hmm
    have each : ∀ i, i < len → ∃ x : Int × Int, w.cell? (a.add (i * 2)) = some (.int k x.1) ∧ w.cell? (a.add (i * 2 + 1)) = some (.int k x.2) ∧ (Lit.int k x.1).wf = true ∧ (Lit.int k x.2).wf = true := by
      intro i hi
      obtain ⟨ys, n, -, -, -, hj⟩ := hel i (by omega)
      obtain ⟨v0, y0, c0, -, t0⟩ := hj 0 f0 rfl
      obtain ⟨v1, y1, c1, -, t1⟩ := hj 1 f1 rfl
      obtain ⟨x0, e0, -, w0⟩ := DataW.trod_int h0 t0
      obtain ⟨x1, e1, -, w1⟩ := DataW.trod_int h1 t1
      simp at e0 e1
      subst e0 e1
      exact ⟨(x0, x1), c0, c1, w0, w1⟩
    obtain ⟨g, hg⟩ : ∃ g : Nat → Int × Int, ∀ i, i < len → w.cell? (a.add (i * 2)) = some (.int k (g i).1) ∧ w.cell? (a.add (i * 2 + 1)) = some (.int k (g i).2) ∧ (Lit.int k (g i).1).wf = true ∧ (Lit.int k (g i).2).wf = true :=
      ⟨fun i => if h : i < len then (each i h).choose else (0, 0), fun i hi => by simp only [hi, dif_pos]; exact (each i hi).choose_spec⟩
    refine ⟨some a, m, (List.range len).map g, by simp, by simpa using hl, hm, fun p hp => ?_, ?_⟩
    · simp only [List.mem_map, List.mem_range] at hp
      obtain ⟨i, hi, rfl⟩ := hp
      exact (hg i hi).2.2
    by_cases hz : len = 0
    · left; rw [hz]; rfl
    · right
      obtain ⟨b, off, spot⟩ := a
      have hsp : spot = none := by
        have := (hg 0 (by omega)).1
        simpa [Addr.add] using World.cell?_spot this
      subst hsp
      have hadd : ∀ j, (⟨b, off, none⟩ : Addr).add j = ⟨b, off + j, none⟩ := fun j => by unfold Addr.add; split <;> simp_all
      refine ⟨b, off, rfl, ?_, fun j hj => ?_⟩
      · have := (hg 0 (by omega)).1
        have := World.block_lt_of_cell? w _ this
        rw [hadd] at this; exact this
      · have hj' : j < len := by simpa using hj
        obtain ⟨q0, q1, -⟩ := hg j hj'
        rw [hadd] at q0 q1
        have e : ((List.range len).map g).getD j (0, 0) = g j := by simp [List.getD, hj']
        rw [e]
        exact ⟨q0, by rw [Nat.add_assoc]; exact q1⟩
end
end Go.Proofs.Ytkaklgjdmlddmaa.Fr
