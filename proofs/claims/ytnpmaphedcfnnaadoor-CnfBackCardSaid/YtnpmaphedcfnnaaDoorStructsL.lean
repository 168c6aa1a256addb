/-
  Arguments that are slices of structs: a number, a list of numbers, a number.
-/
import Derived.Test.YtnpmaphedcfnnaaDoorStructs
import Derived.Test.YtnpmaphedcfnnaaDoorIntsB
namespace Go.Proofs.YtnpmaphedcfnnaaDoor
open Go Go.RowKit Go.ChangeShapes Go.WideShapes Go.Deep
abbrev ActC := Int × List Int × Int
/-- The slice v reads as these acts. -/
def ActsC (w : World) (v : Value) (xs : List ActC) : Prop :=
  ∃ a cap, v = .slice a xs.length cap ∧ xs.length ≤ cap ∧ cap ≤ maxLen ∧ (xs = [] ∨ ∃ b off, a = some ⟨b, off, none⟩ ∧ ∀ j, j < xs.length →
    w.cell? ⟨b, off + j * 3, none⟩ = some (.int .i64 (xs.getD j (0, [], 0)).1) ∧ (∃ u, w.cell? ⟨b, off + j * 3 + 1, none⟩ = some u ∧ Ints w u (xs.getD j (0, [], 0)).2.1) ∧ w.cell? ⟨b, off + j * 3 + 2, none⟩ = some (.int .i64 (xs.getD j (0, [], 0)).2.2))
section
variable {H : Type} {enc : TypeId × Value → H} {P : Program} {w : World}
theorem acts_of {t e : TypeId} {f0 f1 f2 : Field} {v : Value} {d : DataW H} {p : List MemPlace} {ei : TypeId} (ht : P.underlying t = some (.slice e)) (he : P.underlying e = some (.struct #[f0, f1, f2]))
    (hone : oneCellFields P #[f0, f1, f2] = true) (hC : P.cellsOf e = 3) (h0 : P.underlying f0.type = some (.int .i64)) (h1 : P.underlying f1.type = some (.slice ei)) (hei : P.underlying ei = some (.int .i64)) (hci : P.cellsOf ei = 1) (h2 : P.underlying f2.type = some (.int .i64))
    (hv : ∃ b, Value.okWide P w .any b t v) (h : DataW.Trod enc P w 0 (fun _ => true) true t v d p) :
    ∃ xs : List ActC, ActsC w v xs ∧ ∀ x ∈ xs, (Lit.int .i64 x.1).wf = true ∧ (Lit.int .i64 x.2.2).wf = true ∧ ∀ n ∈ x.2.1, (Lit.int .i64 n).wf = true := by
  obtain ⟨b0, hv⟩ := hv
  obtain ⟨a0, len, cap, rfl⟩ := okWide_slice ht hv
  obtain ⟨fuel, hf⟩ := h
  rcases Fr.open_slice_fields ht he hone (by rw [hC]; rfl) hf with ⟨hcs, -⟩ | ⟨a, len', cap', m, D, Pl, hcs, -, hl, hm, hmm, -, hel⟩
  · simp [Value.cells] at hcs
    obtain ⟨rfl, rfl, rfl⟩ := hcs
    exact ⟨[], ⟨none, 0, rfl, by simp, by simp [maxLen], .inl rfl⟩, by simp⟩
  · simp [Value.cells] at hcs
    obtain ⟨rfl, rfl, rfl⟩ := hcs
    simp at hmm
    subst hmm
    have each : ∀ i, i < len → ∃ x : ActC, w.cell? (a.add (i * 3)) = some (.int .i64 x.1) ∧ (∃ u, w.cell? (a.add (i * 3 + 1)) = some u ∧ Ints w u x.2.1) ∧ w.cell? (a.add (i * 3 + 2)) = some (.int .i64 x.2.2) ∧ (Lit.int .i64 x.1).wf = true ∧ (Lit.int .i64 x.2.2).wf = true ∧ ∀ n ∈ x.2.1, (Lit.int .i64 n).wf = true := by
      intro i hi
      obtain ⟨ys, n, -, -, -, hj⟩ := hel i (by omega)
      obtain ⟨v0, y0, c0, -, t0⟩ := hj 0 f0 rfl
      obtain ⟨v1, y1, c1, -, t1⟩ := hj 1 f1 rfl
      obtain ⟨v2, y2, c2, -, t2⟩ := hj 2 f2 rfl
      obtain ⟨x0, e0, -, w0⟩ := DataW.trod_int h0 t0
      obtain ⟨x2, e2, -, w2⟩ := DataW.trod_int h2 t2
      simp at e0 e2
      subst e0 e2
      rcases open_ints h1 hei hci t1 with ⟨hcs, hx⟩ | ⟨ia, ilen, icap, zs, hcs, _, hl, hm, hz, hx, hcell, hwz⟩
      · simp at hcs
        subst hcs
        exact ⟨(x0, [], x2), c0, ⟨_, c1, ints_nil w⟩, c2, w0, w2, by simp⟩
      · simp at hcs
        subst hcs
        simp at hz
        refine ⟨(x0, zs.take ilen, x2), c0, ⟨_, c1, ?_⟩, c2, w0, w2, fun n hn => hwz n (List.mem_of_mem_take hn)⟩
        refine ⟨some ia, icap, by rw [List.length_take, Nat.min_eq_left (by omega)], (fun h => by cases h), by rw [List.length_take]; omega, hm, ?_⟩
        by_cases h0 : ilen = 0
        · left; rw [h0]; rfl
        · right
          obtain ⟨b, off, rfl, hc'⟩ := ints_at hcell (by omega)
          refine ⟨b, off, rfl, fun j hj => ?_⟩
          rw [List.length_take] at hj
          rw [hc' j (by omega)]
          congr 2
          simp only [List.getD]
          rw [List.getElem?_take_of_lt (by omega)]
    obtain ⟨g, hg⟩ : ∃ g : Nat → ActC, ∀ i, i < len → w.cell? (a.add (i * 3)) = some (.int .i64 (g i).1) ∧ (∃ u, w.cell? (a.add (i * 3 + 1)) = some u ∧ Ints w u (g i).2.1) ∧ w.cell? (a.add (i * 3 + 2)) = some (.int .i64 (g i).2.2) ∧ (Lit.int .i64 (g i).1).wf = true ∧ (Lit.int .i64 (g i).2.2).wf = true ∧ ∀ n ∈ (g i).2.1, (Lit.int .i64 n).wf = true :=
      ⟨fun i => if h : i < len then (each i h).choose else (0, [], 0), fun i hi => by simp only [hi, dif_pos]; exact (each i hi).choose_spec⟩
    refine ⟨(List.range len).map g, ⟨some a, m, by simp, by simpa using hl, hm, ?_⟩, fun p hp => ?_⟩
    · by_cases hz : len = 0
      · left; rw [hz]; rfl
      · right
        obtain ⟨b, off, spot⟩ := a
        have hsp : spot = none := by
          have := (hg 0 (by omega)).1
          simpa [Addr.add] using World.cell?_spot this
        subst hsp
        have hadd : ∀ j, (⟨b, off, none⟩ : Addr).add j = ⟨b, off + j, none⟩ := fun j => by unfold Addr.add; split <;> simp_all
        refine ⟨b, off, rfl, fun j hj => ?_⟩
        have hj' : j < len := by simpa using hj
        obtain ⟨q0, ⟨u, q1, q1'⟩, q2, -⟩ := hg j hj'
        rw [hadd] at q0 q1 q2
        have e : ((List.range len).map g).getD j (0, [], 0) = g j := by simp [List.getD, hj']
        rw [e]
        exact ⟨q0, ⟨u, by rw [Nat.add_assoc]; exact q1, q1'⟩, by rw [Nat.add_assoc]; exact q2⟩
    · simp only [List.mem_map, List.mem_range] at hp
      obtain ⟨i, hi, rfl⟩ := hp
      exact ⟨(hg i hi).2.2.2.1, (hg i hi).2.2.2.2.1, (hg i hi).2.2.2.2.2⟩
end
end Go.Proofs.YtnpmaphedcfnnaaDoor
