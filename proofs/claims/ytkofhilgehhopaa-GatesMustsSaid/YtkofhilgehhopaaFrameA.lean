/-
  Arguments that are lists of acts of chapter 27.
-/
import Derived.Test.YtkofhilgehhopaaFrameS
import Derived.Test.YtkofhilgehhopaaStructs
import Derived.Test.YtkofhilgehhopaaGvE
import Derived.Deep.Grids
namespace Go.Proofs.Ytkofhilgehhopaa.Fr
open Go Go.RowKit Go.ChangeShapes Go.WideShapes Go.Deep
set_option linter.unusedVariables false
section
variable {H : Type} {enc : TypeId × Value → H} {P : Program} {w : World}
theorem acts_of {t e : TypeId} {f0 f1 f2 f3 : Field} {v : Value} {d : DataW H} {p : List MemPlace} {ei eb : TypeId} (ht : P.underlying t = some (.slice e)) (he : P.underlying e = some (.struct #[f0, f1, f2, f3]))
    (hone : oneCellFields P #[f0, f1, f2, f3] = true) (hC : P.cellsOf e = 4) (h0 : P.underlying f0.type = some (.int .i64)) (h1 : P.underlying f1.type = some (.slice ei)) (hei : P.underlying ei = some (.int .i64)) (hci : P.cellsOf ei = 1)
    (h2 : P.underlying f2.type = some (.slice eb)) (heb : P.underlying eb = some .bool) (hcb : P.cellsOf eb = 1) (h3 : P.underlying f3.type = some .bool)
    (hv : ∃ b, Value.okWide P w .any b t v) (h : DataW.Trod enc P w 0 (fun _ => true) true t v d p) : ∃ xs : List ActD, ActsS w v xs := by
  obtain ⟨b0, hv⟩ := hv
  obtain ⟨a0, len, cap, rfl⟩ := okWide_slice ht hv
  obtain ⟨fuel, hf⟩ := h
  rcases Fr.open_slice_fields ht he hone (by rw [hC]; rfl) hf with ⟨hcs, -⟩ | ⟨a, len', cap', m, D, Pl, hcs, -, hl, hm, hmm, -, hel⟩
  · simp [Value.cells] at hcs
    obtain ⟨rfl, rfl, rfl⟩ := hcs
    exact ⟨[], none, 0, rfl, by simp, by simp [maxLen], .inl rfl⟩
  · simp [Value.cells] at hcs
    obtain ⟨rfl, rfl, rfl⟩ := hcs
    simp at hmm
    subst hmm
    have each : ∀ i, i < len → ∃ x : ActD, w.cell? (a.add (i * 4)) = some (.int .i64 x.k) ∧ (∃ u, w.cell? (a.add (i * 4 + 1)) = some u ∧ Ints w u x.at_) ∧ (∃ u, w.cell? (a.add (i * 4 + 2)) = some u ∧ Bools w u x.neg) ∧ w.cell? (a.add (i * 4 + 3)) = some (.bool x.fr) := by
      intro i hi
      obtain ⟨ys, n, -, -, -, hj⟩ := hel i (by omega)
      obtain ⟨v0, y0, c0, -, t0⟩ := hj 0 f0 rfl
      obtain ⟨v1, y1, c1, -, t1⟩ := hj 1 f1 rfl
      obtain ⟨v2, y2, c2, -, t2⟩ := hj 2 f2 rfl
      obtain ⟨v3, y3, c3, -, t3⟩ := hj 3 f3 rfl
      obtain ⟨x0, e0, -⟩ := DataW.trod_int h0 t0
      simp at e0
      subst e0
      obtain ⟨x3, e3, -⟩ := DataW.trod_bool h3 t3
      simp at e3
      subst e3
      have k1 : ∃ l, Ints w v1 l := by
        rcases open_ints h1 hei hci t1 with ⟨hcs, hx⟩ | ⟨ia, ilen, icap, zs, hcs, _, hl, hm, hz, hx, hcell, hwz⟩
        · simp at hcs
          subst hcs
          exact ⟨[], ints_nil w⟩
        · simp at hcs
          subst hcs
          simp at hz
          refine ⟨zs.take ilen, some ia, icap, by rw [List.length_take, Nat.min_eq_left (by omega)], (fun h => by cases h), by rw [List.length_take]; omega, hm, ?_⟩
          by_cases h0 : ilen = 0
          · left; rw [h0]; rfl
          · right
            obtain ⟨b, off, rfl, hc'⟩ := ints_at hcell (by omega)
            refine ⟨b, off, rfl, fun j hj => ?_⟩
            rw [List.length_take] at hj
            rw [hc' j (by omega)]
            congr 2
            simp only [List.getD]
            rw [List.getElem?_take_of_lt (by omega)]
      have k2 : ∃ l, Bools w v2 l := by
        rcases open_bools h2 heb hcb t2 with ⟨hcs, -⟩ | ⟨ba, blen, bcap, Bf, hcs, _, hl, hm, -, hcell⟩
        · simp at hcs
          subst hcs
          exact ⟨[], none, 0, rfl, by simp, by simp [maxLen], .inl rfl⟩
        · simp at hcs
          subst hcs
          refine ⟨(List.range blen).map Bf, some ba, bcap, by simp, by simpa using hl, hm, ?_⟩
          by_cases h0 : blen = 0
          · left; rw [h0]; rfl
          · right
            obtain ⟨b, off, spot⟩ := ba
            have hspot : spot = none := by simpa [Addr.add] using World.cell?_spot (hcell 0 (by omega))
            subst hspot
            refine ⟨b, off, rfl, fun j hj => ?_⟩
            have hj' : j < blen := by simpa using hj
            have := hcell j (by omega)
            have e : (⟨b, off, none⟩ : Addr).add j = ⟨b, off + j, none⟩ := by unfold Addr.add; split <;> simp_all
            rw [e] at this
            rw [this]
            simp [List.getD, hj']
      obtain ⟨l1, k1⟩ := k1
      obtain ⟨l2, k2⟩ := k2
      exact ⟨⟨x0, l1, l2, x3⟩, c0, ⟨_, c1, k1⟩, ⟨_, c2, k2⟩, c3⟩
    obtain ⟨g, hg⟩ : ∃ g : Nat → ActD, ∀ i, i < len → w.cell? (a.add (i * 4)) = some (.int .i64 (g i).k) ∧ (∃ u, w.cell? (a.add (i * 4 + 1)) = some u ∧ Ints w u (g i).at_) ∧ (∃ u, w.cell? (a.add (i * 4 + 2)) = some u ∧ Bools w u (g i).neg) ∧ w.cell? (a.add (i * 4 + 3)) = some (.bool (g i).fr) :=
      ⟨fun i => if h : i < len then (each i h).choose else act0, fun i hi => by simp only [hi, dif_pos]; exact (each i hi).choose_spec⟩
    refine ⟨(List.range len).map g, some a, m, by simp, by simpa using hl, hm, ?_⟩
    by_cases hz : len = 0
    · left; rw [hz]; rfl
    · right
      obtain ⟨b, off, spot⟩ := a
      have hsp : spot = none := by
        have := (hg 0 (by omega)).1
        simpa [Addr.add] using World.cell?_spot this
      subst hsp
      have hadd : ∀ j, (⟨b, off, none⟩ : Addr).add j = ⟨b, off + j, none⟩ := fun j => by unfold Addr.add; split <;> simp_all
      refine ⟨b, off, rfl, fun j hj => ?_⟩
      have hj' : j < len := by simpa using hj
      obtain ⟨q0, ⟨u, q1, q1'⟩, ⟨u2, q2, q2'⟩, q3⟩ := hg j hj'
      rw [hadd] at q0 q1 q2 q3
      have e : ((List.range len).map g).getD j act0 = g j := by simp [List.getD, hj']
      rw [e]
      exact ⟨q0, ⟨u, by rw [Nat.add_assoc]; exact q1, q1'⟩, ⟨u2, by rw [Nat.add_assoc]; exact q2, q2'⟩, by rw [Nat.add_assoc]; exact q3⟩
end
section
variable {H : Type} {enc : TypeId × Value → H} {w : World}
set_option maxRecDepth 100000 in
theorem acts27_of {v : Value} {d : DataW H} {p : List MemPlace} (hv : ∃ b, Value.okWide Try.prog w .any b 35 v) (h : DataW.Trod enc Try.prog w 0 (fun _ => true) true 35 v d p) : ∃ xs, ActsS w v xs :=
  acts_of Try.underlying35 Try.underlying74 (by kernel_rfl) (by kernel_rfl) Try.underlying3 Try.underlying32 Try.underlying3 (by kernel_rfl) Try.underlying38 Try.underlying4 (by kernel_rfl) Try.underlying4 hv h
end
end Go.Proofs.Ytkofhilgehhopaa.Fr
