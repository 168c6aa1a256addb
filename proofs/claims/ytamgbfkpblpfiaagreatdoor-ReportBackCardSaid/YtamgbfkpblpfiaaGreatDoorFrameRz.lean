/-
  Arguments that are reports (api.Report), opened; without the law of prints.
-/
import Derived.Test.YtamgbfkpblpfiaaGreatDoorFrameT
import Derived.Test.YtamgbfkpblpfiaaGreatDoorRpH
namespace Go.Proofs.YtamgbfkpblpfiaaGreatDoor
open Go Go.RowKit Go.ChangeShapes Go.WideShapes Go.Deep
set_option linter.unusedVariables false
section
variable {H : Type} {enc : TypeId × Value → H} {w : World}
set_option maxRecDepth 100000 in
theorem ints_trod {t e : TypeId} {fuel : Nat} {v : Value} {x : DataW H × List MemPlace} (ht : Tryz.prog.underlying t = some (.slice e)) (he : Tryz.prog.underlying e = some (.int .i64)) (hc : Tryz.prog.cellsOf e = 1)
    (h : DataW.trod enc Tryz.prog w 0 (fun _ => true) true fuel t [v] = some x) : ∃ zs, Ints w v zs := by
  rcases open_ints ht he hc h with ⟨hcs, hx⟩ | ⟨a, len, cap, zs, hcs, _, hl, hm, hz, hx, hcell, hwz⟩
  · simp at hcs
    subst hcs
    exact ⟨[], ints_nil w⟩
  · simp at hcs
    subst hcs
    simp at hz
    refine ⟨zs.take len, some a, cap, by rw [List.length_take, Nat.min_eq_left (by omega)], (fun h => by cases h), by rw [List.length_take]; omega, hm, ?_⟩
    by_cases h0 : len = 0
    · left; rw [h0]; rfl
    · right
      obtain ⟨b, off, rfl, hc'⟩ := ints_at hcell (by omega)
      refine ⟨b, off, rfl, fun j hj => ?_⟩
      rw [List.length_take] at hj
      rw [hc' j (by omega)]
      congr 2
      simp only [List.getD]
      rw [List.getElem?_take_of_lt (by omega)]
set_option maxRecDepth 100000 in
theorem int_cell {t : TypeId} {n : Nat} {v : Value} {y : DataW H × List MemPlace} (ht : Tryz.prog.underlying t = some (.int .i64)) (h : DataW.trod enc Tryz.prog w 0 (fun _ => true) true n t [v] = some y) : ∃ z, v = .int .i64 z := by
  obtain ⟨z, e, -⟩ := DataW.trod_int ht h
  simp at e
  exact ⟨z, e⟩
set_option maxRecDepth 100000 in
theorem rp_of {v : Value} {dd : DataW H} {p : List MemPlace} (hv : ∃ b, Value.okWide Tryz.prog w .any b 33 v) (h : DataW.Trod enc Tryz.prog w 0 (fun _ => true) true 33 v dd p) : ∃ (d : RpD) (vl vm vi vp : Value), v = rpV d vl vm vi vp ∧ RpP w d vl vm vi vp := by
  obtain ⟨b0, hv⟩ := hv
  obtain ⟨cs, rfl, hsz⟩ := okWide_struct Tryz.underlying33 hv
  have s : Tryz.prog.cellsOf 33 = 12 := by kernel_rfl
  have s0 : Tryz.prog.cellsOf 3 = 1 := by kernel_rfl
  have s1 : Tryz.prog.cellsOf 23 = 1 := by kernel_rfl
  have s2 : Tryz.prog.cellsOf 30 = 4 := by kernel_rfl
  have s3 : Tryz.prog.cellsOf 4 = 1 := by kernel_rfl
  have s4 : Tryz.prog.cellsOf 31 = 1 := by kernel_rfl
  obtain ⟨l⟩ := cs
  match l, hsz.trans s with
  | [c0, c1, c2, c3, c4, c5, c6, c7, c8, c9, c10, c11], _ =>
    obtain ⟨fuel, hf⟩ := h
    obtain ⟨xs, n, -, -, -, hlen, hg⟩ := DataW.trod_struct Tryz.underlying33 hf
    match xs, hlen with
    | [y0, y1, y2, y3, y4, y5, y6, y7, y8], _ =>
      have h0 := hg 0 _ rfl
      have h1 := hg 1 _ rfl
      have h2 := hg 2 _ rfl
      have h3 := hg 3 _ rfl
      have h4 := hg 4 _ rfl
      have h5 := hg 5 _ rfl
      have h6 := hg 6 _ rfl
      have h7 := hg 7 _ rfl
      have h8 := hg 8 _ rfl
      simp [Value.cells, s0, s1, s2, s3, s4] at h0 h1 h2 h3 h4 h5 h6 h7 h8
      obtain ⟨z0, rfl⟩ := int_cell Tryz.underlying3 h0
      obtain ⟨z1, rfl⟩ := int_cell Tryz.underlying3 h1
      obtain ⟨z2, rfl⟩ := int_cell Tryz.underlying23 h2
      obtain ⟨z3, rfl⟩ := int_cell Tryz.underlying3 h3
      obtain ⟨tr, rfl, htr⟩ := tr_trod h4
      obtain ⟨z5, rfl⟩ := int_cell Tryz.underlying3 h5
      obtain ⟨z6, rfl⟩ := int_cell Tryz.underlying3 h6
      obtain ⟨z7, e7, -⟩ := DataW.trod_bool Tryz.underlying4 h7
      simp at e7
      subst e7
      obtain ⟨z8, h8⟩ := ints_trod Tryz.underlying31 Tryz.underlying3 (by kernel_rfl) h8
      exact ⟨⟨z0, z1, z2, z3, tr, z5, z6, z7, z8⟩, c4, c5, c6, c11, rfl, ⟨htr, h8⟩⟩
end
end Go.Proofs.YtamgbfkpblpfiaaGreatDoor
