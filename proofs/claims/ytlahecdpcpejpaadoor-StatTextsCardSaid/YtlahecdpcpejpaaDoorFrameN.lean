/-
  Arguments that are netlists (api.Net), opened.
-/
import Derived.Test.YtlahecdpcpejpaaDoorStructs
import Derived.Test.YtlahecdpcpejpaaDoorNetA
import Derived.Lib.SmallJoins
namespace Go.Proofs.YtlahecdpcpejpaaDoor
open Go Go.RowKit Go.ChangeShapes Go.WideShapes Go.Deep Go.Joins
set_option linter.unusedVariables false
section
variable {H : Type} {enc : TypeId × Value → H} {P : Program} {w : World}
theorem ints_trod {t e : TypeId} {fuel : Nat} {v : Value} {x : DataW H × List MemPlace} (ht : P.underlying t = some (.slice e)) (he : P.underlying e = some (.int .i64)) (hc : P.cellsOf e = 1)
    (h : DataW.trod enc P w 0 (fun _ => true) true fuel t [v] = some x) : ∃ zs, Ints w v zs := by
  rcases open_ints ht he hc h with ⟨hcs, hx⟩ | ⟨a, len, cap, zs, hcs, _, hl, hm, hz, hx, hcell, hwz⟩
  · simp at hcs
    subst hcs
    exact ⟨[], ints_nil w⟩
  · simp at hcs
    subst hcs
    simp at hz
    refine ⟨zs.take len, some a, cap, by rw [List.length_take, Nat.min_eq_left (by omega)], (fun h => by cases h), by rw [List.length_take]; omega, hm, ?_⟩
    by_cases h0 : len = 0
    · left; rw [h0]; rfl
    · right
      obtain ⟨b, off, rfl, hc'⟩ := ints_at hcell (by omega)
      refine ⟨b, off, rfl, fun j hj => ?_⟩
      rw [List.length_take] at hj
      rw [hc' j (by omega)]
      congr 2
      simp only [List.getD]
      rw [List.getElem?_take_of_lt (by omega)]
theorem seq_trod {α : Type} {R : World → Nat → Nat → α → Prop} (d0 : α) {t e : TypeId} {fs : Array Field} {fuel : Nat} {v : Value} {x : DataW H × List MemPlace} (ht : P.underlying t = some (.slice e)) (he : P.underlying e = some (.struct fs))
    (hone : oneCellFields P fs = true) (hC : P.cellsOf e = fs.size) (h0 : 0 < fs.size) (h : DataW.trod enc P w 0 (fun _ => true) true fuel t [v] = some x)
    (el : ∀ (b o n : Nat) (ys : List (DataW H × List MemPlace)), (∀ (j : Nat) (f : Field), fs[j]? = some f → ∃ (v : Value) (y : DataW H × List MemPlace), w.cell? ⟨b, o + j, none⟩ = some v ∧ ys[j]? = some y ∧ DataW.trod enc P w 0 (fun _ => true) true n f.type [v] = some y) → ∃ z : α, R w b o z) :
    ∃ xs, Seq w fs.size R d0 v xs := by
  rcases Fr.open_slice_fields ht he hone hC h with ⟨hcs, -⟩ | ⟨a, len, cap, m, D, Pl, hcs, -, hl, hm, hmm, -, hel⟩
  · simp at hcs
    subst hcs
    exact ⟨[], none, 0, rfl, by simp, by simp [maxLen], .inl rfl⟩
  · simp at hcs
    subst hcs
    simp at hmm
    subst hmm
    have hsp : 0 < len → a.spot = none := fun hl0 => by
      obtain ⟨ys, n, -, -, -, hj⟩ := hel 0 (by omega)
      obtain ⟨v0, y0, c0, -⟩ := hj 0 fs[0] (by simp [h0])
      have := World.cell?_spot c0
      simpa [Addr.add] using this
    have each : ∀ i, i < len → ∃ z : α, R w a.block (a.off + i * fs.size) z := fun i hi => by
      obtain ⟨ys, n, -, -, -, hj⟩ := hel i (by omega)
      refine el _ _ n ys fun j f hf => ?_
      obtain ⟨v0, y0, c0, h1, h2⟩ := hj j f hf
      refine ⟨v0, y0, ?_, h1, h2⟩
      have e : a.add (i * fs.size + j) = ⟨a.block, a.off + i * fs.size + j, none⟩ := by
        have hs := hsp (by omega)
        obtain ⟨b, off, spot⟩ := a
        subst hs
        unfold Addr.add
        simp [Nat.add_assoc]
      rw [← e]; exact c0
    obtain ⟨g, hg⟩ : ∃ g : Nat → α, ∀ i, i < len → R w a.block (a.off + i * fs.size) (g i) :=
      ⟨fun i => if h : i < len then (each i h).choose else d0, fun i hi => by simp only [hi, dif_pos]; exact (each i hi).choose_spec⟩
    refine ⟨(List.range len).map g, some a, m, by simp, by simpa using hl, hm, ?_⟩
    by_cases hz : len = 0
    · left; rw [hz]; rfl
    · right
      have hs := hsp (by omega)
      obtain ⟨b, off, spot⟩ := a
      subst hs
      refine ⟨b, off, rfl, fun j hj => ?_⟩
      have hj' : j < len := by simpa using hj
      have e : ((List.range len).map g).getD j d0 = g j := by simp [List.getD, hj']
      rw [e]
      exact hg j hj'
theorem open_agg8 {b0 : Nat} {t : TypeId} {f0 f1 f2 f3 f4 f5 f6 f7 : Field} {v : Value} {d : DataW H} {p : List MemPlace} (hs : P.underlying t = some (.struct #[f0, f1, f2, f3, f4, f5, f6, f7])) (hone : oneCellFields P #[f0, f1, f2, f3, f4, f5, f6, f7] = true) (hC : P.cellsOf t = 8)
    (hv : Value.okWide P w .any b0 t v) (h : DataW.Trod enc P w 0 (fun _ => true) true t v d p) :
    ∃ (v0 v1 v2 v3 v4 v5 v6 v7 : Value) (y0 y1 y2 y3 y4 y5 y6 y7 : DataW H × List MemPlace) (n : Nat), v = .agg #[v0, v1, v2, v3, v4, v5, v6, v7] ∧
      DataW.trod enc P w 0 (fun _ => true) true n f0.type [v0] = some y0 ∧ DataW.trod enc P w 0 (fun _ => true) true n f1.type [v1] = some y1 ∧ DataW.trod enc P w 0 (fun _ => true) true n f2.type [v2] = some y2 ∧ DataW.trod enc P w 0 (fun _ => true) true n f3.type [v3] = some y3 ∧
      DataW.trod enc P w 0 (fun _ => true) true n f4.type [v4] = some y4 ∧ DataW.trod enc P w 0 (fun _ => true) true n f5.type [v5] = some y5 ∧ DataW.trod enc P w 0 (fun _ => true) true n f6.type [v6] = some y6 ∧ DataW.trod enc P w 0 (fun _ => true) true n f7.type [v7] = some y7 := by
  obtain ⟨cs, rfl, hsz⟩ := okWide_struct hs hv
  obtain ⟨l⟩ := cs
  match l, hsz.trans hC with
  | [c0, c1, c2, c3, c4, c5, c6, c7], _ =>
    obtain ⟨fuel, hf⟩ := h
    obtain ⟨xs, n, _, hx, _, hlen, hg⟩ := DataW.trod_struct hs hf
    obtain ⟨o0, k0⟩ := hone_of hone 0 f0 rfl
    obtain ⟨o1, k1⟩ := hone_of hone 1 f1 rfl
    obtain ⟨o2, k2⟩ := hone_of hone 2 f2 rfl
    obtain ⟨o3, k3⟩ := hone_of hone 3 f3 rfl
    obtain ⟨o4, k4⟩ := hone_of hone 4 f4 rfl
    obtain ⟨o5, k5⟩ := hone_of hone 5 f5 rfl
    obtain ⟨o6, k6⟩ := hone_of hone 6 f6 rfl
    obtain ⟨o7, k7⟩ := hone_of hone 7 f7 rfl
    match xs, hlen with
    | [y0, y1, y2, y3, y4, y5, y6, y7], _ =>
      exact ⟨c0, c1, c2, c3, c4, c5, c6, c7, y0, y1, y2, y3, y4, y5, y6, y7, n, rfl, by simpa [Value.cells, o0, k0] using hg 0 f0 rfl, by simpa [Value.cells, o1, k1] using hg 1 f1 rfl, by simpa [Value.cells, o2, k2] using hg 2 f2 rfl, by simpa [Value.cells, o3, k3] using hg 3 f3 rfl,
        by simpa [Value.cells, o4, k4] using hg 4 f4 rfl, by simpa [Value.cells, o5, k5] using hg 5 f5 rfl, by simpa [Value.cells, o6, k6] using hg 6 f6 rfl, by simpa [Value.cells, o7, k7] using hg 7 f7 rfl⟩
end
section
variable {H : Type} {enc : TypeId × Value → H} {w : World}
theorem int_cell {t : TypeId} {n : Nat} {v : Value} {y : DataW H × List MemPlace} (ht : Tryd.prog.underlying t = some (.int .i64)) (h : DataW.trod enc Tryd.prog w 0 (fun _ => true) true n t [v] = some y) : ∃ z, v = .int .i64 z := by
  obtain ⟨z, e, -⟩ := DataW.trod_int ht h
  simp at e
  exact ⟨z, e⟩
theorem tri_seq {t e : TypeId} {fs : Array Field} {fuel : Nat} {v : Value} {x : DataW H × List MemPlace} (ht : Tryd.prog.underlying t = some (.slice e)) {f0 f1 f2 : Field} (he : Tryd.prog.underlying e = some (.struct #[f0, f1, f2]))
    (hone : oneCellFields Tryd.prog #[f0, f1, f2] = true) (hC : Tryd.prog.cellsOf e = 3) (h0 : Tryd.prog.underlying f0.type = some (.int .i64)) (h1 : Tryd.prog.underlying f1.type = some (.int .i64)) (h2 : Tryd.prog.underlying f2.type = some (.int .i64))
    (h : DataW.trod enc Tryd.prog w 0 (fun _ => true) true fuel t [v] = some x) : ∃ xs, Seq w 3 TriR tri0 v xs :=
  seq_trod (R := TriR) tri0 ht he hone (by rw [hC]; rfl) (Nat.zero_lt_succ _) h fun b o n ys hj => by
    obtain ⟨v0, y0, c0, -, t0⟩ := hj 0 f0 rfl
    obtain ⟨v1, y1, c1, -, t1⟩ := hj 1 f1 rfl
    obtain ⟨v2, y2, c2, -, t2⟩ := hj 2 f2 rfl
    obtain ⟨z0, rfl⟩ := int_cell h0 t0
    obtain ⟨z1, rfl⟩ := int_cell h1 t1
    obtain ⟨z2, rfl⟩ := int_cell h2 t2
    exact ⟨(z0, z1, z2), c0, c1, c2⟩
theorem rd_seq {fuel : Nat} {v : Value} {x : DataW H × List MemPlace} (h : DataW.trod enc Tryd.prog w 0 (fun _ => true) true fuel 50 [v] = some x) : ∃ xs, Seq w 2 RdR rd0 v xs :=
  seq_trod (R := RdR) rd0 Tryd.underlying50 Tryd.underlying65 (by kernel_rfl) (by kernel_rfl) (Nat.zero_lt_succ _) h fun b o n ys hj => by
    obtain ⟨v0, y0, c0, -, t0⟩ := hj 0 _ rfl
    obtain ⟨v1, y1, c1, -, t1⟩ := hj 1 _ rfl
    obtain ⟨z0, rfl⟩ := int_cell Tryd.underlying3 t0
    obtain ⟨z1, h1⟩ := ints_trod Tryd.underlying23 Tryd.underlying3 (by kernel_rfl) t1
    exact ⟨(z0, z1), c0, v1, c1, h1⟩
theorem wr_seq {fuel : Nat} {v : Value} {x : DataW H × List MemPlace} (h : DataW.trod enc Tryd.prog w 0 (fun _ => true) true fuel 51 [v] = some x) : ∃ xs, Seq w 3 WrR wr0 v xs :=
  seq_trod (R := WrR) wr0 Tryd.underlying51 Tryd.underlying67 (by kernel_rfl) (by kernel_rfl) (Nat.zero_lt_succ _) h fun b o n ys hj => by
    obtain ⟨v0, y0, c0, -, t0⟩ := hj 0 _ rfl
    obtain ⟨v1, y1, c1, -, t1⟩ := hj 1 _ rfl
    obtain ⟨v2, y2, c2, -, t2⟩ := hj 2 _ rfl
    obtain ⟨z0, rfl⟩ := int_cell Tryd.underlying3 t0
    obtain ⟨z1, h1⟩ := ints_trod Tryd.underlying23 Tryd.underlying3 (by kernel_rfl) t1
    obtain ⟨z2, h2⟩ := ints_trod Tryd.underlying23 Tryd.underlying3 (by kernel_rfl) t2
    exact ⟨(z0, z1, z2), c0, ⟨v1, c1, h1⟩, v2, c2, h2⟩
theorem mem_seq {fuel : Nat} {v : Value} {x : DataW H × List MemPlace} (h : DataW.trod enc Tryd.prog w 0 (fun _ => true) true fuel 25 [v] = some x) : ∃ xs, Seq w 5 MemR mem0 v xs :=
  seq_trod (R := MemR) mem0 Tryd.underlying25 Tryd.underlying53 (by kernel_rfl) (by kernel_rfl) (Nat.zero_lt_succ _) h fun b o n ys hj => by
    obtain ⟨v0, y0, c0, -, t0⟩ := hj 0 _ rfl
    obtain ⟨v1, y1, c1, -, t1⟩ := hj 1 _ rfl
    obtain ⟨v2, y2, c2, -, t2⟩ := hj 2 _ rfl
    obtain ⟨v3, y3, c3, -, t3⟩ := hj 3 _ rfl
    obtain ⟨v4, y4, c4, -, t4⟩ := hj 4 _ rfl
    obtain ⟨z0, rfl⟩ := int_cell Tryd.underlying3 t0
    obtain ⟨z1, rfl⟩ := int_cell Tryd.underlying3 t1
    obtain ⟨z2, e2, -⟩ := DataW.trod_bool Tryd.underlying4 t2
    simp at e2
    subst e2
    obtain ⟨z3, h3⟩ := rd_seq t3
    obtain ⟨z4, h4⟩ := wr_seq t4
    exact ⟨⟨z0, z1, z2, z3, z4⟩, c0, c1, c2, ⟨v3, c3, h3⟩, v4, c4, h4⟩
set_option maxRecDepth 100000 in
/-- A netlist's argument. -/
theorem net_of {v : Value} {dd : DataW H} {p : List MemPlace} (h : DataW.Trod enc Tryd.prog w 0 (fun _ => true) true 28 v dd p) (hv : ∃ b, Value.okWide Tryd.prog w .any b 28 v) :
    ∃ (d : NetD) (vi vl vo vb vc vm va : Value), v = netV d vi vl vo vb vc vm va ∧ NetP w d vi vl vo vb vc vm va := by
  obtain ⟨b0, hv⟩ := hv
  obtain ⟨v0, v1, v2, v3, v4, v5, v6, v7, y0, y1, y2, y3, y4, y5, y6, y7, n, rfl, t0, t1, t2, t3, t4, t5, t6, t7⟩ := open_agg8 Tryd.underlying28 (by kernel_rfl) (by kernel_rfl) hv h
  obtain ⟨z0, rfl⟩ := int_cell Tryd.underlying3 t0
  obtain ⟨z1, h1⟩ := ints_trod Tryd.underlying23 Tryd.underlying3 (by kernel_rfl) t1
  obtain ⟨z2, h2⟩ := tri_seq (fs := #[]) Tryd.underlying24 Tryd.underlying70 (by kernel_rfl) (by kernel_rfl) Tryd.underlying3 Tryd.underlying3 Tryd.underlying3 t2
  obtain ⟨z3, h3⟩ := ints_trod Tryd.underlying23 Tryd.underlying3 (by kernel_rfl) t3
  obtain ⟨z4, h4⟩ := ints_trod Tryd.underlying23 Tryd.underlying3 (by kernel_rfl) t4
  obtain ⟨z5, h5⟩ := ints_trod Tryd.underlying23 Tryd.underlying3 (by kernel_rfl) t5
  obtain ⟨z6, h6⟩ := mem_seq t6
  obtain ⟨z7, h7⟩ := tri_seq (fs := #[]) Tryd.underlying26 Tryd.underlying93 (by kernel_rfl) (by kernel_rfl) Tryd.underlying3 Tryd.underlying3 Tryd.underlying3 t7
  exact ⟨⟨z0, z1, z2, z3, z4, z5, z6, z7⟩, v1, v2, v3, v4, v5, v6, v7, rfl, ⟨h1, h2, h3, h4, h5, h6, h7⟩⟩
end
end Go.Proofs.YtlahecdpcpejpaaDoor
