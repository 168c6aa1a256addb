/-
  Arguments that are witnesses (api.Trace), opened.
-/
import Derived.Test.YtamgbfkpblpfiaaGreatDoorStructs
import Derived.Test.YtamgbfkpblpfiaaGreatDoorFrame
import Derived.Test.YtamgbfkpblpfiaaGreatDoorTrA
import Derived.Deep.Grids
namespace Go.Proofs.YtamgbfkpblpfiaaGreatDoor
open Go Go.RowKit Go.ChangeShapes Go.WideShapes Go.Deep
set_option linter.unusedVariables false
section
variable {H : Type} {enc : TypeId × Value → H} {w : World}
theorem lit_wf {x : Int} (h : (Lit.int .u64 x).wf = true) : wf x := by
  have := bounds_u64 h
  exact ⟨this.1, by omega⟩
theorem add_off (a : Addr) (h : a.spot = none) (j : Nat) : a.add j = ⟨a.block, a.off + j, none⟩ := by
  obtain ⟨b, off, spot⟩ := a
  simp only at h
  subst h
  unfold Addr.add; split <;> simp_all
/-- A slice of elements of one cell, each told by what opens its value. -/
theorem seq1_trod {α : Type} {RR : World → Value → α → Prop} (d0 : α) {t e : TypeId} {fuel : Nat} {v : Value} {x : DataW H × List MemPlace} (ht : Tryz.prog.underlying t = some (.slice e)) (hc : Tryz.prog.cellsOf e = 1)
    (h : DataW.trod enc Tryz.prog w 0 (fun _ => true) true fuel t [v] = some x)
    (el : ∀ (n : Nat) (u : Value) (y : DataW H × List MemPlace), DataW.trod enc Tryz.prog w 0 (fun _ => true) true n e [u] = some y → ∃ z : α, RR w u z) :
    ∃ xs : List α, Seq w 1 (fun w b o z => ∃ u, w.cell? ⟨b, o, none⟩ = some u ∧ RR w u z) d0 v xs := by
  rcases open_slice1 ht hc h with ⟨hcs, -⟩ | ⟨a, len, cap, m, n, V, D, Pl, hcs, -, hl, hm, hmm, -, hel⟩
  · simp at hcs
    subst hcs
    exact ⟨[], Seq.nil _ _ _ _⟩
  · simp at hcs
    subst hcs
    simp at hmm
    subst hmm
    have each : ∀ i, i < len → ∃ z : α, RR w (V i) z := fun i hi => el _ _ _ (hel i (by omega)).2
    obtain ⟨g, hg⟩ : ∃ g : Nat → α, ∀ i, i < len → RR w (V i) (g i) :=
      ⟨fun i => if h : i < len then (each i h).choose else d0, fun i hi => by simp only [hi, dif_pos]; exact (each i hi).choose_spec⟩
    refine ⟨(List.range len).map g, some a, m, by simp, by simpa using hl, hm, ?_⟩
    by_cases hz : len = 0
    · left; rw [hz]; rfl
    · right
      have hsp : a.spot = none := by
        have := World.cell?_spot (hel 0 (by omega)).1
        simpa [Addr.add] using this
      refine ⟨a.block, a.off, ?_, fun j hj => ?_⟩
      · obtain ⟨b, off, spot⟩ := a
        simp only at hsp
        subst hsp
        rfl
      · have hj' : j < len := by simpa using hj
        have e : ((List.range len).map g).getD j d0 = g j := by simp [List.getD, hj']
        rw [e, Nat.mul_one]
        have := (hel j (by omega)).1
        rw [add_off a hsp] at this
        exact ⟨V j, this, hg j hj'⟩
theorem bo_trod {t e : TypeId} {fuel : Nat} {v : Value} {x : DataW H × List MemPlace} (ht : Tryz.prog.underlying t = some (.slice e)) (he : Tryz.prog.underlying e = some .bool) (hc : Tryz.prog.cellsOf e = 1)
    (h : DataW.trod enc Tryz.prog w 0 (fun _ => true) true fuel t [v] = some x) : ∃ l, Bo w v l := by
  obtain ⟨xs, a, cap, h1, h2, h3, h4⟩ := seq1_trod (RR := fun _ u z => u = .bool z) false ht hc h fun n u y hy => by
    obtain ⟨z, e1, -⟩ := DataW.trod_bool he hy
    simp at e1
    exact ⟨z, e1⟩
  refine ⟨xs, a, cap, h1, h2, h3, h4.elim .inl fun ⟨b, off, h5, h6⟩ => .inr ⟨b, off, h5, fun j hj => ?_⟩⟩
  obtain ⟨u, hu, e1⟩ := h6 j hj
  subst e1
  exact hu
theorem pairs_trod {fuel : Nat} {v : Value} {x : DataW H × List MemPlace} (h : DataW.trod enc Tryz.prog w 0 (fun _ => true) true fuel 119 [v] = some x) : ∃ l, Pairs w v l := by
  rcases Fr.open_slice_fields Tryz.underlying119 Tryz.underlying121 (by kernel_rfl) (by kernel_rfl) h with ⟨hcs, -⟩ | ⟨a, len, cap, m, D, Pl, hcs, -, hl, hm, hmm, -, hel⟩
  · simp at hcs
    subst hcs
    exact ⟨[], pairs_nil w⟩
  · simp at hcs
    subst hcs
    simp at hmm
    subst hmm
    have each : ∀ i, i < len → ∃ z : Int × Int, w.cell? (a.add (i * 2)) = some (.int .u64 z.1) ∧ w.cell? (a.add (i * 2 + 1)) = some (.int .u64 z.2) ∧ wf z.1 ∧ wf z.2 := fun i hi => by
      obtain ⟨ys, n, -, -, -, hj⟩ := hel i (by omega)
      obtain ⟨v0, y0, q0, -, t0⟩ := hj 0 _ rfl
      obtain ⟨v1, y1, q1, -, t1⟩ := hj 1 _ rfl
      obtain ⟨z0, e0, -, w0⟩ := DataW.trod_int Tryz.underlying82 t0
      obtain ⟨z1, e1, -, w1⟩ := DataW.trod_int Tryz.underlying82 t1
      simp at e0 e1
      subst e0 e1
      exact ⟨(z0, z1), q0, q1, lit_wf w0, lit_wf w1⟩
    obtain ⟨g, hg⟩ : ∃ g : Nat → Int × Int, ∀ i, i < len → w.cell? (a.add (i * 2)) = some (.int .u64 (g i).1) ∧ w.cell? (a.add (i * 2 + 1)) = some (.int .u64 (g i).2) ∧ wf (g i).1 ∧ wf (g i).2 :=
      ⟨fun i => if h : i < len then (each i h).choose else (0, 0), fun i hi => by simp only [hi, dif_pos]; exact (each i hi).choose_spec⟩
    refine ⟨(List.range len).map g, some a, m, by simp, by simpa using hl, hm, fun p hp => ?_, ?_⟩
    · obtain ⟨i, hi, rfl⟩ := List.mem_map.1 hp
      exact (hg i (List.mem_range.1 hi)).2.2
    · by_cases hz : len = 0
      · left; rw [hz]; rfl
      · right
        have hsp : a.spot = none := by
          have := World.cell?_spot (hg 0 (by omega)).1
          simpa [Addr.add] using this
        have hb : a.block < w.heap.size := by
          have h1 := (hg 0 (by omega)).1
          rw [add_off a hsp] at h1
          exact World.block_lt_of_cell? w (⟨a.block, a.off + 0 * 2, none⟩ : Addr) h1
        refine ⟨a.block, a.off, ?_, hb, fun j hj => ?_⟩
        · obtain ⟨b, off, spot⟩ := a
          simp only at hsp
          subst hsp
          rfl
        · have hj' : j < len := by simpa using hj
          have e : ((List.range len).map g).getD j (0, 0) = g j := by simp [List.getD, hj']
          rw [e]
          obtain ⟨q0, q1, -, -⟩ := hg j hj'
          rw [add_off a hsp] at q0 q1
          exact ⟨q0, by rw [Nat.add_assoc]; exact q1⟩
theorem ces_trod {fuel : Nat} {v : Value} {x : DataW H × List MemPlace} (h : DataW.trod enc Tryz.prog w 0 (fun _ => true) true fuel 25 [v] = some x) : ∃ l, Ces w v l :=
  seq1_trod (RR := Pairs) [] Tryz.underlying25 (by kernel_rfl) h fun n u y hy => pairs_trod hy
theorem bos_trod {fuel : Nat} {v : Value} {x : DataW H × List MemPlace} (h : DataW.trod enc Tryz.prog w 0 (fun _ => true) true fuel 28 [v] = some x) : ∃ l, Bos w v l :=
  seq1_trod (RR := fun w u l => Bo w u l) [] Tryz.underlying28 (by kernel_rfl) h fun n u y hy => bo_trod Tryz.underlying24 Tryz.underlying4 (by kernel_rfl) hy
/-- A witness's argument, by its cells. -/
theorem tr_trod {fuel : Nat} {c0 c1 c2 c3 : Value} {x : DataW H × List MemPlace} (h : DataW.trod enc Tryz.prog w 0 (fun _ => true) true fuel 30 [c0, c1, c2, c3] = some x) : ∃ d : TrD, c3 = .int .i64 d.bad ∧ TrP w d c0 c1 c2 := by
  obtain ⟨xs, n, -, -, -, hlen, hg⟩ := DataW.trod_struct Tryz.underlying30 h
  have s0 : Tryz.prog.cellsOf 27 = 2 := by kernel_rfl
  have s1 : Tryz.prog.cellsOf 28 = 1 := by kernel_rfl
  have s2 : Tryz.prog.cellsOf 3 = 1 := by kernel_rfl
  have s3 : Tryz.prog.cellsOf 24 = 1 := by kernel_rfl
  have s4 : Tryz.prog.cellsOf 25 = 1 := by kernel_rfl
  match xs, hlen with
  | [y0, y1, y2], _ =>
    have h0 := hg 0 _ rfl
    have h1 := hg 1 _ rfl
    have h2 := hg 2 _ rfl
    simp [s0, s1, s2] at h0 h1 h2
    obtain ⟨l3, h3⟩ := bos_trod h1
    obtain ⟨z, e3, -⟩ := DataW.trod_int Tryz.underlying3 h2
    simp at e3
    obtain ⟨xs', n', -, -, -, hlen', hg'⟩ := DataW.trod_struct Tryz.underlying27 h0
    match xs', hlen' with
    | [z0, z1], _ =>
      have k0 := hg' 0 _ rfl
      have k1 := hg' 1 _ rfl
      simp [s3, s4] at k0 k1
      obtain ⟨l1, q1⟩ := bo_trod Tryz.underlying24 Tryz.underlying4 (by kernel_rfl) k0
      obtain ⟨l2, q2⟩ := ces_trod k1
      exact ⟨⟨l1, l2, l3, z⟩, e3, ⟨q1, q2, h3⟩⟩
set_option maxRecDepth 100000 in
theorem tr_of {v : Value} {dd : DataW H} {p : List MemPlace} (hv : ∃ b, Value.okWide Tryz.prog w .any b 30 v) (h : DataW.Trod enc Tryz.prog w 0 (fun _ => true) true 30 v dd p) : ∃ (d : TrD) (vl vm vi : Value), v = trV d vl vm vi ∧ TrP w d vl vm vi := by
  obtain ⟨b0, hv⟩ := hv
  obtain ⟨cs, rfl, hsz⟩ := okWide_struct Tryz.underlying30 hv
  have s : Tryz.prog.cellsOf 30 = 4 := by kernel_rfl
  obtain ⟨l⟩ := cs
  match l, hsz.trans s with
  | [c0, c1, c2, c3], _ =>
    obtain ⟨fuel, hf⟩ := h
    obtain ⟨d, rfl, hp⟩ := tr_trod (by simpa [Value.cells] using hf)
    exact ⟨d, c0, c1, c2, rfl, hp⟩
end
end Go.Proofs.YtamgbfkpblpfiaaGreatDoor
