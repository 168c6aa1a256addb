/-
  Chapter 40: Hard walked; an argument of ten numbers; the law StatTexts.
-/
import Derived.Test.YtlahecdpcpejpaaDoorFkI
import Derived.Test.YtlahecdpcpejpaaDoorFkK
import Derived.Test.YtlahecdpcpejpaaDoorFkL
namespace Go.Proofs.YtlahecdpcpejpaaDoor
open Go Go.ChangeShapes Go.WideShapes Go.ChangeAt Go.RowKit
set_option linter.unusedVariables false
set_option linter.unusedSimpArgs false
attribute [local go_sem ↓] Go.wp_at_zero Go.wp_at_succ
/-- How great a formula may be, of what may be asked. -/
noncomputable def hardQ (d : NetD) (f : Int) : Int := if checkN d = 0 ∧ 0 ≤ f ∧ f ≤ 100 then hardN d f.toNat else 0
theorem hardQ_no {d : NetD} {f : Int} (h : ¬ (checkN d = 0 ∧ 0 ≤ f ∧ f ≤ 100)) : hardQ d f = 0 := if_neg h
theorem hardQ_yes {d : NetD} {q : Nat} (hc : checkN d = 0) (hq : q ≤ 100) : hardQ d (q : Int) = hardN d q := by
  unfold hardQ
  rw [if_pos ⟨hc, by omega, by omega⟩, Int.toNat_natCast]
set_option maxHeartbeats 4000000 in
set_option maxRecDepth 100000 in
theorem stat_Hard {w : World} {d : NetD} {vi vl vo vb vc vm va : Value} (h : NetP w d vi vl vo vb vc vm va) (hl0 : lightN d = true) (f : Int) :
    Calls Tryd.prog 11 #[netV d vi vl vo vb vc vm va, .int .i64 f] w fun e w' => e = .returned (.int .i64 (hardQ d f)) ∧ Below w.heap.size w w' := by
  obtain ⟨ai, ci, ni, al, cl, nl, ao, co, no, ab, cb, nb, ac, cc, nc, am, cm, nm, aa, ca, na, rfl, rfl, rfl, rfl, rfl, rfl, rfl, -, -⟩ := h.open_ (lightN_iff hl0).1
  obtain ⟨wb, hwb⟩ : ∃ wb, wb = w.alloc (.cells #[.int .i64 d.vars, .slice ai ni ci, .slice al nl cl, .slice ao no co, .slice ab nb cb, .slice ac nc cc, .slice am nm cm, .slice aa na ca] 28) := ⟨_, rfl⟩
  obtain ⟨bx, hbx⟩ : ∃ bx, bx = w.heap.size := ⟨_, rfl⟩
  have HB1 : Hid (Below w.heap.size w wb) := Lib.hid (by rw [hwb]; exact below_new1 w _)
  have HBX : Hid (NBox wb bx d (.slice ai ni ci) (.slice al nl cl) (.slice ao no co) (.slice ab nb cb) (.slice ac nc cc) (.slice am nm cm) (.slice aa na ca)) := Lib.hid (by rw [hwb, hbx]; exact NBox.new w _ _ _ _ _ _ _ _)
  have HP := Lib.hid (h.below HB1.out)
  have hck := topo_Check HP.out hl0
  unfold netV at hck ⊢
  rw [hwb] at hck
  have HCK := Lib.hid hck
  have HL0 := Lib.hid hl0
  have HWB := Lib.hid hwb
  have HBE := Lib.hid hbx
  clear h hl0 hwb hbx hck
  go_enter Tryd.func11, Tryd.ntmps11
  go_wp2_with fail
  refine HCK.out.mono ?_
  rintro e w2 ⟨rfl, hb2⟩
  rw [← HWB.out] at hb2
  rw [← HBE.out]
  have HB2 := Lib.hid (HB1.out.trans (hb2.mono HB1.out.size))
  obtain ⟨c0, c1, c2, c3, c4, c5, c6, c7⟩ := (HBX.out.later hb2).all
  by_cases hc : checkN d = 0
  · by_cases hf : 0 ≤ f ∧ f ≤ 100
    · obtain ⟨q, hq⟩ : ∃ q : Nat, f = (q : Int) := ⟨f.toNat, by omega⟩
      subst hq
      have hq2 : q ≤ 100 := by omega
      obtain ⟨h0, V, hs, hA⟩ := good_iff.1 hc
      have hsz := prove_Size (HP.out.below hb2) HL0.out h0 hs.vars hs.lim hq2
      unfold netV at hsz
      have HSZ := Lib.hid hsz
      have HE : Hid (hardQ d (q : Int) = hardN d q) := Lib.hid (hardQ_yes hc hq2)
      have g1 : ¬ ((q : Int) < 0) := by omega
      have g2 : ¬ ((100 : Int) < (q : Int)) := by omega
      rw [hc]
      clear h0 hs hA hsz hc hf hb2
      go_wp2_with fail
      refine HSZ.out.mono ?_
      rintro e w3 ⟨v, rfl, hb3⟩
      have HB3 := Lib.hid (HB2.out.trans (hb3.mono HB2.out.size))
      generalize hardN d q = z at *
      clear hb3 c0 c1 c2 c3 c4 c5 c6 c7
      go_wp2
      go_ret
      exact ⟨by rw [HE.out]; rfl, HB3.out⟩
    · have HE : Hid (hardQ d f = 0) := Lib.hid (hardQ_no fun h => hf ⟨h.2.1, h.2.2⟩)
      rw [hc]
      clear hc hb2
      by_cases h0 : f < 0
      · go_wp2
        go_ret
        exact ⟨by rw [HE.out]; rfl, HB2.out⟩
      · have g2 : (100 : Int) < f := by omega
        clear hf
        go_wp2
        go_ret
        exact ⟨by rw [HE.out]; rfl, HB2.out⟩
  · have hb : (checkN d != 0) = true := by rw [bne_iff_ne]; exact hc
    have HE : Hid (hardQ d f = 0) := Lib.hid (hardQ_no fun h => hc h.1)
    generalize checkN d = cv at *
    clear hc hb2
    go_wp2
    go_ret
    exact ⟨by rw [HE.out]; rfl, HB2.out⟩
/-! ### an argument of ten numbers -/
theorem wf_range {z : Int} (h : (Lit.int .i64 z).wf = true) : -9223372036854775808 ≤ z ∧ z ≤ 9223372036854775807 := by
  simp [Lit.wf, IntKind.min, IntKind.max, IntKind.signed, IntKind.bits] at h
  omega
theorem ten_list {α : Type} : ∀ (l : List α), l.length = 10 → ∃ c0 c1 c2 c3 c4 c5 c6 c7 c8 c9, l = [c0, c1, c2, c3, c4, c5, c6, c7, c8, c9]
  | [c0, c1, c2, c3, c4, c5, c6, c7, c8, c9], _ => ⟨_, _, _, _, _, _, _, _, _, _, rfl⟩
  | [], h => by simp at h
  | [_], h => by simp at h
  | [_, _], h => by simp at h
  | [_, _, _], h => by simp at h
  | [_, _, _, _], h => by simp at h
  | [_, _, _, _, _], h => by simp at h
  | [_, _, _, _, _, _], h => by simp at h
  | [_, _, _, _, _, _, _], h => by simp at h
  | [_, _, _, _, _, _, _, _], h => by simp at h
  | [_, _, _, _, _, _, _, _, _], h => by simp at h
  | _ :: _ :: _ :: _ :: _ :: _ :: _ :: _ :: _ :: _ :: _ :: _, h => by simp at h
set_option maxRecDepth 100000 in
theorem ten_of {H : Type} {enc : TypeId × Value → H} {w : World} {v : Value} {dd : DataW H} {p : List MemPlace} (h : DataW.Trod enc Tryd.prog w 0 (fun _ => true) true 22 v dd p) (hv : ∃ b, Value.okWide Tryd.prog w .any b 22 v) :
    ∃ x0 x1 x2 x3 x4 x5 x6 x7 x8 x9 : Int, v = .agg #[.int .i64 x0, .int .i64 x1, .int .i64 x2, .int .i64 x3, .int .i64 x4, .int .i64 x5, .int .i64 x6, .int .i64 x7, .int .i64 x8, .int .i64 x9] ∧ ∀ x ∈ [x0, x1, x2, x3, x4, x5, x6, x7, x8, x9], -9223372036854775808 ≤ x ∧ x ≤ 9223372036854775807 := by
  obtain ⟨b0, hv⟩ := hv
  unfold Value.okWide at hv
  rw [Tryd.underlying22] at hv
  obtain ⟨cs, rfl, hsz, -⟩ := hv
  obtain ⟨fuel, hf⟩ := h
  have hce : Tryd.prog.cellsOf 22 = 10 := by kernel_rfl
  have hc1 : Tryd.prog.cellsOf 3 = 1 := by kernel_rfl
  obtain ⟨xs, m, -, -, hcl, hxl, hel⟩ := DataW.trod_array Tryd.underlying22 hf
  obtain ⟨l⟩ := cs
  have hf' : (Value.agg ⟨l⟩).cells.toList = l := rfl
  rw [hf'] at hcl hel
  obtain ⟨c0, c1, c2, c3, c4, c5, c6, c7, c8, c9, rfl⟩ := ten_list l (by rw [hcl, hce])
  rw [hc1] at hel
  have hg : ∀ i, i < 10 → ∃ z : Int, (([c0, c1, c2, c3, c4, c5, c6, c7, c8, c9] : List Value).drop (i * 1)).take 1 = [.int .i64 z] ∧ (Lit.int .i64 z).wf = true := fun i hi => by
    have h1 := hel i hi
    rw [List.getElem?_eq_getElem (by omega)] at h1
    obtain ⟨z, e1, e2, e3⟩ := DataW.trod_int Tryd.underlying3 h1
    exact ⟨z, e1, e3⟩
  obtain ⟨x0, e0, f0⟩ := hg 0 (by omega)
  obtain ⟨x1, e1, f1⟩ := hg 1 (by omega)
  obtain ⟨x2, e2, f2⟩ := hg 2 (by omega)
  obtain ⟨x3, e3, f3⟩ := hg 3 (by omega)
  obtain ⟨x4, e4, f4⟩ := hg 4 (by omega)
  obtain ⟨x5, e5, f5⟩ := hg 5 (by omega)
  obtain ⟨x6, e6, f6⟩ := hg 6 (by omega)
  obtain ⟨x7, e7, f7⟩ := hg 7 (by omega)
  obtain ⟨x8, e8, f8⟩ := hg 8 (by omega)
  obtain ⟨x9, e9, f9⟩ := hg 9 (by omega)
  have d0 : c0 = .int .i64 x0 := by simpa using e0
  have d1 : c1 = .int .i64 x1 := by simpa using e1
  have d2 : c2 = .int .i64 x2 := by simpa using e2
  have d3 : c3 = .int .i64 x3 := by simpa using e3
  have d4 : c4 = .int .i64 x4 := by simpa using e4
  have d5 : c5 = .int .i64 x5 := by simpa using e5
  have d6 : c6 = .int .i64 x6 := by simpa using e6
  have d7 : c7 = .int .i64 x7 := by simpa using e7
  have d8 : c8 = .int .i64 x8 := by simpa using e8
  have d9 : c9 = .int .i64 x9 := by simpa using e9
  subst d0 d1 d2 d3 d4 d5 d6 d7 d8 d9
  refine ⟨x0, x1, x2, x3, x4, x5, x6, x7, x8, x9, rfl, fun x hx => ?_⟩
  simp at hx
  rcases hx with rfl | rfl | rfl | rfl | rfl | rfl | rfl | rfl | rfl | rfl
  · exact wf_range f0
  · exact wf_range f1
  · exact wf_range f2
  · exact wf_range f3
  · exact wf_range f4
  · exact wf_range f5
  · exact wf_range f6
  · exact wf_range f7
  · exact wf_range f8
  · exact wf_range f9
end Go.Proofs.YtlahecdpcpejpaaDoor
