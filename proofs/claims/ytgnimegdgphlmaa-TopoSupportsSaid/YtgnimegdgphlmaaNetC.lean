/-
  Netlists: what a function that takes one finds; the document's limits, wide.
-/
import Derived.Test.YtgnimegdgphlmaaNetB
namespace Go.Proofs.Ytgnimegdgphlmaa
open Go.ChangeShapes Go.WideShapes Go.ChangeAt Go.RowKit
set_option linter.unusedVariables false
set_option linter.unusedSimpArgs false
attribute [local go_sem ↓] Go.wp_at_zero Go.wp_at_succ
theorem any_at {α : Type} {l : List α} {p : α → Bool} {k : Nat} (d : α) (hk : k < l.length) (h : p (l.getD k d) = true) : l.any p = true := by
  rw [List.any_eq_true]
  exact ⟨_, List.getElem_mem hk, by simpa [List.getD, hk] using h⟩
theorem any_non {α : Type} {l : List α} {p : α → Bool} {n : Nat} (d : α) (hn : n = l.length) (h : ∀ j, j < n → p (l.getD j d) = false) : l.any p = false := by
  rw [List.any_eq_false]
  intro x hx
  obtain ⟨j, hj, rfl⟩ := List.getElem_of_mem hx
  simpa [List.getD, hj] using h j (by omega)
theorem snoc_no {p : Nat → Bool} {k : Nat} (h : ∀ j, j < k → p j = false) (hk : p k = false) : ∀ j, j < k + 1 → p j = false := fun j hj => by
  rcases Nat.lt_or_ge j k with h1 | h1
  · exact h j h1
  · rw [show j = k by omega]; exact hk
theorem ret_b {a b : Bool} (h : a = b) : Ending.returned (.bool a) = .returned (.bool b) := by rw [h]
structure Lens (d : NetD) (ni nl no nb nc nm na : Nat) : Prop where
  inp : ni = d.inp.length
  lat : nl = d.lat.length
  out : no = d.out.length
  bad : nb = d.bad.length
  con : nc = d.con.length
  mems : nm = d.mems.length
  ands : na = d.ands.length
structure Caps (d : NetD) (ni nl no nb nc nm na ci cl co cb cc cm ca : Nat) : Prop where
  inp : ni ≤ 2100 ∧ ni ≤ ci ∧ ci ≤ 9223372036854775807
  lat : nl ≤ 2100 ∧ nl ≤ cl ∧ cl ≤ 9223372036854775807
  out : no ≤ 1100 ∧ no ≤ co ∧ co ≤ 9223372036854775807
  bad : nb ≤ 1100 ∧ nb ≤ cb ∧ cb ≤ 9223372036854775807
  con : nc ≤ 1100 ∧ nc ≤ cc ∧ cc ≤ 9223372036854775807
  mems : nm ≤ 6 ∧ nm ≤ cm ∧ cm ≤ 9223372036854775807
  ands : na ≤ 2100 ∧ na ≤ ca ∧ ca ≤ 9223372036854775807
theorem NetP.open_ {w : World} {d : NetD} {vi vl vo vb vc vm va : Value} (h : NetP w d vi vl vo vb vc vm va) (hl : liH d = true) :
    ∃ ai ci ni al cl nl ao co no ab cb nb ac cc nc am cm nm aa ca na, vi = .slice ai ni ci ∧ vl = .slice al nl cl ∧ vo = .slice ao no co ∧ vb = .slice ab nb cb ∧ vc = .slice ac nc cc ∧ vm = .slice am nm cm ∧ va = .slice aa na ca ∧
      Hid (Lens d ni nl no nb nc nm na) ∧ Caps d ni nl no nb nc nm na ci cl co cb cc cm ca := by
  have hl' := of_decide_eq_true hl
  obtain ⟨h1, h2, h3, h4, h5, h6, h7⟩ := hl'
  obtain ⟨ai, ci, rfl, -, i1, i2, -⟩ := id h.inp
  obtain ⟨al, cl, rfl, l1, l2⟩ := h.lat.form
  obtain ⟨ao, co, rfl, -, o1, o2, -⟩ := id h.out
  obtain ⟨ab, cb, rfl, -, b1, b2, -⟩ := id h.bad
  obtain ⟨ac, cc, rfl, -, c1, c2, -⟩ := id h.con
  obtain ⟨am, cm, rfl, m1, m2⟩ := h.mems.form
  obtain ⟨aa, ca, rfl, a1, a2⟩ := h.ands.form
  unfold maxLen at *
  exact ⟨_, _, _, _, _, _, _, _, _, _, _, _, _, _, _, _, _, _, _, _, _, rfl, rfl, rfl, rfl, rfl, rfl, rfl, Lib.hid ⟨rfl, rfl, rfl, rfl, rfl, rfl, rfl⟩,
    ⟨⟨h1, i1, i2⟩, ⟨h2, l1, l2⟩, ⟨h4, o1, o2⟩, ⟨h5, b1, b2⟩, ⟨h6, c1, c2⟩, ⟨h7, m1, m2⟩, ⟨h3, a1, a2⟩⟩⟩
/-- The netlist in a block. -/
def NBox (W : World) (g : Nat) (d : NetD) (vi vl vo vb vc vm va : Value) : Prop := Blk W g 27 #[.int .i64 d.vars, vi, vl, vo, vb, vc, vm, va]
theorem NBox.new (w : World) (d : NetD) (vi vl vo vb vc vm va : Value) : NBox (w.alloc (.cells #[.int .i64 d.vars, vi, vl, vo, vb, vc, vm, va] 27)) w.heap.size d vi vl vo vb vc vm va := Blk.new w _ _
theorem NBox.later {w W : World} {g : Nat} {d : NetD} {vi vl vo vb vc vm va : Value} (h : NBox w g d vi vl vo vb vc vm va) (hb : Below w.heap.size w W) : NBox W g d vi vl vo vb vc vm va := Blk.below h hb h.lt
section
variable {W : World} {g : Nat} {d : NetD} {vi vl vo vb vc vm va : Value} (h : NBox W g d vi vl vo vb vc vm va)
include h
theorem NBox.c0 : W.cell? ⟨g, 0, none⟩ = some (.int .i64 d.vars) := h.cell 0
theorem NBox.c1 : W.cell? ⟨g, 1, none⟩ = some vi := h.cell 1
theorem NBox.c2 : W.cell? ⟨g, 2, none⟩ = some vl := h.cell 2
theorem NBox.c3 : W.cell? ⟨g, 3, none⟩ = some vo := h.cell 3
theorem NBox.c4 : W.cell? ⟨g, 4, none⟩ = some vb := h.cell 4
theorem NBox.c5 : W.cell? ⟨g, 5, none⟩ = some vc := h.cell 5
theorem NBox.c6 : W.cell? ⟨g, 6, none⟩ = some vm := h.cell 6
theorem NBox.c7 : W.cell? ⟨g, 7, none⟩ = some va := h.cell 7
end
/-- The slices' lengths of a memory's two lists of ports. -/
theorem mem_form {w : World} {b o : Nat} {x : MemD} (h : MemR w b o x) : ∃ ra rc nr wa wc nw, w.cell? ⟨b, o + 3, none⟩ = some (.slice ra nr rc) ∧ w.cell? ⟨b, o + 4, none⟩ = some (.slice wa nw wc) ∧ nr = x.rd.length ∧ nw = x.wr.length ∧ nr ≤ rc ∧ rc ≤ maxLen ∧ nw ≤ wc ∧ wc ≤ maxLen := by
  obtain ⟨-, -, -, ⟨u, h1, h2⟩, v, h3, h4⟩ := h
  obtain ⟨ra, rc, rfl, r1, r2⟩ := h2.form
  obtain ⟨wa, wc, rfl, w1, w2⟩ := h4.form
  exact ⟨ra, rc, _, wa, wc, _, h1, h3, rfl, rfl, r1, r2, w1, w2⟩
set_option maxHeartbeats 4000000 in
set_option maxRecDepth 100000 in
theorem r05_limits {w : World} {d : NetD} {vi vl vo vb vc vm va : Value} (h : NetP w d vi vl vo vb vc vm va) (hl : liH d = true) :
    Calls Try.prog 35 #[netV d vi vl vo vb vc vm va] w fun e w' => e = .returned (.bool (limitsN d)) ∧ Below w.heap.size w w' := by
  obtain ⟨ans, hans⟩ : ∃ b, b = limitsN d := ⟨_, rfl⟩
  rw [← hans]
  obtain ⟨ai, ci, ni, al, cl, nl, ao, co, no, ab, cb, nb, ac, cc, nc, am, cm, nm, aa, ca, na, rfl, rfl, rfl, rfl, rfl, rfl, rfl, HN, HC⟩ := h.open_ hl
  obtain ⟨⟨i1, i2, i3⟩, ⟨l1, l2, l3⟩, ⟨o1, o2, o3⟩, ⟨b1, b2, b3⟩, ⟨c1, c2, c3⟩, ⟨m1, m2, m3⟩, ⟨a1, a2, a3⟩⟩ := HC
  unfold netV
  have HA := Lib.hid hans
  have HP := Lib.hid h
  have HB1 : Hid (Below w.heap.size w (w.alloc (.cells #[.int .i64 d.vars, .slice ai ni ci, .slice al nl cl, .slice ao no co, .slice ab nb cb, .slice ac nc cc, .slice am nm cm, .slice aa na ca] 27))) := Lib.hid (below_new1 w _)
  clear hans h hl
  go_enter Try.func35, Try.ntmps35
  go_wp2
  all_goals first
    | (have HF : Hid (ans = true) := Lib.hid (by
         have e1 := HN.out.out; have e2 := HN.out.bad; have e3 := HN.out.con; have e4 := HN.out.mems
         have : limH d = true := decide_eq_true (by omega)
         rw [HA.out]; unfold limitsN; rw [this, Bool.true_or, Bool.true_or])
       go_ret
       exact ⟨by rw [HF.out]; rfl, HB1.out⟩)
    | skip
  have HLH : Hid (limH d = false) := Lib.hid (by
    have e1 := HN.out.out; have e2 := HN.out.bad; have e3 := HN.out.con; have e4 := HN.out.mems
    exact decide_eq_false (by omega))
  go_loop [3] (fun i => ∃ k : Nat, k ≤ nm ∧ i = .int .i64 k ∧ (∀ j, j < k → limM (d.mems.getD j mem0) = false)) (fun i => nm - (intOf i).toNat)
  case atStart => exact ⟨0, Nat.zero_le _, rfl, fun _ h => absurd h (by omega)⟩
  case round =>
    obtain ⟨k, hk, rfl, hrel⟩ := hrel
    have HR := Lib.hid hrel
    clear hrel
    by_cases hlt : (k : Int) < (nm : Int)
    · have hkn : k < d.mems.length := by have := HN.out.mems; omega
      obtain ⟨b, off, cap', he, hmem⟩ := HP.out.mems.at_ hkn
      injection he with e1 e2 e3
      subst e1
      obtain ⟨mm, hmm⟩ : ∃ mm, mm = d.mems.getD k mem0 := ⟨_, rfl⟩
      rw [← hmm] at hmem
      obtain ⟨ra, rc, nr, wa, wc, nw, z3, z4, hnr, hnw, r1, r2, q1, q2⟩ := mem_form hmem
      replace z3 := cell_below z3 HB1.out
      replace z4 := cell_below z4 HB1.out
      unfold maxLen at r2 q2
      have HMM := Lib.hid hmm
      have HNR := Lib.hid hnr
      have HNW := Lib.hid hnw
      have HKN := Lib.hid hkn
      clear hmm hnr hnw hkn hmem e2 e3
      go_wp2
      all_goals first
        | (have HF : Hid (ans = true) := Lib.hid (by
             have : limM mm = true := decide_eq_true (by have := HNR.out; have := HNW.out; omega)
             rw [HA.out]; unfold limitsN
             rw [any_at mem0 HKN.out (by rw [← HMM.out]; exact this), Bool.or_true, Bool.true_or])
           repeat rw [Exit.noGoto_ret]
           go_ret
           exact ⟨by rw [HF.out]; rfl, HB1.out⟩)
        | (have HT : Hid (limM mm = false) := Lib.hid (decide_eq_false (by have := HNR.out; have := HNW.out; omega))
           go_round
           case rel => exact ⟨k + 1, by omega, by go_num, snoc_no HR.out (by rw [← HMM.out]; exact HT.out)⟩
           case measure => simp [intOf]; omega)
    · have HF : Hid (ans = limT d) := Lib.hid (by
        rw [HA.out]; unfold limitsN
        rw [HLH.out, any_non mem0 (n := k) (by have := HN.out.mems; omega) HR.out, Bool.false_or, Bool.false_or])
      go_wp2
      all_goals
        go_ret
        refine ⟨?_, HB1.out⟩
        rw [HF.out]
        first
          | (have hT : limT d = true := decide_eq_true (by have e1 := HN.out.inp; have e2 := HN.out.lat; have e3 := HN.out.ands; omega)
             rw [hT]; rfl)
          | (refine Eq.trans (b := Ending.returned (.bool (decide (2000 < (ni : Int)) || decide (2000 < (nl : Int)) || decide (2000 < (na : Int))))) rfl (ret_b ?_)
             have e1 := HN.out.inp; have e2 := HN.out.lat; have e3 := HN.out.ands
             unfold limT
             rw [← Bool.decide_or, ← Bool.decide_or]
             exact decide_eq_decide.2 (by omega))
end Go.Proofs.Ytgnimegdgphlmaa
