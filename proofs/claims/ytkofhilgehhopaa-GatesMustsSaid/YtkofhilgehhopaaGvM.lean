/-
  astrariumref27: take, Meaning, walked.
-/
import Derived.Test.YtkofhilgehhopaaGvE
namespace Go.Proofs.Ytkofhilgehhopaa
open Go Go.ChangeShapes Go.WideShapes Go.ChangeAt Go.RowKit Go.Maps
set_option linter.unusedVariables false
set_option linter.unusedSimpArgs false
attribute [local go_sem ↓] Go.wp_at_zero Go.wp_at_succ
set_option maxHeartbeats 4000000 in
set_option maxRecDepth 100000 in
theorem take_ {w : World} {v vv : Value} {a : ActD} {vs : List Bool} (h : ActV w v a) (hv : Bools w vv vs) {i : Nat} (hi : i < a.at_.length) (ha : 0 ≤ a.at_.getD i 0 ∧ a.at_.getD i 0 < (vs.length : Int)) (h9 : i < 100) :
    Calls Try.prog 72 #[v, .int .i64 i, vv] w fun e w' => e = .returned (.bool (takeA a i vs)) ∧ Below w.heap.size w w' := by
  obtain ⟨va, vn, rfl, h1, h2⟩ := h
  obtain ⟨ba, oa, ca, rfl, hca⟩ := ints_at' h1 hi
  have hlt : atA a i < vs.length := by unfold atA; omega
  obtain ⟨bv', ov, cv, rfl, hcv⟩ := bools_at2 hv hlt
  have hB := al1 w (.cells #[.int .i64 a.k, .slice (some ⟨ba, oa, none⟩) a.at_.length ca, vn, .bool a.fr] 74)
  obtain ⟨x, hx⟩ : ∃ x, x = a.at_.getD i 0 := ⟨_, rfl⟩
  have c1 := hca _ hB
  have c2 := hcv _ hB
  have hxa : (x.toNat : Nat) = atA a i := by rw [hx]; rfl
  obtain ⟨t, ht⟩ : ∃ t : Nat, x = (t : Int) := ⟨x.toNat, by omega⟩
  rw [← hx] at c1
  rw [← hxa, ht, Int.toNat_natCast] at c2 hlt
  obtain ⟨y, hy⟩ : ∃ y, y = vs.getD t false := ⟨_, rfl⟩
  rw [← hy] at c2
  have HE : Hid (takeA a i vs = (y != negA a i)) := Lib.hid (by unfold takeA; rw [hy, ← hxa, ht, Int.toNat_natCast])
  subst ht
  have ht0 : (t : Int) < (vs.length : Int) := by omega
  have hi0 : (i : Int) < (a.at_.length : Int) := by omega
  have HB := Lib.hid hB
  by_cases hn : i < a.neg.length
  · obtain ⟨bn, on, cn, rfl, hcn⟩ := bools_at2 h2 hn
    have c3 := hcn _ hB
    obtain ⟨z, hz⟩ : ∃ z, z = a.neg.getD i false := ⟨_, rfl⟩
    rw [← hz] at c3
    have HZ : Hid (negA a i = z) := Lib.hid (by rw [hz]; rfl)
    have hn0 : (i : Int) < (a.neg.length : Int) := by omega
    generalize a.neg.length = nn at *
    generalize a.at_.length = q at *
    generalize vs.length = vq at *
    clear h1 hca hi ha hv hcv hB hx hxa hlt hy h2 hcn hz hn
    go_enter Try.func72, Try.ntmps72
    go_wp2
    go_ret
    exact ⟨by rw [HE.out, HZ.out]; cases y <;> cases z <;> rfl, HB.out⟩
  · obtain ⟨an, cn, rfl, -⟩ := id h2
    have HZ : Hid (negA a i = false) := Lib.hid (by unfold negA; simp [List.getD, List.getElem?_eq_none (by omega : a.neg.length ≤ i)])
    have hn0 : ¬ (i : Int) < (a.neg.length : Int) := by omega
    generalize a.neg.length = nn at *
    generalize a.at_.length = q at *
    generalize vs.length = vq at *
    clear h1 hca hi ha hv hcv hB hx hxa hlt hy h2 hn
    go_enter Try.func72, Try.ntmps72
    go_wp2
    go_ret
    exact ⟨by rw [HE.out, HZ.out]; cases y <;> rfl, HB.out⟩
theorem any_true {q : Nat} {f : Nat → Bool} {j : Nat} (h : j < q) (e : f j = true) : (List.range q).any f = true := by
  rw [List.any_eq_true]; exact ⟨j, List.mem_range.2 h, e⟩
theorem any_false {q : Nat} {f : Nat → Bool} (h : ∀ i, i < q → f i = false) : (List.range q).any f = false := by
  rw [← Bool.not_eq_true, List.any_eq_true]; rintro ⟨i, hi, e⟩; rw [h i (List.mem_range.1 hi)] at e; cases e
theorem all_true {q : Nat} {f : Nat → Bool} (h : ∀ i, i < q → f i = true) : (List.range q).all f = true := by
  rw [List.all_eq_true]; intro i hi; exact h i (List.mem_range.1 hi)
theorem all_false {q : Nat} {f : Nat → Bool} {j : Nat} (h : j < q) (e : f j = false) : (List.range q).all f = false := by
  rw [← Bool.not_eq_true, List.all_eq_true]; intro q; have := q j (List.mem_range.2 h); rw [e] at this; cases this
set_option maxHeartbeats 2000000 in
set_option maxRecDepth 100000 in
theorem Meaning_ {w : World} {v vv : Value} {a : ActD} {vs : List Bool} (h : ActV w v a) (hv : Bools w vv vs) (ha : FineD a vs.length) :
    Calls Try.prog 55 #[v, vv] w fun e w' => e = .returned (.bool (meanA a vs)) ∧ Below w.heap.size w w' := by
  have h0 := h
  obtain ⟨va, vn, rfl, h1, h2⟩ := h
  obtain ⟨aa, ac, rfl, -⟩ := id h1
  obtain ⟨an, cn, rfl, -⟩ := id h2
  have hbk := Blk.new w 74 #[.int .i64 a.k, .slice aa a.at_.length ac, .slice an a.neg.length cn, .bool a.fr]
  have hB := al1 w (.cells #[.int .i64 a.k, .slice aa a.at_.length ac, .slice an a.neg.length cn, .bool a.fr] 74)
  obtain ⟨W, hW⟩ : ∃ W, W = w.alloc (.cells #[.int .i64 a.k, .slice aa a.at_.length ac, .slice an a.neg.length cn, .bool a.fr] 74) := ⟨_, rfl⟩
  rw [← hW] at hbk hB
  have HT : Hid (∀ i, i < a.at_.length → ∀ X, Below W.heap.size W X → Calls Try.prog 72 #[.agg #[.int .i64 a.k, .slice aa a.at_.length ac, .slice an a.neg.length cn, .bool a.fr], .int .i64 i, vv] X fun e w' => e = .returned (.bool (takeA a i vs)) ∧ Below W.heap.size W w') := Lib.hid fun i hi X hX => by
    have hb := hB.trans (hX.mono hB.size)
    exact (take_ (h0.below hb) (hv.below hb) hi (ha.at_ i hi) (by have := ha.len; omega)).mono fun e w' ⟨q1, q2⟩ => ⟨q1, hX.trans (q2.mono hX.size)⟩
  have HCC : Hid (∀ X, Below W.heap.size W X → X.cell? ⟨w.heap.size, 0, none⟩ = some (.int .i64 a.k) ∧ X.cell? ⟨w.heap.size, 1, none⟩ = some (.slice aa a.at_.length ac) ∧ X.cell? ⟨w.heap.size, 2, none⟩ = some (.slice an a.neg.length cn) ∧ X.cell? ⟨w.heap.size, 3, none⟩ = some (.bool a.fr)) := Lib.hid fun X hX => by
    have := hbk.below hX hbk.lt
    exact ⟨this.cell 0, this.cell 1, this.cell 2, this.cell 3⟩
  have HBW := Lib.hid hB
  have HFA := Lib.hid ha
  obtain ⟨k, hk⟩ : ∃ k, k = a.k := ⟨_, rfl⟩
  obtain ⟨q, hq⟩ : ∃ q, q = a.at_.length := ⟨_, rfl⟩
  obtain ⟨nq, hnq⟩ : ∃ nq, nq = a.neg.length := ⟨_, rfl⟩
  have hq9 : (q : Int) ≤ 8 := by rw [hq]; have := ha.len; omega
  rw [← hk, ← hq, ← hnq] at HT HCC hW ⊢
  have HW := Lib.hid hW
  obtain ⟨k0, k7⟩ := ha.k
  obtain ⟨m0, m2, m3, m7⟩ := ha.many
  rw [← hk] at k0 k7 m0 m2 m3 m7
  rw [← hq] at m0 m2 m3 m7
  obtain ⟨b, hb⟩ : ∃ b, b = w.heap.size := ⟨_, rfl⟩
  rw [← hb] at HCC
  have HBE := Lib.hid hb
  obtain ⟨fr, hfr⟩ : ∃ fr, fr = a.fr := ⟨_, rfl⟩
  rw [← hfr] at HT HCC HW ⊢
  have HME : Hid (meanA a vs = if k = 0 then fr else if k = 3 then takeA a 0 vs != takeA a 1 vs else if k = 4 then (if takeA a 0 vs then takeA a 1 vs else takeA a 2 vs)
      else if k = 2 ∨ k = 6 then (List.range q).any fun i => takeA a i vs
      else if k = 7 then (List.range (q / 2)).all fun i => !(takeA a i vs != takeA a (q / 2 + i) vs)
      else (List.range q).all fun i => takeA a i vs) := Lib.hid (by unfold meanA; rw [hk, hq, hfr])
  obtain ⟨z, hz⟩ : ∃ z, z = meanA a vs := ⟨_, rfl⟩
  rw [← hz] at HME ⊢
  clear h0 h1 h2 hbk hB hW hv ha hk hq hnq hb hfr hz
  have B1 : Below W.heap.size W W := Below.refl _ _
  obtain ⟨c0, c1, c2, c3⟩ := HCC.out W B1
  rcases (show k = 0 ∨ k = 3 ∨ k = 4 ∨ (k = 2 ∨ k = 6) ∨ k = 7 ∨ (k = 1 ∨ k = 5) by omega) with e | e | e | e | e | e
  · have HE : Hid (z = fr) := Lib.hid (by rw [HME.out, if_pos e])
    subst e
    clear m0 m2 m3 m7
    go_enter Try.func55, Try.ntmps55
    go_wp2_with fail
    go_ret
    exact ⟨by rw [HE.out]; rfl, by rw [← HW.out]; exact HBW.out⟩
  · have HE : Hid (z = (takeA a 0 vs != takeA a 1 vs)) := Lib.hid (by rw [HME.out, if_neg (by omega), if_pos e])
    obtain rfl := m2 (by omega)
    have HT0 : Hid (∀ X, Below W.heap.size W X → Calls Try.prog 72 #[.agg #[.int .i64 k, .slice aa 2 ac, .slice an nq cn, .bool fr], .int .i64 0, vv] X fun e w' => e = .returned (.bool (takeA a 0 vs)) ∧ Below W.heap.size W w') := Lib.hid (HT.out 0 (by omega))
    have HT1 : Hid (∀ X, Below W.heap.size W X → Calls Try.prog 72 #[.agg #[.int .i64 k, .slice aa 2 ac, .slice an nq cn, .bool fr], .int .i64 1, vv] X fun e w' => e = .returned (.bool (takeA a 1 vs)) ∧ Below W.heap.size W w') := Lib.hid (HT.out 1 (by omega))
    obtain ⟨t0, ht0⟩ : ∃ t0, t0 = takeA a 0 vs := ⟨_, rfl⟩
    obtain ⟨t1, ht1⟩ : ∃ t1, t1 = takeA a 1 vs := ⟨_, rfl⟩
    rw [← ht0, ← ht1] at HE
    rw [← ht0] at HT0
    rw [← ht1] at HT1
    subst e
    clear m0 m2 m3 m7 ht0 ht1
    go_enter Try.func55, Try.ntmps55
    go_wp2_with fail
    rw [← HW.out, ← HBE.out]
    go_region_held3 (fun w' => w'.cell? ⟨b, 0, none⟩ = some (.int .i64 3) ∧ w'.cell? ⟨b, 1, none⟩ = some (.slice aa 2 ac) ∧ w'.cell? ⟨b, 2, none⟩ = some (.slice an nq cn) ∧ w'.cell? ⟨b, 3, none⟩ = some (.bool fr)) (go_keep) (first
      | (go_at_call 72; with_reducible refine (HT0.out _ B1.drew).mono ?_; rintro e wX ⟨rfl, bX⟩; have QX := Lib.hid bX; obtain ⟨y1, y2, y3, y4⟩ := HCC.out wX bX; clear bX)
      | (go_at_call 72; with_reducible refine (HT1.out _ QX.out).mono ?_; rintro e wY ⟨rfl, bY⟩; have QY := Lib.hid bY; obtain ⟨x1, x2, x3, x4⟩ := HCC.out wY bY; clear bY))
    go_wp2_with fail
    go_ret
    exact ⟨by rw [HE.out]; rfl, HBW.out.trans (QY.out.mono HBW.out.size)⟩
  · obtain ⟨t0, ht0⟩ : ∃ t0, t0 = takeA a 0 vs := ⟨_, rfl⟩
    have HE : Hid (z = if t0 = true then takeA a 1 vs else takeA a 2 vs) := Lib.hid (by rw [HME.out, if_neg (by omega), if_neg (by omega), if_pos e, ht0])
    obtain rfl := m3 e
    have HT0 : Hid (∀ X, Below W.heap.size W X → Calls Try.prog 72 #[.agg #[.int .i64 k, .slice aa 3 ac, .slice an nq cn, .bool fr], .int .i64 0, vv] X fun e w' => e = .returned (.bool (takeA a 0 vs)) ∧ Below W.heap.size W w') := Lib.hid (HT.out 0 (by omega))
    have HT1 : Hid (∀ X, Below W.heap.size W X → Calls Try.prog 72 #[.agg #[.int .i64 k, .slice aa 3 ac, .slice an nq cn, .bool fr], .int .i64 1, vv] X fun e w' => e = .returned (.bool (takeA a 1 vs)) ∧ Below W.heap.size W w') := Lib.hid (HT.out 1 (by omega))
    have HT2 : Hid (∀ X, Below W.heap.size W X → Calls Try.prog 72 #[.agg #[.int .i64 k, .slice aa 3 ac, .slice an nq cn, .bool fr], .int .i64 2, vv] X fun e w' => e = .returned (.bool (takeA a 2 vs)) ∧ Below W.heap.size W w') := Lib.hid (HT.out 2 (by omega))
    rw [← ht0] at HT0
    subst e
    clear m0 m2 m3 m7 ht0
    cases t0 with
    | true =>
      replace HE : Hid (z = takeA a 1 vs) := Lib.hid (by rw [HE.out, if_pos rfl])
      obtain ⟨t1, ht1⟩ : ∃ t1, t1 = takeA a 1 vs := ⟨_, rfl⟩
      rw [← ht1] at HE HT1
      clear ht1
      go_enter Try.func55, Try.ntmps55
      go_wp2_with fail
      rw [← HW.out, ← HBE.out]
      go_wp2_with (first | (go_at_call 72; with_reducible refine (HT0.out _ (by assumption)).mono ?_; rintro e wX ⟨rfl, bX⟩; obtain ⟨y1, y2, y3, y4⟩ := HCC.out wX bX) | (go_at_call 72; with_reducible refine (HT1.out _ (by assumption)).mono ?_; rintro e wY ⟨rfl, bY⟩))
      go_ret
      exact ⟨by rw [HE.out]; rfl, HBW.out.trans (bY.mono HBW.out.size)⟩
    | false =>
      replace HE : Hid (z = takeA a 2 vs) := Lib.hid (by rw [HE.out, if_neg (by decide)])
      replace HT1 := HT2
      obtain ⟨t1, ht1⟩ : ∃ t1, t1 = takeA a 2 vs := ⟨_, rfl⟩
      rw [← ht1] at HE HT1
      clear ht1
      go_enter Try.func55, Try.ntmps55
      go_wp2_with fail
      rw [← HW.out, ← HBE.out]
      go_wp2_with (first | (go_at_call 72; with_reducible refine (HT0.out _ (by assumption)).mono ?_; rintro e wX ⟨rfl, bX⟩; obtain ⟨y1, y2, y3, y4⟩ := HCC.out wX bX) | (go_at_call 72; with_reducible refine (HT1.out _ (by assumption)).mono ?_; rintro e wY ⟨rfl, bY⟩))
      go_ret
      exact ⟨by rw [HE.out]; rfl, HBW.out.trans (bY.mono HBW.out.size)⟩
  · have HE : Hid (z = (List.range q).any fun i => takeA a i vs) := Lib.hid (by rw [HME.out, if_neg (by omega), if_neg (by omega), if_neg (by omega), if_pos e])
    clear m0 m2 m3 m7
    rcases e with rfl | rfl
    all_goals
      go_enter Try.func55, Try.ntmps55
      go_wp2_with fail
      rw [← HW.out, ← HBE.out]
      go_loopw [5] (fun i wr => ∃ j : Nat, j ≤ q ∧ i = .int .i64 j ∧ Below W.heap.size W wr ∧ Hid (∀ i, i < j → takeA a i vs = false)) (fun i _ => q - (intOf i).toNat)
      case atStart => exact ⟨0, Nat.zero_le _, rfl, B1, Lib.hid (fun i hi => by omega)⟩
      case round =>
        obtain ⟨j, hj, rfl, bR, hG⟩ := hrel
        obtain ⟨y1, y2, y3, y4⟩ := HCC.out _ bR
        by_cases hlt : (j : Int) < (q : Int)
        · have HT1 := Lib.hid (HT.out j (by omega))
          obtain ⟨t1, ht1⟩ : ∃ t1, t1 = takeA a j vs := ⟨_, rfl⟩
          rw [← ht1] at HT1
          have HX := Lib.hid ht1
          clear ht1
          cases t1 with
          | true =>
            replace HE : Hid (z = true) := Lib.hid (by rw [HE.out]; exact any_true (by omega) HX.out.symm)
            go_wp2_with (go_at_call 72; with_reducible refine (HT1.out _ (by assumption)).mono ?_; rintro e wY ⟨rfl, bY⟩)
            go_ret
            exact ⟨by rw [HE.out]; rfl, HBW.out.trans (bY.mono HBW.out.size)⟩
          | false =>
            have HN2 : Hid (∀ i, i < j + 1 → takeA a i vs = false) := Lib.hid fun i hi => by
              by_cases e : i = j
              · rw [e, ← HX.out]
              · exact hG.out i (by omega)
            clear HX
            go_wp2_with (go_at_call 72; with_reducible refine (HT1.out _ (by assumption)).mono ?_; rintro e wY ⟨rfl, bY⟩)
            go_roundw
            case rel => exact ⟨j + 1, by omega, by go_num, bY, HN2⟩
            case measure => simp [intOf]; omega
        · replace HE : Hid (z = false) := Lib.hid (by rw [HE.out]; exact any_false fun i hi => hG.out i (by omega))
          go_wp2
          go_ret
          exact ⟨by rw [HE.out]; rfl, HBW.out.trans (bR.mono HBW.out.size)⟩
  · have HE : Hid (z = (List.range (q / 2)).all fun i => !(takeA a i vs != takeA a (q / 2 + i) vs)) := Lib.hid (by rw [HME.out, if_neg (by omega), if_neg (by omega), if_neg (by omega), if_neg (by omega), if_pos e])
    have hq2 := m7 e
    obtain ⟨h, hh⟩ : ∃ h, h = q / 2 := ⟨_, rfl⟩
    obtain rfl : q = h + h := by omega
    rw [← hh] at HE
    subst e
    have hz : ((h : Int) + (h : Int)) / 2 = (h : Int) := by omega
    clear m0 m2 m3 m7 hh hq2
    go_enter Try.func55, Try.ntmps55
    go_wp2_with fail
    rw [← HW.out, ← HBE.out]
    go_wp2_with fail
    go_loopw [7] (fun i wr => ∃ j : Nat, j ≤ h ∧ i = .int .i64 j ∧ Below W.heap.size W wr ∧ Hid (∀ i, i < j → (!(takeA a i vs != takeA a (h + i) vs)) = true)) (fun i _ => h - (intOf i).toNat)
    case atStart => exact ⟨0, Nat.zero_le _, rfl, B1, Lib.hid (fun i hi => by omega)⟩
    case round =>
      obtain ⟨j, hj, rfl, bR, hG⟩ := hrel
      obtain ⟨y1, y2, y3, y4⟩ := HCC.out _ bR
      by_cases hlt : (j : Int) < (h : Int)
      · have HT0 := Lib.hid (HT.out j (by omega))
        have HT1 : Hid (∀ X, Below W.heap.size W X → Calls Try.prog 72 #[.agg #[.int .i64 7, .slice aa (h + h) ac, .slice an nq cn, .bool fr], .int .i64 ((h : Int) + (j : Int)), vv] X fun e w' => e = .returned (.bool (takeA a (h + j) vs)) ∧ Below W.heap.size W w') := Lib.hid (by
          have := HT.out (h + j) (by omega)
          rw [show (((h + j : Nat)) : Int) = (h : Int) + (j : Int) by omega] at this
          exact this)
        obtain ⟨t0, ht0⟩ : ∃ t0, t0 = takeA a j vs := ⟨_, rfl⟩
        obtain ⟨t1, ht1⟩ : ∃ t1, t1 = takeA a (h + j) vs := ⟨_, rfl⟩
        rw [← ht0] at HT0
        rw [← ht1] at HT1
        have HX0 := Lib.hid ht0
        have HX1 := Lib.hid ht1
        have hj8 : IntKind.i64.wrap ((h : Int) + (j : Int)) = (h : Int) + (j : Int) := IntWalk.i64_in _ (by omega)
        clear ht0 ht1
        by_cases hbb : t0 = t1
        · have HN2 : Hid (∀ i, i < j + 1 → (!(takeA a i vs != takeA a (h + i) vs)) = true) := Lib.hid fun i hi => by
            by_cases e : i = j
            · rw [e, ← HX0.out, ← HX1.out, hbb]; cases t1 <;> rfl
            · exact hG.out i (by omega)
          subst hbb
          have hbe : (t0 != t0) = false := by cases t0 <;> rfl
          clear HX0 HX1
          go_wp2_with fail
          go_region_held3 (fun w' => w'.cell? ⟨b, 0, none⟩ = some (.int .i64 7) ∧ w'.cell? ⟨b, 1, none⟩ = some (.slice aa (h + h) ac) ∧ w'.cell? ⟨b, 2, none⟩ = some (.slice an nq cn) ∧ w'.cell? ⟨b, 3, none⟩ = some (.bool fr)) (go_keep) (first
            | (go_at_call 72; with_reducible refine (HT0.out _ bR.drew).mono ?_; rintro e wX ⟨rfl, bX⟩; have QX := Lib.hid bX; obtain ⟨y1, y2, y3, y4⟩ := HCC.out wX bX; clear bX)
            | (go_at_call 72; with_reducible refine (HT1.out _ QX.out).mono ?_; rintro e wY ⟨rfl, bY⟩; have QY := Lib.hid bY; obtain ⟨x1, x2, x3, x4⟩ := HCC.out wY bY; clear bY))
          clear hj8
          go_wp2_with fail
          go_roundw
          case rel => exact ⟨j + 1, by omega, by go_num, QY.out, HN2⟩
          case measure => simp [intOf]; omega
        · have hbe : (t0 != t1) = true := by rw [bne_iff_ne]; exact hbb
          replace HE : Hid (z = false) := Lib.hid (by rw [HE.out]; exact all_false (j := j) (by omega) (by rw [← HX0.out, ← HX1.out, hbe]; rfl))
          clear HX0 HX1
          have hcc : (t0 = true ∧ t1 = false) ∨ (t0 = false ∧ t1 = true) := by cases t0 <;> cases t1 <;> simp_all
          clear hbb hbe
          rcases hcc with ⟨rfl, rfl⟩ | ⟨rfl, rfl⟩
          all_goals
            go_wp2_with fail
            go_region_held3 (fun w' => w'.cell? ⟨b, 0, none⟩ = some (.int .i64 7) ∧ w'.cell? ⟨b, 1, none⟩ = some (.slice aa (h + h) ac) ∧ w'.cell? ⟨b, 2, none⟩ = some (.slice an nq cn) ∧ w'.cell? ⟨b, 3, none⟩ = some (.bool fr)) (go_keep) (first
              | (go_at_call 72; with_reducible refine (HT0.out _ bR.drew).mono ?_; rintro e wX ⟨rfl, bX⟩; have QX := Lib.hid bX; obtain ⟨y1, y2, y3, y4⟩ := HCC.out wX bX; clear bX)
              | (go_at_call 72; with_reducible refine (HT1.out _ QX.out).mono ?_; rintro e wY ⟨rfl, bY⟩; have QY := Lib.hid bY; obtain ⟨x1, x2, x3, x4⟩ := HCC.out wY bY; clear bY))
            clear hj8
            go_wp2_with fail
            go_ret
            exact ⟨by rw [HE.out]; rfl, HBW.out.trans (QY.out.mono HBW.out.size)⟩
      · replace HE : Hid (z = true) := Lib.hid (by rw [HE.out]; exact all_true fun i hi => hG.out i (by omega))
        go_wp2
        go_ret
        exact ⟨by rw [HE.out]; rfl, HBW.out.trans (bR.mono HBW.out.size)⟩
  · have HE : Hid (z = (List.range q).all fun i => takeA a i vs) := Lib.hid (by rw [HME.out, if_neg (by omega), if_neg (by omega), if_neg (by omega), if_neg (by omega), if_neg (by omega)])
    clear m0 m2 m3 m7
    rcases e with rfl | rfl
    all_goals
      go_enter Try.func55, Try.ntmps55
      go_wp2_with fail
      rw [← HW.out, ← HBE.out]
      go_loopw [8] (fun i wr => ∃ j : Nat, j ≤ q ∧ i = .int .i64 j ∧ Below W.heap.size W wr ∧ Hid (∀ i, i < j → takeA a i vs = true)) (fun i _ => q - (intOf i).toNat)
      case atStart => exact ⟨0, Nat.zero_le _, rfl, B1, Lib.hid (fun i hi => by omega)⟩
      case round =>
        obtain ⟨j, hj, rfl, bR, hG⟩ := hrel
        obtain ⟨y1, y2, y3, y4⟩ := HCC.out _ bR
        by_cases hlt : (j : Int) < (q : Int)
        · have HT1 := Lib.hid (HT.out j (by omega))
          obtain ⟨t1, ht1⟩ : ∃ t1, t1 = takeA a j vs := ⟨_, rfl⟩
          rw [← ht1] at HT1
          have HX := Lib.hid ht1
          clear ht1
          cases t1 with
          | false =>
            replace HE : Hid (z = false) := Lib.hid (by rw [HE.out]; exact all_false (by omega) HX.out.symm)
            go_wp2_with (go_at_call 72; with_reducible refine (HT1.out _ (by assumption)).mono ?_; rintro e wY ⟨rfl, bY⟩)
            go_ret
            exact ⟨by rw [HE.out]; rfl, HBW.out.trans (bY.mono HBW.out.size)⟩
          | true =>
            have HN2 : Hid (∀ i, i < j + 1 → takeA a i vs = true) := Lib.hid fun i hi => by
              by_cases e : i = j
              · rw [e, ← HX.out]
              · exact hG.out i (by omega)
            clear HX
            go_wp2_with (go_at_call 72; with_reducible refine (HT1.out _ (by assumption)).mono ?_; rintro e wY ⟨rfl, bY⟩)
            go_roundw
            case rel => exact ⟨j + 1, by omega, by go_num, bY, HN2⟩
            case measure => simp [intOf]; omega
        · replace HE : Hid (z = true) := Lib.hid (by rw [HE.out]; exact all_true fun i hi => hG.out i (by omega))
          go_wp2
          go_ret
          exact ⟨by rw [HE.out]; rfl, HBW.out.trans (bR.mono HBW.out.size)⟩
end Go.Proofs.Ytkofhilgehhopaa
/-
  astrariumref27: Meanings, walked.
-/
namespace Go.Proofs.Ytkofhilgehhopaa
open Go Go.ChangeShapes Go.WideShapes Go.ChangeAt Go.RowKit Go.Maps
set_option linter.unusedVariables false
set_option linter.unusedSimpArgs false
attribute [local go_sem ↓] Go.wp_at_zero Go.wp_at_succ
theorem OwnT.below' {w wr wx : World} {out : Value} {xs : List Bool} (h : OwnT w wr out xs) (hb : Below wr.heap.size wr wx) : OwnT w wx out xs :=
  ⟨h.1.chg (S := fun _ => False) (Chg.of_below hb) (fun _ _ e => e), h.2.1.trans (hb.mono h.2.1.size), h.2.2⟩
set_option maxHeartbeats 4000000 in
set_option maxRecDepth 100000 in
theorem Meanings_ {w : World} {v : Value} {xs : List ActD} (h : ActsS w v xs) (hlen : xs.length ≤ 100) (hf : ∀ i, i < xs.length → FineD (xs.getD i act0) (i + 1)) :
    Calls Try.prog 24 #[v] w fun e w' => ∃ u, e = .returned u ∧ OwnT w w' u (meansA xs) := by
  have HM : Hid (∀ j, j < xs.length → ∀ W u va, Below w.heap.size w W → ActV w va (xs.getD j act0) → Bools W u (meansA (xs.take j)) → Calls Try.prog 55 #[va, u] W fun e w' => e = .returned (.bool (meanA (xs.getD j act0) (meansA (xs.take j)))) ∧ Below W.heap.size W w') := Lib.hid fun j hj W u va hW hva hu =>
    Meaning_ (hva.below hW) hu (by have := hf j hj; rw [meansA_len, List.length_take, Nat.min_eq_left (by omega)]; exact this)
  have HS : Hid (∀ j, j < xs.length → meansA (xs.take (j + 1)) = meansA (xs.take j) ++ [meanA (xs.getD j act0) (meansA (xs.take j))]) := Lib.hid fun j hj => by
    rw [List.take_succ_eq_append_getElem hj, meansA_snoc]; simp [List.getD, hj]
  have HH := Lib.hid h
  obtain ⟨aa, ac, rfl, -, -⟩ := h.form
  have HL := Lib.hid (fun j (hj : j ≤ xs.length) => (show (meansA (xs.take j)).length = j + 1 by rw [meansA_len, List.length_take]; omega))
  have HF : Hid (meansA (xs.take xs.length) = meansA xs) := Lib.hid (by rw [List.take_length])
  obtain ⟨q, hq⟩ : ∃ q, q = xs.length := ⟨_, rfl⟩
  rw [← hq] at HM HS HL HF hlen ⊢
  have HQ := Lib.hid hq
  have q9 : (q : Int) ≤ 100 := by omega
  clear h hf hq
  go_enter Try.func24, Try.ntmps24
  go_wp2
  go_loopw [3, 4] (fun out i wr => ∃ j : Nat, j ≤ q ∧ i = .int .i64 j ∧ OwnT w wr out (meansA (xs.take j))) (fun _ i _ => q - (intOf i).toNat)
  case atStart => exact ⟨0, Nat.zero_le _, rfl, ⟨by
      have : Row (w.alloc (.cells #[.bool true] 4)) 4 1 (.slice (some ⟨w.heap.size, 0, none⟩) 1 1) 1 [.bool true] := ⟨rfl, .inr ⟨w.heap.size, 1, #[.bool true], rfl, Nat.zero_le _, heap_alloc_new w _, Nat.le_refl _, by simp [maxLen], rfl, rfl⟩⟩
      exact this, (Below.refl _ w).alloc (Nat.le_refl _) _, fun g hg => by simp [Value.ownBlock] at hg; omega⟩⟩
  case round =>
    obtain ⟨j, hj, rfl, hO⟩ := hrel
    by_cases hlt : (j : Int) < (q : Int)
    · have hjq : j < q := by omega
      obtain ⟨b, off, cap, va, vn, he, hva, hcell⟩ := HH.out.at_ (j := j) (by rw [← HQ.out]; exact hjq)
      injection he with q1 q2 q3
      subst q1
      obtain ⟨c0, c1, c2, c3⟩ := hcell _ hO.2.1
      have hme := HM.out j hjq wr u3 _ hO.2.1 hva hO.1.bools
      have hsn := HS.out j hjq
      have hrow := hO.1
      rw [HL.out j hj] at hrow
      have hln := HL.out j hj
      obtain ⟨bb, hbb⟩ : ∃ bb, bb = meanA (xs.getD j act0) (meansA (xs.take j)) := ⟨_, rfl⟩
      rw [← hbb] at hme hsn
      generalize meansA (xs.take j) = ms at *
      generalize (xs.getD j act0).k = k at *
      generalize (xs.getD j act0).fr = fr at *
      have HME := Lib.hid hme
      have HSN := Lib.hid hsn
      have HR := Lib.hid hrow
      have HO := Lib.hid hO
      have HLN := Lib.hid hln
      clear hme hsn hrow hO hva hcell q2 q3 hbb hln
      go_wp2_with (first | (go_at_call 55; refine HME.out.mono ?_; rintro e w2 ⟨rfl, hb2⟩; have HB2 := Lib.hid hb2; clear hb2) | (at_builtin; refine wpList_app rfl _ _ _ rfl 4 (.bool false) 1 1 Try.underlying38 infoB rfl (by decide) u3 (j + 1) (ms.map bv) rfl ?ho w2.heap.size 0 1 1 [.bool bb] rfl rfl ?hn ?hs ?c1 ?c2 ?_))
      case ho => exact (HR.out.chg (S := fun _ => False) (Chg.of_below HB2.out) (fun _ _ e => e)).alloc _
      case hn => exact cellNew _ _ _ _ rfl
      case hs => exact oneCell1 rfl
      case c1 => unfold maxLen; omega
      case c2 => omega
      intro v' w3 hp3
      have hfin := (OwnT.below' HO.out HB2.out).app (by rw [HLN.out]; exact hp3)
      rw [← HSN.out] at hfin
      have HF := Lib.hid hfin
      clear hp3 hfin
      go_wp2
      go_roundw
      case rel => exact ⟨j + 1, by omega, by go_num, HF.out⟩
      case measure => simp [intOf]; omega
    · have hjq : j = q := by omega
      have HO := Lib.hid hO
      subst hjq
      clear hO
      go_wp2
      go_ret
      exact ⟨_, rfl, by rw [← HF.out]; exact HO.out⟩
end Go.Proofs.Ytkofhilgehhopaa
