/-
  The law's call, walked.
-/
import Derived.Test.YtkofhilgehhopaaGvE
namespace Go.Proofs.Ytkofhilgehhopaa
open Go Go.ChangeShapes Go.WideShapes Go.ChangeAt Go.RowKit Go.Maps
set_option linter.unusedVariables false
set_option linter.unusedSimpArgs false
attribute [local go_sem ↓] Go.wp_at_zero Go.wp_at_succ
theorem litsA_snoc (l : List Int) (a : ActD) (j : Nat) : (List.range (j + 1)).map (litA l a) = (List.range j).map (litA l a) ++ [litA l a j] := by rw [List.range_succ, List.map_append]; rfl
section
variable {fp : Nat → Prop} {B : Nat} {w : World} {g f m : Nat} {S : GS}
/-- What a call answers, whatever the kind, from any later world with its literals in a row of the call's own. -/
theorem fresh_A (h : GMem fp B w g f m S) (hn : S.n < 60000) : Calls Try.prog 16 #[.pointer (some ⟨g, 0, none⟩)] w fun e w' => e = .returned (.int .i64 ((S.n + 1 : Nat) : Int)) ∧ GLeft fp B w g f m ⟨S.n + 1, S.cl, S.tab⟩ w' := by
  obtain ⟨D, h1, h2⟩ := h
  exact (Fresh_ h2 (by omega) (by omega)).mono fun e w' ⟨q1, q2⟩ => ⟨by rw [q1]; rfl, D, h1, q2⟩
theorem own_cells {w wr : World} {out : Value} {xs : List Int} (h : OwnI w wr out xs) (h1 : 1 ≤ xs.length) : ∃ gx cx, out = .slice (some ⟨gx, 0, none⟩) xs.length cx ∧ w.heap.size ≤ gx ∧ ∀ i, i < xs.length → ∀ X, Below wr.heap.size wr X → X.cell? ⟨gx, i, none⟩ = some (.int .i64 (xs.getD i 0)) := by
  have hi := h.ints
  rcases h.form2 with ⟨-, rfl⟩ | ⟨gx, cap, cur, rfl, hg, -⟩
  · simp at h1
  refine ⟨gx, cap, rfl, hg, fun i hi' X hX => ?_⟩
  obtain ⟨b, off, c, e, k⟩ := ints_at' hi hi'
  injection e with e1
  injection e1 with e1
  injection e1 with e2 e3
  subst e2 e3
  have := k X hX
  rwa [Nat.zero_add] at this
theorem halves_facts {l : List Int} {a : ActD} {h n : Nat} (hq : a.at_.length = h + h) (hl : ∀ i, i < h + h → okL n (litA l a i)) :
    (halvesA l a).length = h ∧ (halvesA l a).map (·.1) = (litsA l a).take h ∧ (halvesA l a).map (·.2) = (litsA l a).drop h ∧ ptok n (halvesA l a) := by
  have e : (h + h) / 2 = h := by omega
  unfold halvesA litsA
  rw [hq, e]
  refine ⟨by simp, ?_, ?_, fun p hp => ?_⟩
  · rw [List.map_map, ← List.map_take, List.take_range, Nat.min_eq_left (by omega)]; rfl
  · apply List.ext_getElem
    · simp
    · intro i h1 h2
      simp
  · obtain ⟨i, hi, rfl⟩ := List.mem_map.1 hp
    have := List.mem_range.1 hi
    exact ⟨hl i (by omega), hl (h + i) (by omega)⟩
theorem own_halves {w wr : World} {gx cx n h : Nat} {xs : List Int} (ho : OwnI w wr (.slice (some ⟨gx, 0, none⟩) n cx) xs) (hl : xs.length = h + h) (hn : n = h + h) (hcx : n ≤ cx) (hcm : cx ≤ maxLen) :
    Ints wr (.slice (some ⟨gx, 0, none⟩) h cx) (xs.take h) ∧ Ints wr (.slice (some ⟨gx, h, none⟩) h (cx - h)) (xs.drop h) := by
  obtain ⟨a, cap, e, h0, h1, h2, h3⟩ := ho.ints
  injection e with e1 e2 e3
  subst e1 e3
  rcases h3 with rfl | ⟨b, off, e, hc⟩
  · have h0 : h = 0 := by simp at hl; omega
    subst h0
    exact ⟨⟨_, _, rfl, (fun e => by cases e), by simp, h2, .inl rfl⟩, ⟨_, _, rfl, (fun e => by cases e), by simp, h2, .inl rfl⟩⟩
  · injection e with e
    injection e with e1 e2
    subst e1 e2
    refine ⟨⟨_, _, by rw [List.length_take, Nat.min_eq_left (by omega)], (fun e => by cases e), by rw [List.length_take]; omega, h2, .inr ⟨_, _, rfl, fun j hj => ?_⟩⟩, ⟨_, _, by rw [List.length_drop, hl]; congr 1; omega, (fun e => by cases e), by rw [List.length_drop]; omega, by omega, .inr ⟨_, _, rfl, fun j hj => ?_⟩⟩⟩
    · rw [List.length_take] at hj
      rw [hc j (by omega)]
      simp only [List.getD]
      rw [List.getElem?_take_of_lt (by omega)]
    · rw [List.length_drop] at hj
      have := hc (h + j) (by omega)
      rw [Nat.zero_add] at this
      rw [this]
      simp [List.getD]
set_option maxHeartbeats 16000000 in
set_option maxRecDepth 100000 in
theorem call_ (h : GMem fp B w g f m S) (hB : B ≤ w.heap.size) (hr : S.n ≤ 50000 ∧ S.cl.length ≤ 90000 ∧ S.tab.length ≤ 900000) {F : Nat → Prop} (hi : GI S F) {v vl : Value} {a : ActD} {l : List Int} (hv : ActV w v a) (hvl : Ints w vl l) (ha : FineD a l.length) (hl : ∀ x ∈ l, okL S.n x) (hll : l.length ≤ 100) :
    Calls Try.prog 48 #[.pointer (some ⟨g, 0, none⟩), v, vl] w fun e w' => e = .returned (.int .i64 (callS a l S).1) ∧ GLeft fp B w g f m (callS a l S).2 w' := by
  have hroom : Room S := ⟨by omega, by omega, by omega⟩
  have h0 := hv
  obtain ⟨va, vn, rfl, h1, h2⟩ := hv
  have HI1 := Lib.hid h1
  have HI2 := Lib.hid h2
  have HIL := Lib.hid hvl
  obtain ⟨aa, ac, rfl, -⟩ := id h1
  obtain ⟨an, cn, rfl, -⟩ := id h2
  obtain ⟨al, cl, rfl, -⟩ := id hvl
  have hbk := Blk.new w 74 #[.int .i64 a.k, .slice aa a.at_.length ac, .slice an a.neg.length cn, .bool a.fr]
  have hBb := al1 w (.cells #[.int .i64 a.k, .slice aa a.at_.length ac, .slice an a.neg.length cn, .bool a.fr] 74)
  obtain ⟨W, hW⟩ : ∃ W, W = w.alloc (.cells #[.int .i64 a.k, .slice aa a.at_.length ac, .slice an a.neg.length cn, .bool a.fr] 74) := ⟨_, rfl⟩
  rw [← hW] at hbk hBb
  have HCC : Hid (∀ X, Below W.heap.size W X → X.cell? ⟨w.heap.size, 0, none⟩ = some (.int .i64 a.k) ∧ X.cell? ⟨w.heap.size, 1, none⟩ = some (.slice aa a.at_.length ac) ∧ X.cell? ⟨w.heap.size, 2, none⟩ = some (.slice an a.neg.length cn)) := Lib.hid fun X hX => by
    have := hbk.below hX hbk.lt
    exact ⟨this.cell 0, this.cell 1, this.cell 2⟩
  have HWB := Lib.hid hBb
  have HG := Lib.hid h
  have HB := Lib.hid hB
  have HRM := Lib.hid hr
  have HGI := Lib.hid hi
  have HFA := Lib.hid ha
  have HLO := Lib.hid hl
  have HLA : Hid (∀ i, i < a.at_.length → okL S.n (litA l a i)) := Lib.hid fun i hi => litA_ok hl ha hi
  obtain ⟨k, hk⟩ : ∃ k, k = a.k := ⟨_, rfl⟩
  obtain ⟨q, hq⟩ : ∃ q, q = a.at_.length := ⟨_, rfl⟩
  obtain ⟨nn, hnn⟩ : ∃ nn, nn = a.neg.length := ⟨_, rfl⟩
  obtain ⟨ln, hln⟩ : ∃ ln, ln = l.length := ⟨_, rfl⟩
  have q9 : (q : Int) ≤ 8 := by rw [hq]; have := ha.len; omega
  have l9 : (ln : Int) ≤ 100 := by omega
  rw [← hk, ← hq, ← hnn] at HCC hW
  rw [← hk, ← hq, ← hnn, ← hln]
  rw [← hq] at HI1 HLA
  rw [← hnn] at HI2
  rw [← hln] at HIL
  have HW := Lib.hid hW
  have HK := Lib.hid hk
  have HQ := Lib.hid hq
  have HNN := Lib.hid hnn
  have HLN := Lib.hid hln
  obtain ⟨b, hb⟩ : ∃ b, b = w.heap.size := ⟨_, rfl⟩
  rw [← hb] at HCC
  have HBE := Lib.hid hb
  generalize hfr : a.fr = fr at *
  obtain ⟨ans, hans⟩ : ∃ ans, ans = callS a l S := ⟨_, rfl⟩
  rw [← hans]
  have HANS := Lib.hid hans
  have HROOM := Lib.hid hroom
  -- what each round reads
  have HRD : Hid (∀ j, j < q → ∃ ba oa ca bl ol cl' x, Value.slice aa q ac = .slice (some ⟨ba, oa, none⟩) q ca ∧ Value.slice al ln cl = .slice (some ⟨bl, ol, none⟩) ln cl' ∧ (a.at_.getD j 0) = ((atA a j : Nat) : Int) ∧ atA a j < ln ∧ x = l.getD (atA a j) 0 ∧ -60000 ≤ x ∧ x ≤ 60000 ∧
      ∀ X, Below W.heap.size W X → X.cell? ⟨ba, oa + j, none⟩ = some (.int .i64 ((atA a j : Nat) : Int)) ∧ X.cell? ⟨bl, ol + atA a j, none⟩ = some (.int .i64 x)) := Lib.hid fun j hj => by
    obtain ⟨a0, a1⟩ := HFA.out.at_ j (by omega)
    have hlt : atA a j < l.length := by unfold atA; omega
    have he : (a.at_.getD j 0) = ((atA a j : Nat) : Int) := by unfold atA; omega
    obtain ⟨ba, oa, ca, e1, k1⟩ := ints_at' h1 (j := j) (by omega)
    obtain ⟨bl, ol, cl', e2, k2⟩ := ints_at' hvl hlt
    have hm : l.getD (atA a j) 0 ∈ l := by simp [List.getD, hlt]
    have hx := HLO.out _ hm
    have hn := HRM.out.1
    unfold okL at hx
    rw [← hq] at e1
    rw [← hln] at e2
    refine ⟨ba, oa, ca, bl, ol, cl', _, e1, e2, he, by omega, rfl, by omega, by omega, fun X hX => ?_⟩
    have hb := HWB.out.trans (hX.mono HWB.out.size)
    exact ⟨by rw [k1 X hb, he], k2 X hb⟩
  have HNG : Hid (∀ j, j < nn → ∃ bn on cn', Value.slice an nn cn = .slice (some ⟨bn, on, none⟩) nn cn' ∧ ∀ X, Below W.heap.size W X → X.cell? ⟨bn, on + j, none⟩ = some (.bool (negA a j))) := Lib.hid fun j hj => by
    obtain ⟨bn, on, cn', e1, k1⟩ := bools_at2 h2 (j := j) (by omega)
    rw [← hnn] at e1
    refine ⟨bn, on, cn', e1, fun X hX => ?_⟩
    exact k1 X (HWB.out.trans (hX.mono HWB.out.size))
  have HNO : Hid (∀ j, nn ≤ j → negA a j = false) := Lib.hid fun j hj => by unfold negA; simp [List.getD, List.getElem?_eq_none (by omega : a.neg.length ≤ j)]
  clear h0 h1 h2 hvl hbk hBb h hB hr hi ha hl hll hk hq hnn hln hb hans hroom hW
  have B1 : Below W.heap.size W W := Below.refl _ _
  obtain ⟨c0, c1, c2⟩ := HCC.out W B1
  have HOS := Lib.hid (OwnI.start W)
  go_enter Try.func48, Try.ntmps48
  go_wp2_with fail
  rw [← HW.out, ← HBE.out]
  go_loopw [7, 8, 9] (fun out i _ wr => ∃ j : Nat, j ≤ q ∧ i = .int .i64 j ∧ OwnI W wr out ((List.range j).map (litA l a))) (fun _ i _ _ => q - (intOf i).toNat)
  case atStart => exact ⟨0, Nat.zero_le _, rfl, HOS.out⟩
  case round =>
    obtain ⟨j, hj, rfl, hO⟩ := hrel
    obtain ⟨y0, y1, y2⟩ := HCC.out _ hO.2.1
    by_cases hlt : (j : Int) < (q : Int)
    · have hjq : j < q := by omega
      obtain ⟨ba, oa, ca, bl, ol, cl', x, e1, e2, he, hal, hx, x0, x1, hcell⟩ := HRD.out j hjq
      injection e1 with e1
      injection e2 with e2
      subst e1 e2
      obtain ⟨z1, z2⟩ := hcell _ hO.2.1
      have hlit : litA l a j = if negA a j then -x else x := by unfold litA; rw [hx]
      generalize atA a j = t at *
      have hal' : (t : Int) < (ln : Int) := by omega
      have hsn := litsA_snoc l a j
      rw [hlit] at hsn
      obtain ⟨out, hout⟩ : ∃ out, out = (List.range j).map (litA l a) := ⟨_, rfl⟩
      rw [← hout] at hsn hO
      have hol : out.length = j := by rw [hout]; simp
      have HOL := Lib.hid hol
      have HO := Lib.hid hO
      by_cases hjn : (j : Int) < (nn : Int)
      · obtain ⟨bn, on, cn', e3, hc3⟩ := HNG.out j (by omega)
        injection e3 with e3
        subst e3
        have z3 := hc3 _ hO.2.1
        generalize hng : negA a j = ng at *
        cases ng with
        | true =>
          rw [if_pos rfl] at hsn
          have HS := Lib.hid hsn
          clear hO hsn hlit hx he hcell hout hol hal hc3
          go_wp2_with (at_builtin; refine wpList_I (w := W) rfl _ _ rfl _ out rfl (some ⟨wr.heap.size, 0, none⟩) 1 1 [-x] rfl rfl (by have := HOL.out; omega) (HO.out.below (below_new1 wr (.cells #[.int .i64 (-x)] 3))) (Src.one (heap_new1 _ _)) ?_; intro v4 w4 h4; have H4 := Lib.hid h4; clear h4)
          go_roundw
          case rel => exact ⟨j + 1, by omega, by go_num, by rw [HS.out]; exact H4.out⟩
          case measure => simp [intOf]; omega
        | false =>
          rw [if_neg (by decide)] at hsn
          have HS := Lib.hid hsn
          clear hO hsn hlit hx he hcell hout hol hal hc3
          go_wp2_with (at_builtin; refine wpList_I (w := W) rfl _ _ rfl _ out rfl (some ⟨wr.heap.size, 0, none⟩) 1 1 [x] rfl rfl (by have := HOL.out; omega) (HO.out.below (below_new1 wr (.cells #[.int .i64 (x)] 3))) (Src.one (heap_new1 _ _)) ?_; intro v4 w4 h4; have H4 := Lib.hid h4; clear h4)
          go_roundw
          case rel => exact ⟨j + 1, by omega, by go_num, by rw [HS.out]; exact H4.out⟩
          case measure => simp [intOf]; omega
      · rw [HNO.out j (by omega), if_neg (by decide)] at hsn
        have HS := Lib.hid hsn
        clear hO hsn hlit hx he hcell hout hol hal
        go_wp2_with (at_builtin; refine wpList_I (w := W) rfl _ _ rfl _ out rfl (some ⟨wr.heap.size, 0, none⟩) 1 1 [x] rfl rfl (by have := HOL.out; omega) (HO.out.below (below_new1 wr (.cells #[.int .i64 (x)] 3))) (Src.one (heap_new1 _ _)) ?_; intro v4 w4 h4; have H4 := Lib.hid h4; clear h4)
        go_roundw
        case rel => exact ⟨j + 1, by omega, by go_num, by rw [HS.out]; exact H4.out⟩
        case measure => simp [intOf]; omega
    · obtain rfl : j = q := by omega
      have hO' : OwnI W wr u7 (litsA l a) := by unfold litsA; rw [← HQ.out]; exact hO
      have HO := Lib.hid hO'
      have BX : Below wr.heap.size wr wr := Below.refl _ _
      have HPRE : Hid (∀ X, Below wr.heap.size wr X → Below w.heap.size w X) := Lib.hid fun X hX => by
        have h1 := hO'.2.1.trans (hX.mono hO'.2.1.size)
        exact HWB.out.trans (h1.mono HWB.out.size)
      have HLL : Hid ((litsA l a).length = j) := Lib.hid (by rw [litsA_len, ← HQ.out])
      have HLG : Hid (∀ i, i < j → (litsA l a).getD i 0 = litA l a i) := Lib.hid fun i hi => by unfold litsA; rw [← HQ.out]; simp [List.getD, hi]
      obtain ⟨k0, k7⟩ := HFA.out.k
      obtain ⟨m0, m2, m3, m7⟩ := HFA.out.many
      rw [← HK.out] at k0 k7 m0 m2 m3 m7
      rw [← HQ.out] at m0 m2 m3 m7
      clear hO hO' c0 c1 c2 HRD HNG HNO HI1 HI2 HIL
      rcases (show k = 0 ∨ k = 1 ∨ k = 2 ∨ k = 3 ∨ k = 4 ∨ k = 5 ∨ k = 6 ∨ k = 7 by omega) with hk | hk | hk | hk | hk | hk | hk | hk
      · subst hk
        have HA : Hid (∀ X, Below wr.heap.size wr X → Calls Try.prog 16 #[.pointer (some ⟨g, 0, none⟩)] X fun e w' => e = .returned (.int .i64 ans.1) ∧ GLeft fp B w g f m ans.2 w') := Lib.hid fun X hX => by
          have hb := HPRE.out X hX
          have e : ans = (((S.n + 1 : Nat) : Int), ⟨S.n + 1, S.cl, S.tab⟩) := by rw [HANS.out]; unfold callS; rw [← HK.out]; simp
          rw [e]
          exact (fresh_A (HG.out.below hb) HROOM.out.n).mono fun e w' ⟨q1, q2⟩ => ⟨q1, GLeft.pre hb HB.out q2⟩
        obtain ⟨A, cap, rfl, -⟩ := HO.out.form
        clear m0 m2 m3 m7
        go_wp2_with (go_at_call 16; refine (HA.out _ BX).mono ?_; rintro e w2 ⟨rfl, hL⟩; have HL := Lib.hid hL; clear hL)
        go_ret
        exact ⟨rfl, HL.out⟩
      · obtain rfl := m2 (by omega)
        subst hk
        have HA : Hid (∀ X, Below wr.heap.size wr X → Calls Try.prog 10 #[.pointer (some ⟨g, 0, none⟩), .int .i64 (litA l a 0), .int .i64 (litA l a 1)] X fun e w' => e = .returned (.int .i64 ans.1) ∧ GLeft fp B w g f m ans.2 w') := Lib.hid fun X hX => by
          have hb := HPRE.out X hX
          have e : ans = andS (litA l a 0) (litA l a 1) S := by rw [HANS.out]; unfold callS; rw [← HK.out]; simp
          rw [e]
          exact (And_ (HG.out.below hb) (Nat.le_trans HB.out hb.size) HROOM.out (HLA.out 0 (by omega)) (HLA.out 1 (by omega))).mono fun e w' ⟨q1, q2⟩ => ⟨q1, GLeft.pre hb HB.out q2⟩
        obtain ⟨gx, cx, rfl, -, hc⟩ := own_cells HO.out (by rw [HLL.out]; omega)
        rw [HLL.out] at hc ⊢
        have x0 := hc 0 (by omega) _ BX.drew
        have x1 := hc 1 (by omega) _ BX.drew
        rw [HLG.out 0 (by omega)] at x0
        rw [HLG.out 1 (by omega)] at x1
        generalize litA l a 0 = l0 at *
        generalize litA l a 1 = l1 at *
        clear hc m0 m2 m3 m7
        go_wp2_with fail
        go_region_law (go_simp; go_at_call 10; refine (HA.out _ (by first | assumption | exact BX.drew)).mono ?_; rintro e w2 ⟨rfl, hL⟩)
        all_goals
          have HL := Lib.hid hL
          clear hL
          go_wp2_with fail
          go_ret
          exact ⟨rfl, HL.out⟩
      · obtain rfl := m2 (by omega)
        subst hk
        have HA : Hid (∀ X, Below wr.heap.size wr X → Calls Try.prog 17 #[.pointer (some ⟨g, 0, none⟩), .int .i64 (litA l a 0), .int .i64 (litA l a 1)] X fun e w' => e = .returned (.int .i64 ans.1) ∧ GLeft fp B w g f m ans.2 w') := Lib.hid fun X hX => by
          have hb := HPRE.out X hX
          have e : ans = orS (litA l a 0) (litA l a 1) S := by rw [HANS.out]; unfold callS; rw [← HK.out]; simp
          rw [e]
          exact (Or_ (HG.out.below hb) (Nat.le_trans HB.out hb.size) HROOM.out HGI.out (HLA.out 0 (by omega)) (HLA.out 1 (by omega))).mono fun e w' ⟨q1, q2⟩ => ⟨q1, GLeft.pre hb HB.out q2⟩
        obtain ⟨gx, cx, rfl, -, hc⟩ := own_cells HO.out (by rw [HLL.out]; omega)
        rw [HLL.out] at hc ⊢
        have x0 := hc 0 (by omega) _ BX.drew
        have x1 := hc 1 (by omega) _ BX.drew
        rw [HLG.out 0 (by omega)] at x0
        rw [HLG.out 1 (by omega)] at x1
        generalize litA l a 0 = l0 at *
        generalize litA l a 1 = l1 at *
        clear hc m0 m2 m3 m7
        go_wp2_with fail
        go_region_law (go_simp; go_at_call 17; refine (HA.out _ (by first | assumption | exact BX.drew)).mono ?_; rintro e w2 ⟨rfl, hL⟩)
        all_goals
          have HL := Lib.hid hL
          clear hL
          go_wp2_with fail
          go_ret
          exact ⟨rfl, HL.out⟩
      · obtain rfl := m2 (by omega)
        subst hk
        have HA : Hid (∀ X, Below wr.heap.size wr X → Calls Try.prog 11 #[.pointer (some ⟨g, 0, none⟩), .int .i64 (litA l a 0), .int .i64 (litA l a 1)] X fun e w' => e = .returned (.int .i64 ans.1) ∧ GLeft fp B w g f m ans.2 w') := Lib.hid fun X hX => by
          have hb := HPRE.out X hX
          have e : ans = xorS (litA l a 0) (litA l a 1) S := by rw [HANS.out]; unfold callS; rw [← HK.out]; simp
          rw [e]
          exact (Xor_ (HG.out.below hb) (Nat.le_trans HB.out hb.size) HROOM.out HGI.out (HLA.out 0 (by omega)) (HLA.out 1 (by omega))).mono fun e w' ⟨q1, q2⟩ => ⟨q1, GLeft.pre hb HB.out q2⟩
        obtain ⟨gx, cx, rfl, -, hc⟩ := own_cells HO.out (by rw [HLL.out]; omega)
        rw [HLL.out] at hc ⊢
        have x0 := hc 0 (by omega) _ BX.drew
        have x1 := hc 1 (by omega) _ BX.drew
        rw [HLG.out 0 (by omega)] at x0
        rw [HLG.out 1 (by omega)] at x1
        generalize litA l a 0 = l0 at *
        generalize litA l a 1 = l1 at *
        clear hc m0 m2 m3 m7
        go_wp2_with fail
        go_region_law (go_simp; go_at_call 11; refine (HA.out _ (by first | assumption | exact BX.drew)).mono ?_; rintro e w2 ⟨rfl, hL⟩)
        all_goals
          have HL := Lib.hid hL
          clear hL
          go_wp2_with fail
          go_ret
          exact ⟨rfl, HL.out⟩
      · obtain rfl := m3 (by omega)
        subst hk
        have HA : Hid (∀ X, Below wr.heap.size wr X → Calls Try.prog 12 #[.pointer (some ⟨g, 0, none⟩), .int .i64 (litA l a 0), .int .i64 (litA l a 1), .int .i64 (litA l a 2)] X fun e w' => e = .returned (.int .i64 ans.1) ∧ GLeft fp B w g f m ans.2 w') := Lib.hid fun X hX => by
          have hb := HPRE.out X hX
          have e : ans = chooseS (litA l a 0) (litA l a 1) (litA l a 2) S := by rw [HANS.out]; unfold callS; rw [← HK.out]; simp
          rw [e]
          exact (Choose_ (HG.out.below hb) (Nat.le_trans HB.out hb.size) HROOM.out (HLA.out 0 (by omega)) (HLA.out 1 (by omega)) (HLA.out 2 (by omega))).mono fun e w' ⟨q1, q2⟩ => ⟨q1, GLeft.pre hb HB.out q2⟩
        obtain ⟨gx, cx, rfl, -, hc⟩ := own_cells HO.out (by rw [HLL.out]; omega)
        rw [HLL.out] at hc ⊢
        have x0 := hc 0 (by omega) _ BX.drew
        have x1 := hc 1 (by omega) _ BX.drew
        have x2 := hc 2 (by omega) _ BX.drew
        rw [HLG.out 0 (by omega)] at x0
        rw [HLG.out 1 (by omega)] at x1
        rw [HLG.out 2 (by omega)] at x2
        generalize litA l a 0 = l0 at *
        generalize litA l a 1 = l1 at *
        generalize litA l a 2 = l2 at *
        clear hc m0 m2 m3 m7
        go_wp2_with fail
        go_region_law (go_simp; go_at_call 12; refine (HA.out _ (by first | assumption | exact BX.drew)).mono ?_; rintro e w2 ⟨rfl, hL⟩)
        all_goals
          have HL := Lib.hid hL
          clear hL
          go_wp2_with fail
          go_ret
          exact ⟨rfl, HL.out⟩
      · subst hk
        have HA : Hid (∀ X, Below wr.heap.size wr X → Calls Try.prog 13 #[.pointer (some ⟨g, 0, none⟩), u7] X fun e w' => e = .returned (.int .i64 ans.1) ∧ GLeft fp B w g f m ans.2 w') := Lib.hid fun X hX => by
          have hb := HPRE.out X hX
          have e : ans = allS (litsA l a) S := by rw [HANS.out]; unfold callS; rw [← HK.out]; simp
          rw [e]
          exact (All_ (HG.out.below hb) (Nat.le_trans HB.out hb.size) HROOM.out (HO.out.ints.below hX) (litsA_ok HLO.out HFA.out) (by rw [litsA_len]; have := HFA.out.len; omega)).mono fun e w' ⟨q1, q2⟩ => ⟨q1, GLeft.pre hb HB.out q2⟩
        obtain ⟨A, cap, rfl, -⟩ := HO.out.form
        rw [HLL.out] at HA ⊢
        clear m0 m2 m3 m7
        go_wp2_with (go_at_call 13; refine (HA.out _ BX).mono ?_; rintro e w2 ⟨rfl, hL⟩; have HL := Lib.hid hL; clear hL)
        go_ret
        exact ⟨rfl, HL.out⟩
      · subst hk
        have HA : Hid (∀ X, Below wr.heap.size wr X → Calls Try.prog 18 #[.pointer (some ⟨g, 0, none⟩), u7] X fun e w' => e = .returned (.int .i64 ans.1) ∧ GLeft fp B w g f m ans.2 w') := Lib.hid fun X hX => by
          have hb := HPRE.out X hX
          have e : ans = someS (litsA l a) S := by rw [HANS.out]; unfold callS; rw [← HK.out]; simp
          rw [e]
          exact (Some_ (HG.out.below hb) (Nat.le_trans HB.out hb.size) HROOM.out HGI.out (HO.out.ints.below hX) (litsA_ok HLO.out HFA.out) (by rw [litsA_len]; have := HFA.out.len; omega)).mono fun e w' ⟨q1, q2⟩ => ⟨q1, GLeft.pre hb HB.out q2⟩
        obtain ⟨A, cap, rfl, -⟩ := HO.out.form
        rw [HLL.out] at HA ⊢
        clear m0 m2 m3 m7
        go_wp2_with (go_at_call 18; refine (HA.out _ BX).mono ?_; rintro e w2 ⟨rfl, hL⟩; have HL := Lib.hid hL; clear hL)
        go_ret
        exact ⟨rfl, HL.out⟩
      · subst hk
        have hj2 := m7 rfl
        obtain ⟨h, hh⟩ : ∃ h, h = j / 2 := ⟨_, rfl⟩
        obtain rfl : j = h + h := by omega
        clear m0 m2 m3 m7 hh hj2
        have hps : (halvesA l a).length = h ∧ (halvesA l a).map (·.1) = (litsA l a).take h ∧ (halvesA l a).map (·.2) = (litsA l a).drop h ∧ ptok S.n (halvesA l a) := halves_facts (by rw [← HQ.out]) HLA.out
        have HPS := Lib.hid hps
        have hz : IntKind.i64.wrap (((h : Int) + (h : Int)).tdiv 2) = (h : Int) := by
          have e : ((h : Int) + (h : Int)).tdiv 2 = (h : Int) := by rw [show (h : Int) + (h : Int) = ((h + h : Nat) : Int) by omega, tdiv2]; omega
          rw [e]; exact IntWalk.i64_in _ (by omega)
        have HA : Hid (∀ X (A1 A2 : Option Addr) (c1 c2 : Nat), Below wr.heap.size wr X → Ints wr (.slice A1 h c1) ((litsA l a).take h) → Ints wr (.slice A2 h c2) ((litsA l a).drop h) → (∀ x, A1 = some x → w.heap.size < x.block ∧ x.block < wr.heap.size) → (∀ x, A2 = some x → w.heap.size < x.block ∧ x.block < wr.heap.size) →
            Calls Try.prog 14 #[.pointer (some ⟨g, 0, none⟩), .slice A1 h c1, .slice A2 h c2] X fun e w' => e = .returned (.int .i64 ans.1) ∧ GLeft fp B w g f m ans.2 w') := Lib.hid fun X A1 A2 c1 c2 hX i1 i2 b1 b2 => by
          have hb := HPRE.out X hX
          have e : ans = equalS (halvesA l a) S := by rw [HANS.out]; unfold callS; rw [← HK.out]; simp
          rw [e]
          obtain ⟨p1, p2, p3, p4⟩ := HPS.out
          obtain ⟨D, hrep, hGA⟩ := HG.out
          have hfl := hGA.fo.lt'
          have hml := hGA.mp.lt
          have hxs := hX.size
          have := Equal_ (HG.out.below hb) (Nat.le_trans HB.out hb.size) HRM.out HGI.out (a := A1) (b := A2) (ca := c1) (cb := c2) (ps := halvesA l a) (by rw [p1, p2]; exact i1.below hX) (by rw [p1, p3]; exact i2.below hX) p4 (by rw [p1]; omega)
            (fun x hx => ⟨by have := (b1 x hx).2; omega, fun e => by have := hfl _ e; have := (b1 x hx).1; omega, by have := (b1 x hx).1; omega⟩) (fun x hx => ⟨by have := (b2 x hx).2; omega, fun e => by have := hfl _ e; have := (b2 x hx).1; omega, by have := (b2 x hx).1; omega⟩)
          rw [p1] at this
          exact this.mono fun e w' ⟨q1, q2⟩ => ⟨q1, GLeft.pre hb HB.out q2⟩
        have HWS : Hid (W.heap.size = w.heap.size + 1) := Lib.hid (by rw [HW.out]; simp)
        rcases HO.out.form2 with ⟨rfl, he⟩ | ⟨gx, cx, cur, rfl, hg, hcur, hcx, hcm, -⟩
        · have h0 : h = 0 := by have := HLL.out; rw [he] at this; simp at this; omega
          subst h0
          have HA0 : Hid (Calls Try.prog 14 #[.pointer (some ⟨g, 0, none⟩), .slice none 0 0, .slice none 0 0] wr.drew fun e w' => e = .returned (.int .i64 ans.1) ∧ GLeft fp B w g f m ans.2 w') := Lib.hid (by
            have hn := ints_nil wr
            exact HA.out wr.drew none none 0 0 BX.drew (by rw [he]; exact hn) (by rw [he]; exact hn) (fun x hx => by cases hx) (fun x hx => by cases hx))
          clear HA he HPS hps hz
          have w0 : IntKind.i64.wrap 0 = 0 := by decide
          go_wp2_with fail
          go_region_law (go_simp; go_at_call 14; refine HA0.out.mono ?_; rintro e w2 ⟨rfl, hL⟩)
          all_goals
            have HL := Lib.hid hL
            clear hL
            go_wp2_with fail
            go_ret
            exact ⟨rfl, HL.out⟩
        · have HO1 := Lib.hid (own_halves HO.out (h := h) HLL.out HLL.out hcx hcm)
          rw [HLL.out] at hcx ⊢
          have HLT : Hid (w.heap.size < gx ∧ gx < wr.heap.size) := Lib.hid ⟨by have := HWS.out; omega, (Array.getElem?_eq_some_iff.1 hcur).1⟩
          clear hcur hps
          by_cases h0 : h = 0
          · subst h0
            have HA0 : Hid (Calls Try.prog 14 #[.pointer (some ⟨g, 0, none⟩), .slice (some ⟨gx, 0, none⟩) 0 cx, .slice (some ⟨gx, 0, none⟩) 0 cx] wr.drew fun e w' => e = .returned (.int .i64 ans.1) ∧ GLeft fp B w g f m ans.2 w') := Lib.hid
              (HA.out wr.drew _ _ _ _ BX.drew HO1.out.1 (by simpa using HO1.out.2) (fun x hx => by injection hx with hx; subst hx; exact HLT.out) (fun x hx => by injection hx with hx; subst hx; exact HLT.out))
            have w0 : IntKind.i64.wrap 0 = 0 := by decide
            have z1 : (0 : Int) ≤ (cx : Int) := by omega
            clear HA HPS hz
            go_wp2_with fail
            go_region_law (go_simp; go_at_call 14; refine HA0.out.mono ?_; rintro e w2 ⟨rfl, hL⟩)
            all_goals
              have HL := Lib.hid hL
              clear hL
              go_wp2_with fail
              go_ret
              exact ⟨rfl, HL.out⟩
          · have HA0 : Hid (Calls Try.prog 14 #[.pointer (some ⟨g, 0, none⟩), .slice (some ⟨gx, 0, none⟩) h cx, .slice (some ⟨gx, h, none⟩) h (cx - h)] wr.drew fun e w' => e = .returned (.int .i64 ans.1) ∧ GLeft fp B w g f m ans.2 w') := Lib.hid
              (HA.out wr.drew _ _ _ _ BX.drew HO1.out.1 HO1.out.2 (fun x hx => by injection hx with hx; subst hx; exact HLT.out) (fun x hx => by injection hx with hx; subst hx; exact HLT.out))
            have z1 : (h : Int) ≤ (cx : Int) := by omega
            have z2 : (h : Int) + (h : Int) ≤ (cx : Int) := by omega
            have z3 : (h : Int) ≤ (h : Int) + (h : Int) := by omega
            have z4 : ¬ cx = h := by omega
            clear HA HPS
            go_wp2_with fail
            go_region_law (go_simp; go_at_call 14; refine HA0.out.mono ?_; rintro e w2 ⟨rfl, hL⟩)
            all_goals
              have HL := Lib.hid hL
              clear hL
              go_wp2_with fail
              go_ret
              exact ⟨rfl, HL.out⟩
end
end Go.Proofs.Ytkofhilgehhopaa
/-
  The law's free, walked.
-/
namespace Go.Proofs.Ytkofhilgehhopaa
open Go Go.ChangeShapes Go.WideShapes Go.ChangeAt Go.RowKit Go.Maps
set_option linter.unusedVariables false
set_option linter.unusedSimpArgs false
attribute [local go_sem ↓] Go.wp_at_zero Go.wp_at_succ
set_option maxHeartbeats 4000000 in
set_option maxRecDepth 100000 in
theorem free_ {w : World} {v vl : Value} {xs : List ActD} {l : List Int} (h : ActsS w v xs) (hvl : Ints w vl l) (hlen : l.length = xs.length + 1) (h9 : xs.length ≤ 100) (hl : ∀ x ∈ l, -100000 ≤ x ∧ x ≤ 100000) :
    Calls Try.prog 23 #[v, vl] w fun e w' => ∃ u, e = .returned u ∧ OwnI w w' u (freeA xs l xs.length) := by
  have HH := Lib.hid h
  have HV := Lib.hid hvl
  obtain ⟨aa, ac, rfl, -, -⟩ := h.form
  obtain ⟨la, lc, rfl, -⟩ := id hvl
  have HLN := Lib.hid hlen
  have HL := Lib.hid hl
  obtain ⟨q, hq⟩ : ∃ q, q = xs.length := ⟨_, rfl⟩
  obtain ⟨ln, hln⟩ : ∃ ln, ln = l.length := ⟨_, rfl⟩
  rw [← hq] at HLN h9 ⊢
  rw [← hln] at HLN ⊢
  have HQ := Lib.hid hq
  have HN := Lib.hid hln
  have q9 : (q : Int) ≤ 100 := by omega
  have hlq : ln = q + 1 := HLN.out
  have hlz : (ln : Int) = (q : Int) + 1 := by omega
  have HRD : Hid (∀ j, j < q → ∃ bl ol cl x, Value.slice la ln lc = .slice (some ⟨bl, ol, none⟩) ln cl ∧ x = l.getD (j + 1) 0 ∧ -100000 ≤ x ∧ x ≤ 100000 ∧ ∀ X, Below w.heap.size w X → X.cell? ⟨bl, ol + (j + 1), none⟩ = some (.int .i64 x)) := Lib.hid fun j hj => by
    obtain ⟨bl, ol, cl, e, k⟩ := ints_at' hvl (j := j + 1) (by omega)
    rw [← hln] at e
    have hm : l.getD (j + 1) 0 ∈ l := by simp [List.getD, show j + 1 < l.length by omega]
    have := HL.out _ hm
    exact ⟨bl, ol, cl, _, e, rfl, this.1, this.2, k⟩
  clear h hvl hlen hl hq hln hlq
  go_enter Try.func23, Try.ntmps23
  go_wp2
  go_loopw [5, 6] (fun out i wr => ∃ j : Nat, j ≤ q ∧ i = .int .i64 j ∧ OwnI w wr out (freeA xs l j)) (fun _ i _ => q - (intOf i).toNat)
  case atStart => exact ⟨0, Nat.zero_le _, rfl, OwnI.start w⟩
  case round =>
    obtain ⟨j, hj, rfl, hO⟩ := hrel
    by_cases hlt : (j : Int) < (q : Int)
    · have hjq : j < q := by omega
      obtain ⟨b, off, cap, va, vn, he, hva, hcell⟩ := HH.out.at_ (j := j) (by rw [← HQ.out]; exact hjq)
      injection he with e1
      subst e1
      obtain ⟨c0, c1, c2, c3⟩ := hcell _ hO.2.1
      have hsn := freeA_snoc xs l j
      generalize hkk : (xs.getD j act0).k = k at *
      generalize hfr : (xs.getD j act0).fr = fr at *
      by_cases hk : k = 0
      · rw [if_pos hk] at hsn
        subst hk
        obtain ⟨bl, ol, cl, x, e2, hx, x0, x1, hc2⟩ := HRD.out j hjq
        injection e2 with e2
        subst e2
        have z1 := hc2 _ hO.2.1
        rw [← hx] at hsn
        obtain ⟨out, hout⟩ : ∃ out, out = freeA xs l j := ⟨_, rfl⟩
        have hol : out.length ≤ j := by rw [hout]; exact freeA_len _ _ _
        rw [← hout] at hsn hO
        have HOL := Lib.hid hol
        have HO := Lib.hid hO
        have HS := Lib.hid hsn
        clear hx hc2 hout hol hO hsn hva hcell
        cases fr with
        | true =>
          replace HS : Hid (freeA xs l (j + 1) = out ++ [x]) := Lib.hid (by rw [HS.out, if_pos rfl])
          go_wp2_with (at_builtin; refine wpList_I (w := w) rfl _ _ rfl _ out rfl (some ⟨wr.heap.size, 0, none⟩) 1 1 [x] rfl rfl (by have := HOL.out; simp; omega) (HO.out.below (below_new1 wr (.cells #[.int .i64 (x)] 3))) (Src.one (heap_new1 _ _)) ?_; intro v4 w4 h4; have H4 := Lib.hid h4; clear h4)
          go_roundw
          case rel => exact ⟨j + 1, by omega, by go_num, by rw [HS.out]; exact H4.out⟩
          case measure => simp [intOf]; omega
        | false =>
          replace HS : Hid (freeA xs l (j + 1) = out ++ [-x]) := Lib.hid (by rw [HS.out, if_neg (by decide)])
          go_wp2_with (at_builtin; refine wpList_I (w := w) rfl _ _ rfl _ out rfl (some ⟨wr.heap.size, 0, none⟩) 1 1 [-x] rfl rfl (by have := HOL.out; simp; omega) (HO.out.below (below_new1 wr (.cells #[.int .i64 (-x)] 3))) (Src.one (heap_new1 _ _)) ?_; intro v4 w4 h4; have H4 := Lib.hid h4; clear h4)
          go_roundw
          case rel => exact ⟨j + 1, by omega, by go_num, by rw [HS.out]; exact H4.out⟩
          case measure => simp [intOf]; omega
      · rw [if_neg hk, List.append_nil] at hsn
        have d0 : (k == 0) = false := by rw [beq_eq_false_iff_ne]; exact hk
        have d1 : (k != 0) = true := by rw [bne_iff_ne]; exact hk
        have HS := Lib.hid hsn
        have HO := Lib.hid hO
        clear hsn hO hva hcell hk
        go_wp2
        go_roundw
        case rel => exact ⟨j + 1, by omega, by go_num, by rw [HS.out]; exact HO.out⟩
        case measure => simp [intOf]; omega
    · have hjq : j = q := by omega
      subst hjq
      have HO := Lib.hid hO
      clear hO
      go_wp2
      go_ret
      exact ⟨_, rfl, HO.out⟩
end Go.Proofs.Ytkofhilgehhopaa
