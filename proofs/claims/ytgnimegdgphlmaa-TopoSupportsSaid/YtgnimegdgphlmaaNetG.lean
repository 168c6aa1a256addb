/-
  Netlists: the document's Defined, walked.
-/
import Derived.Test.YtgnimegdgphlmaaNetF
namespace Go.Proofs.Ytgnimegdgphlmaa
open Go.ChangeShapes Go.WideShapes Go.ChangeAt Go.RowKit
set_option linter.unusedVariables false
set_option linter.unusedSimpArgs false
attribute [local go_sem ↓] Go.wp_at_zero Go.wp_at_succ
theorem take_succ_D {α : Type} {l : List α} {k : Nat} (d : α) (h : k < l.length) : l.take (k + 1) = l.take k ++ [l.getD k d] := by
  rw [List.take_add_one, List.getElem?_eq_getElem h]
  simp [List.getD, h]
theorem flatMap_take {α β : Type} {l : List α} {k : Nat} (d : α) (f : α → List β) (h : k < l.length) : (l.take (k + 1)).flatMap f = (l.take k).flatMap f ++ f (l.getD k d) := by
  rw [take_succ_D d h, List.flatMap_append]; simp
theorem map_take_D {α β : Type} {l : List α} {k : Nat} (d : α) (f : α → β) (h : k < l.length) : (l.take (k + 1)).map f = (l.take k).map f ++ [f (l.getD k d)] := by
  rw [take_succ_D d h, List.map_append]; rfl
theorem ints_src {w : World} {A : Option Addr} {n cap : Nat} {xs : List Int} (h : Ints w (.slice A n cap) xs) : Src w A 1 n (xs.map iv) := by
  obtain ⟨a, c, e, -, -, -, h3⟩ := h
  injection e with e1 e2 e3
  subst e1 e2
  refine ⟨by simp, fun h0 => ?_⟩
  have hne : xs ≠ [] := fun e => by rw [e] at h0; simp at h0
  obtain ⟨b, off, rfl, hc⟩ := h3.resolve_left hne
  refine ⟨b, off, rfl, fun j u hu => ?_⟩
  have hj : j < xs.length := by have := (List.getElem?_eq_some_iff.1 hu).1; simpa using this
  rw [hc j hj]
  simp [hj, iv] at hu
  rw [← hu]; simp [List.getD, hj]
/-- The net's memories are such as may be gone through. -/
def LiMs (d : NetD) : Prop := ∀ k, k < d.mems.length → liM (d.mems.getD k mem0) = true
theorem lightN_iff {d : NetD} (h : lightN d = true) : liH d = true ∧ LiMs d := by
  unfold lightN at h
  rw [Bool.and_eq_true] at h
  refine ⟨h.1, fun k hk => ?_⟩
  have := List.all_eq_true.1 h.2 _ (List.getElem_mem hk)
  simpa [List.getD, hk] using this
theorem liM_parts {m : MemD} (h : liM m = true) : liMH m = true ∧ (∀ k, k < m.rd.length → liR (m.rd.getD k rd0) = true) ∧ ∀ k, k < m.wr.length → liW (m.wr.getD k wr0) = true := by
  unfold liM at h
  rw [Bool.and_eq_true, Bool.and_eq_true] at h
  refine ⟨h.1.1, fun k hk => ?_, fun k hk => ?_⟩
  · have := List.all_eq_true.1 h.1.2 _ (List.getElem_mem hk)
    simpa [List.getD, hk] using this
  · have := List.all_eq_true.1 h.2 _ (List.getElem_mem hk)
    simpa [List.getD, hk] using this
set_option maxHeartbeats 8000000 in
set_option maxRecDepth 100000 in
theorem r05_Defined {w : World} {d : NetD} {vi vl vo vb vc vm va : Value} (h : NetP w d vi vl vo vb vc vm va) (hl : liH d = true) (hm : LiMs d) :
    Calls Try.prog 50 #[netV d vi vl vo vb vc vm va] w (RetI w (definedN d)) := by
  obtain ⟨ai, ci, ni, al, cl, nl, ao, co, no, ab, cb, nb, ac, cc, nc, am, cm, nm, aa, ca, na, rfl, rfl, rfl, rfl, rfl, rfl, rfl, HN, HC⟩ := h.open_ hl
  obtain ⟨⟨i1, i2, i3⟩, ⟨l1, l2, l3⟩, ⟨o1, o2, o3⟩, ⟨b1, b2, b3⟩, ⟨c1, c2, c3⟩, ⟨m1, m2, m3⟩, ⟨a1, a2, a3⟩⟩ := HC
  unfold netV
  obtain ⟨wb, hwb⟩ : ∃ wb, wb = w.alloc (.cells #[.int .i64 d.vars, .slice ai ni ci, .slice al nl cl, .slice ao no co, .slice ab nb cb, .slice ac nc cc, .slice am nm cm, .slice aa na ca] 27) := ⟨_, rfl⟩
  obtain ⟨bx, hbx⟩ : ∃ bx, bx = w.heap.size := ⟨_, rfl⟩
  have HB1 : Hid (Below w.heap.size w wb) := Lib.hid (by rw [hwb]; exact below_new1 w _)
  have HBX : Hid (NBox wb bx d (.slice ai ni ci) (.slice al nl cl) (.slice ao no co) (.slice ab nb cb) (.slice ac nc cc) (.slice am nm cm) (.slice aa na ca)) := Lib.hid (by rw [hwb, hbx]; exact NBox.new w _ _ _ _ _ _ _ _)
  have HP := Lib.hid (h.below HB1.out)
  have HM := Lib.hid hm
  have hbs : w.heap.size + 1 = wb.heap.size := by rw [hwb]; simp
  have HW1 := Lib.hid hwb
  have HBE := Lib.hid hbx
  have HNEW : Hid (OwnI wb (wb.alloc (.cells #[] 3)) (.slice (some ⟨w.heap.size + 1, 0, none⟩) 0 0) []) := Lib.hid (by rw [hbs]; exact OwnI.new (heap_new1 wb _) (below_new1 wb _) (Nat.le_refl _))
  have HSRC := Lib.hid ((ints_src (HP.out.inp)).below (below_new1 wb (.cells #[] 3)))
  rw [HW1.out] at HNEW HSRC
  have hII : d.inp.length = ni := HN.out.inp.symm
  have HII := Lib.hid hII
  clear h hl hm hwb hbx hII hbs
  go_enter Try.func50, Try.ntmps50
  go_wp2_with (at_builtin; refine wpList_I rfl _ _ rfl _ [] rfl ai ni ci d.inp rfl HII.out (by simp; omega) HNEW.out HSRC.out ?_; intro v3 w3 h3; have H3 := Lib.hid h3; clear h3)
  rw [← HW1.out] at H3
  rw [List.nil_append] at H3
  rw [← HBE.out]
  clear HNEW HSRC
  go_loopw [3, 4] (fun u i wr => ∃ k : Nat, k ≤ nl ∧ i = .int .i64 k ∧ OwnI wb wr u (d.inp ++ (d.lat.take k).map (·.1))) (fun _ i _ => nl - (intOf i).toNat)
  case atStart => exact ⟨0, Nat.zero_le _, rfl, by simpa using H3.out⟩
  case round =>
    obtain ⟨k, hk, rfl, hO⟩ := hrel
    have c2 := (HBX.out.later hO.2.1).c2
    have hP := HP.out.below hO.2.1
    have HO := Lib.hid hO
    by_cases hlt : (k : Int) < (nl : Int)
    · have hkn : k < d.lat.length := by have := HN.out.lat; omega
      obtain ⟨b, off, cap', he, hone⟩ := hP.lat.at_ hkn
      injection he with e1 e2 e3
      subst e1
      obtain ⟨q0, -, -⟩ := hone
      have hrow := map_take_D (f := fun x : Tri => x.1) tri0 hkn
      obtain ⟨y, hy⟩ : ∃ y, y = (d.lat.getD k tri0).1 := ⟨_, rfl⟩
      rw [← hy] at q0 hrow
      have HROW := Lib.hid hrow
      have HBD : Hid ((d.inp ++ (d.lat.take k).map (·.1)).length + 1 ≤ 1099511627776) := Lib.hid (by have := HN.out.inp; simp; omega)
      clear hrow hy e2 e3 hkn hP hO
      go_wp2_with (at_builtin; refine wpList_I (w := wb) rfl _ _ rfl _ (d.inp ++ (d.lat.take k).map (·.1)) rfl (some ⟨wr.heap.size, 0, none⟩) 1 1 [y] rfl rfl HBD.out (HO.out.below (below_new1 wr (.cells #[.int .i64 y] 3))) (Src.one (heap_new1 _ _)) ?_; intro v4 w4 h4; have H4 := Lib.hid h4; clear h4)
      go_roundw
      case rel => exact ⟨k + 1, by omega, by go_num, by rw [HROW.out, ← List.append_assoc]; exact H4.out⟩
      case measure => simp [intOf]; omega
    · obtain rfl : k = nl := by omega
      have hall : d.inp ++ (d.lat.take k).map (·.1) = d.inp ++ d.lat.map (·.1) := by rw [List.take_of_length_le (by have := HN.out.lat; omega)]
      rw [hall] at HO
      obtain ⟨L0, hL0⟩ : ∃ L, L = d.inp ++ d.lat.map (·.1) := ⟨_, rfl⟩
      rw [← hL0] at HO
      have HL0 := Lib.hid hL0
      have HLL : Hid (L0.length ≤ 4200) := Lib.hid (by have := HN.out.inp; have := HN.out.lat; rw [hL0]; simp; omega)
      obtain ⟨wo, rfl⟩ : ∃ wo : World, wo = wr := ⟨_, rfl⟩
      clear hall hL0 hO hP
      go_wp2
      clear c2
      go_loopw [3, 5, 6] (fun u i _ wr => ∃ k : Nat, ∃ xs, k ≤ nm ∧ i = .int .i64 k ∧ xs = L0 ++ (d.mems.take k).flatMap memDef ∧ xs.length ≤ 4200 + 600 * k ∧ OwnI wb wr u xs) (fun _ i _ _ => nm - (intOf i).toNat)
      case atStart => exact ⟨0, _, Nat.zero_le _, rfl, rfl, by have := HLL.out; simp; omega, by simpa using HO.out⟩
      case round =>
        obtain ⟨k, xs, hk2, rfl, hxs, hxl, hO⟩ := hrel
        have c6 := (HBX.out.later hO.2.1).c6
        have HO := Lib.hid hO
        have HXS := Lib.hid hxs
        clear hO hxs
        by_cases hlt2 : (k : Int) < (nm : Int)
        · have hkn : k < d.mems.length := by have := HN.out.mems; omega
          obtain ⟨b, off, cap', he, hmem⟩ := HP.out.mems.at_ hkn
          injection he with e1 e2 e3
          subst e1
          have hfm := flatMap_take mem0 memDef hkn
          have hlm := liM_parts (HM.out k hkn)
          obtain ⟨mm, hmm⟩ : ∃ mm, mm = d.mems.getD k mem0 := ⟨_, rfl⟩
          rw [← hmm] at hmem hfm hlm
          obtain ⟨ra, rc, nr, wa, wc, nw, z3, z4, hnr, hnw, r1, r2, q1, q2⟩ := mem_form hmem
          obtain ⟨u1, u2, y0, y1, y2, y3, y4, hmv⟩ := hmem.val
          obtain rfl : .slice ra nr rc = u1 := by rw [y3] at z3; injection z3 with z3; exact z3.symm
          obtain rfl : .slice wa nw wc = u2 := by rw [y4] at z4; injection z4 with z4; exact z4.symm
          unfold maxLen at r2 q2
          have HFM := Lib.hid hfm
          have HLM := Lib.hid hlm
          have HNR := Lib.hid hnr
          have HMV := Lib.hid hmv
          have hr6 : nr ≤ 6 := by have := of_decide_eq_true hlm.1; omega
          have HY := Lib.hid (And.intro y0 (And.intro y1 (And.intro y2 (And.intro y3 y4))))
          have HHX := Lib.hid hmm
          have HC6 := Lib.hid c6
          obtain ⟨wp, rfl⟩ : ∃ wp : World, wp = wr := ⟨_, rfl⟩
          have d0 := cell_below y0 HO.out.2.1
          have d3 := cell_below y3 HO.out.2.1
          clear hfm hlm hmm hnr hnw hmv hmem e2 e3 z3 z4 y0 y1 y2 y3 y4 hkn
          go_wp2
          go_loopw [3, 6] (fun u i wr => ∃ j : Nat, ∃ ys, j ≤ nr ∧ i = .int .i64 j ∧ ys = (mm.rd.take j).flatMap (fun r => dataM r.1 mm.word) ∧ ys.length ≤ 100 * j ∧ OwnI wb wr u (xs ++ ys)) (fun _ i _ => nr - (intOf i).toNat)
          case atStart => exact ⟨0, _, Nat.zero_le _, rfl, rfl, by simp, by simpa using HO.out⟩
          case round =>
            obtain ⟨j, ys, hj, rfl, hys, hyl, hO2⟩ := hrel
            have hB2 := hO2.2.1
            have c6 := (HBX.out.later hO2.2.1).c6
            obtain ⟨y0, y1, y2, y3, y4⟩ := HY.out
            replace y0 := cell_below y0 hB2
            replace y1 := cell_below y1 hB2
            replace y2 := cell_below y2 hB2
            replace y3 := cell_below y3 hB2
            replace y4 := cell_below y4 hB2
            have HO2 := Lib.hid hO2
            have HBB := Lib.hid hB2
            have HYS := Lib.hid hys
            by_cases hlt3 : (j : Int) < (nr : Int)
            · have hjn : j < mm.rd.length := by have := HNR.out; omega
              have hlr := of_decide_eq_true (HLM.out.2.1 j hjn)
              have hd := r05_Data (HMV.out.below hB2) HLM.out.1 hjn ⟨hlr.2.2, hlr.2.1⟩
              have hfj := flatMap_take rd0 (fun r : RdD => dataM r.1 mm.word) hjn
              obtain ⟨zs, hzs⟩ : ∃ zs, zs = dataM (mm.rd.getD j rd0).1 mm.word := ⟨_, rfl⟩
              rw [← hzs] at hd hfj
              obtain ⟨nz, hnz⟩ : ∃ nz, nz = zs.length := ⟨_, rfl⟩
              have hz9 : nz ≤ 100 := by rw [hnz, hzs, dataM_eq, dat_len]; have := of_decide_eq_true HLM.out.1; omega
              have HD := Lib.hid hd
              have HFJ := Lib.hid hfj
              have HNZ := Lib.hid hnz
              have HBD : Hid ((xs ++ ys).length + nz ≤ 1099511627776) := Lib.hid (by rw [List.length_append]; omega)
              clear hO2 hB2 hys hd hfj hnz hzs hjn hlr
              go_wp2_with (first
                | (go_at_call 19; refine HD.out.mono ?_; rintro e w5 ⟨u5, rfl, ho5⟩; obtain ⟨A5, cc5, rfl, -, -⟩ := ho5.form; have HO5 := Lib.hid ho5; rw [← HNZ.out] at HO5 ⊢; clear ho5)
                | (at_builtin; refine wpList_I (w := wb) rfl _ _ rfl _ (xs ++ ys) rfl A5 nz cc5 zs rfl HNZ.out.symm HBD.out (HO2.out.below HO5.out.2.1) (by have h := ints_src HO5.out.ints; exact h) ?_; intro v4 w4 h4; have H4 := Lib.hid h4; clear h4))
              go_roundw
              case rel => exact ⟨j + 1, ys ++ zs, by omega, by go_num, by rw [HFJ.out, ← HYS.out], by rw [List.length_append, ← HNZ.out]; omega, by rw [← List.append_assoc]; exact H4.out⟩
              case measure => simp [intOf]; omega
            · obtain rfl : j = nr := by omega
              have hall : xs ++ ys = L0 ++ (d.mems.take (k + 1)).flatMap memDef := by
                rw [HFM.out, ← List.append_assoc, ← HXS.out, hys]
                unfold memDef
                rw [List.take_of_length_le (l := mm.rd) (by have := HNR.out; omega)]
              have HALL := Lib.hid hall
              have hyl6 : ys.length ≤ 600 := by omega
              clear hall hO2 hB2 hys
              go_wp2
              go_roundw
              case rel => exact ⟨k + 1, xs ++ ys, by omega, by go_num, HALL.out, by rw [List.length_append]; omega, HO2.out⟩
              case measure => simp [intOf]; omega
        · obtain rfl : k = nm := by omega
          have hall : xs = L0 ++ d.mems.flatMap memDef := by rw [HXS.out, List.take_of_length_le (by have := HN.out.mems; omega)]
          have HALL := Lib.hid hall
          obtain ⟨wo2, rfl⟩ : ∃ wo : World, wo = wr := ⟨_, rfl⟩
          have hx78 : xs.length ≤ 7800 := by omega
          clear hall
          go_wp2
          clear c6
          go_loopw [3, 7] (fun u i wr => ∃ k : Nat, k ≤ na ∧ i = .int .i64 k ∧ OwnI wb wr u (xs ++ (d.ands.take k).map (·.1))) (fun _ i _ => na - (intOf i).toNat)
          case atStart => exact ⟨0, Nat.zero_le _, rfl, by simpa using HO.out⟩
          case round =>
            obtain ⟨k2, hk2, rfl, hO⟩ := hrel
            have c7 := (HBX.out.later hO.2.1).c7
            have hP := HP.out.below hO.2.1
            have HO7 := Lib.hid hO
            by_cases hlt : (k2 : Int) < (na : Int)
            · have hkn : k2 < d.ands.length := by have := HN.out.ands; omega
              obtain ⟨b, off, cap', he, hone⟩ := hP.ands.at_ hkn
              injection he with e1 e2 e3
              subst e1
              obtain ⟨q0, -, -⟩ := hone
              have hrow := map_take_D (f := fun x : Tri => x.1) tri0 hkn
              obtain ⟨y, hy⟩ : ∃ y, y = (d.ands.getD k2 tri0).1 := ⟨_, rfl⟩
              rw [← hy] at q0 hrow
              have HROW := Lib.hid hrow
              have HBD : Hid ((xs ++ (d.ands.take k2).map (·.1)).length + 1 ≤ 1099511627776) := Lib.hid (by simp; omega)
              clear hrow hy e2 e3 hkn hP hO
              go_wp2_with (at_builtin; refine wpList_I (w := wb) rfl _ _ rfl _ (xs ++ (d.ands.take k2).map (·.1)) rfl (some ⟨wr.heap.size, 0, none⟩) 1 1 [y] rfl rfl HBD.out (HO7.out.below (below_new1 wr (.cells #[.int .i64 y] 3))) (Src.one (heap_new1 _ _)) ?_; intro v4 w4 h4; have H4 := Lib.hid h4; clear h4)
              go_roundw
              case rel => exact ⟨k2 + 1, by omega, by go_num, by rw [HROW.out, ← List.append_assoc]; exact H4.out⟩
              case measure => simp [intOf]; omega
            · obtain rfl : k2 = na := by omega
              have hend : xs ++ (d.ands.take k2).map (·.1) = definedN d := by
                rw [List.take_of_length_le (by have := HN.out.ands; omega), HALL.out, HL0.out]; rfl
              rw [hend] at HO7
              have HF : Hid (RetI w (definedN d) (.returned u3) wr) := Lib.hid ⟨_, rfl, HO7.out.from_ HB1.out⟩
              clear hend hO hP
              go_wp2
              go_ret
              exact HF.out
end Go.Proofs.Ytgnimegdgphlmaa
