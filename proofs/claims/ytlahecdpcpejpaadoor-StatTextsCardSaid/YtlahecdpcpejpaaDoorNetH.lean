/-
  Netlists: the document's Literals, walked.
-/
import Derived.Test.YtlahecdpcpejpaaDoorNetE
import Derived.Test.YtlahecdpcpejpaaDoorOwnC
import Derived.Deep.RegionLaw
namespace Go.Proofs.YtlahecdpcpejpaaDoor
open Go.ChangeShapes Go.WideShapes Go.ChangeAt Go.RowKit
set_option linter.unusedVariables false
set_option linter.unusedSimpArgs false
attribute [local go_sem ↓] Go.wp_at_zero Go.wp_at_succ
theorem src_two (w : World) (a b : Int) : Src (w.alloc (.cells #[.int .i64 a, .int .i64 b] 3)) (some ⟨w.heap.size, 0, none⟩) 1 2 ([a, b].map iv) := by
  refine ⟨rfl, fun _ => ⟨w.heap.size, 0, rfl, fun j u hu => ?_⟩⟩
  have hB : Blk (w.alloc (.cells #[.int .i64 a, .int .i64 b] 3)) w.heap.size 3 #[.int .i64 a, .int .i64 b] := Blk.new w _ _
  rw [Nat.zero_add, hB.cell j]
  match j, hu with
  | 0, hu => exact hu
  | 1, hu => exact hu
def wlit (x : WrD) : List Int := x.1 :: (x.2.1 ++ x.2.2)
set_option maxHeartbeats 8000000 in
set_option maxRecDepth 100000 in
theorem r05_Literals {w : World} {d : NetD} {vi vl vo vb vc vm va : Value} (h : NetP w d vi vl vo vb vc vm va) (hl : liH d = true) (hm : LiMs d) :
    Calls Tryd.prog 33 #[netV d vi vl vo vb vc vm va] w (RetI w (literalsN d)) := by
  obtain ⟨ai, ci, ni, al, cl, nl, ao, co, no, ab, cb, nb, ac, cc, nc, am, cm, nm, aa, ca, na, rfl, rfl, rfl, rfl, rfl, rfl, rfl, HN, HC⟩ := h.open_ hl
  obtain ⟨⟨i1, i2, i3⟩, ⟨l1, l2, l3⟩, ⟨o1, o2, o3⟩, ⟨b1, b2, b3⟩, ⟨c1, c2, c3⟩, ⟨m1, m2, m3⟩, ⟨a1, a2, a3⟩⟩ := HC
  unfold netV
  obtain ⟨wb, hwb⟩ : ∃ wb, wb = w.alloc (.cells #[.int .i64 d.vars, .slice ai ni ci, .slice al nl cl, .slice ao no co, .slice ab nb cb, .slice ac nc cc, .slice am nm cm, .slice aa na ca] 28) := ⟨_, rfl⟩
  obtain ⟨bx, hbx⟩ : ∃ bx, bx = w.heap.size := ⟨_, rfl⟩
  have HB1 : Hid (Below w.heap.size w wb) := Lib.hid (by rw [hwb]; exact below_new1 w _)
  have HBX : Hid (NBox wb bx d (.slice ai ni ci) (.slice al nl cl) (.slice ao no co) (.slice ab nb cb) (.slice ac nc cc) (.slice am nm cm) (.slice aa na ca)) := Lib.hid (by rw [hwb, hbx]; exact NBox.new w _ _ _ _ _ _ _ _)
  have HP := Lib.hid (h.below HB1.out)
  have HM := Lib.hid hm
  have HW1 := Lib.hid hwb
  have HBE := Lib.hid hbx
  have HLI := Lib.hid (of_decide_eq_true hl)
  clear h hl hm hwb hbx
  go_enter Tryd.func33, Tryd.ntmps33
  go_wp2
  rw [← HW1.out, ← HBE.out]
  go_loopw [3, 4] (fun u i wr => ∃ k : Nat, k ≤ nl ∧ i = .int .i64 k ∧ OwnI wb wr u ((d.lat.take k).map (·.2.1))) (fun _ i _ => nl - (intOf i).toNat)
  case atStart => exact ⟨0, Nat.zero_le _, rfl, OwnI.start wb⟩
  case round =>
    obtain ⟨k, hk, rfl, hO⟩ := hrel
    have c2 := (HBX.out.later hO.2.1).c2
    have hP := HP.out.below hO.2.1
    have HO := Lib.hid hO
    by_cases hlt : (k : Int) < (nl : Int)
    · have hkn : k < d.lat.length := by have := HN.out.lat; omega
      obtain ⟨b, off, cap', he, hone⟩ := hP.lat.at_ hkn
      injection he with e1 e2 e3
      subst e1
      obtain ⟨-, q0, -⟩ := hone
      have hrow := map_take_D (f := fun x : Tri => x.2.1) tri0 hkn
      obtain ⟨y, hy⟩ : ∃ y, y = (d.lat.getD k tri0).2.1 := ⟨_, rfl⟩
      rw [← hy] at q0 hrow
      have HROW := Lib.hid hrow
      have HBD : Hid (((d.lat.take k).map (·.2.1)).length + 1 ≤ 1099511627776) := Lib.hid (by simp; omega)
      clear hrow hy e2 e3 hkn hP hO
      go_wp2_with (at_builtin; refine wpList_I (w := wb) rfl _ _ rfl u3 ((d.lat.take k).map (·.2.1)) rfl (some ⟨wr.heap.size, 0, none⟩) 1 1 [y] rfl rfl HBD.out (HO.out.below (below_new1 wr (.cells #[.int .i64 y] 3))) (Src.one (heap_new1 _ _)) ?_; intro v4 w4 h4; have H4 := Lib.hid h4; clear h4)
      go_roundw
      case rel => exact ⟨k + 1, by omega, by go_num, by rw [HROW.out]; exact H4.out⟩
      case measure => simp [intOf]; omega
    · obtain rfl : k = nl := by omega
      have hall : (d.lat.take k).map (·.2.1) = d.lat.map (·.2.1) := by rw [List.take_of_length_le (by have := HN.out.lat; omega)]
      rw [hall] at HO
      obtain ⟨L0, hL0⟩ : ∃ L, L = d.lat.map (·.2.1) := ⟨_, rfl⟩
      rw [← hL0] at HO
      have HL0 := Lib.hid hL0
      have HLL : Hid (L0.length ≤ 2100) := Lib.hid (by have := HN.out.lat; rw [hL0]; simp; omega)
      obtain ⟨wo, rfl⟩ : ∃ wo : World, wo = wr := ⟨_, rfl⟩
      have HSO := Lib.hid ((ints_src hP.out))
      have HD3 : Hid (∀ W, Below wb.heap.size wb W → W.cell? ⟨bx, 3, none⟩ = some (.slice ao no co) ∧ W.cell? ⟨bx, 4, none⟩ = some (.slice ab nb cb) ∧ W.cell? ⟨bx, 5, none⟩ = some (.slice ac nc cc)) := Lib.hid fun W hW => ⟨(HBX.out.later hW).c3, (HBX.out.later hW).c4, (HBX.out.later hW).c5⟩
      obtain ⟨d3, -, -⟩ := HD3.out wo hO.2.1
      have hno : Hid (d.out.length = no) := Lib.hid HN.out.out.symm
      have hnb : Hid (d.bad.length = nb) := Lib.hid HN.out.bad.symm
      have hnc : Hid (d.con.length = nc) := Lib.hid HN.out.con.symm
      clear hall hL0 hO hP
      go_wp2_with (first
        | (at_builtin; refine wpList_I (w := wb) rfl (.tmp 27) _ rfl u3 L0 rfl ao no co d.out rfl hno.out (by have := HLL.out; omega) HO.out HSO.out ?_; intro v4 w4 h4; obtain ⟨-, d4, -⟩ := HD3.out w4 h4.2.1; have H4 := Lib.hid h4; clear h4)
        | (at_builtin; refine wpList_I (w := wb) rfl (.tmp 31) _ rfl v4 (L0 ++ d.out) rfl ab nb cb d.bad rfl hnb.out (by have := HLL.out; have := hno.out; rw [List.length_append]; omega) H4.out (ints_src (HP.out.below H4.out.2.1).bad) ?_; intro v5 w5 h5; obtain ⟨-, -, d5⟩ := HD3.out w5 h5.2.1; have H5 := Lib.hid h5; clear h5)
        | (at_builtin; refine wpList_I (w := wb) rfl (.tmp 35) _ rfl v5 (L0 ++ d.out ++ d.bad) rfl ac nc cc d.con rfl hnc.out (by have := HLL.out; have := hno.out; have := hnb.out; rw [List.length_append, List.length_append]; omega) H5.out (ints_src (HP.out.below H5.out.2.1).con) ?_; intro v6 w6 h6; have H6 := Lib.hid h6; clear h6))
      obtain ⟨L1, hL1⟩ : ∃ L, L = L0 ++ d.out ++ d.bad ++ d.con := ⟨_, rfl⟩
      rw [← hL1] at H6
      have HL1 := Lib.hid hL1
      have HLL1 : Hid (L1.length ≤ 5400) := Lib.hid (by have := HLL.out; have := hno.out; have := hnb.out; have := hnc.out; rw [hL1]; simp; omega)
      clear hL1 c2 d3
      go_loopw [3, 5, 6, 7, 8, 9] (fun u i _ _ _ _ wr => ∃ k : Nat, ∃ xs, k ≤ nm ∧ i = .int .i64 k ∧ xs = L1 ++ (d.mems.take k).flatMap memLit ∧ xs.length ≤ 5400 + 2000 * k ∧ OwnI wb wr u xs) (fun _ i _ _ _ _ _ => nm - (intOf i).toNat)
      case atStart => exact ⟨0, _, Nat.zero_le _, rfl, rfl, by have := HLL1.out; simp; omega, by simpa using H6.out⟩
      case round =>
        obtain ⟨k, xs, hk2, rfl, hxs, hxl, hO⟩ := hrel
        have c6 := (HBX.out.later hO.2.1).c6
        have HO := Lib.hid hO
        have HXS := Lib.hid hxs
        clear hO hxs
        by_cases hlt2 : (k : Int) < (nm : Int)
        · have hkn : k < d.mems.length := by have := HN.out.mems; omega
          obtain ⟨b, off, cap', he, hmem⟩ := HP.out.mems.at_ hkn
          injection he with e1 e2 e3
          subst e1
          have hfm := flatMap_take mem0 memLit hkn
          have hlm := liM_parts (HM.out k hkn)
          obtain ⟨mm, hmm⟩ : ∃ mm, mm = d.mems.getD k mem0 := ⟨_, rfl⟩
          rw [← hmm] at hmem hfm hlm
          obtain ⟨u1, u2, y0, y1, y2, y3, y4, hmv⟩ := hmem.val
          obtain ⟨ra, rc, nr, wa, wc, nw, hag, hnr, hnw, r1, r2, q1, q2, HSR, HSW⟩ := hmv.open_
          injection hag with hag
          simp only [Array.mk.injEq, List.cons.injEq, true_and, and_true] at hag
          obtain ⟨rfl, rfl⟩ := hag
          replace y0 := cell_below y0 HO.out.2.1
          replace y1 := cell_below y1 HO.out.2.1
          replace y2 := cell_below y2 HO.out.2.1
          replace y3 := cell_below y3 HO.out.2.1
          replace y4 := cell_below y4 HO.out.2.1
          have hr6 : nr ≤ 6 := by have := of_decide_eq_true hlm.1; omega
          have hw6 : nw ≤ 6 := by have := of_decide_eq_true hlm.1; omega
          have HFM := Lib.hid hfm
          have HLM := Lib.hid hlm
          have HNR := Lib.hid hnr
          have HNW := Lib.hid hnw
          obtain ⟨wp, rfl⟩ : ∃ wp : World, wp = wr := ⟨_, rfl⟩
          obtain ⟨ob, hob⟩ : ∃ ob : Obj, ob = .cells #[.int .i64 mm.addr, .int .i64 mm.word, .bool mm.any, .slice ra nr rc, .slice wa nw wc] 53 := ⟨_, rfl⟩
          obtain ⟨bm, hbm⟩ : ∃ bm, bm = wp.heap.size := ⟨_, rfl⟩
          obtain ⟨wm, hwm⟩ : ∃ wm, wm = wp.alloc ob := ⟨_, rfl⟩
          have HOM : Hid (OwnC wb wm u3 xs [(bm, ob)]) := Lib.hid (by rw [hwm, hbm]; exact (OwnC.start HO.out).push ob)
          rw [hob] at hwm
          have HWM := Lib.hid hwm
          have HBM := Lib.hid hbm
          have HOB := Lib.hid hob
          clear hfm hlm hmm hnr hnw hmv hmem e2 e3 hkn hob hbm hwm
          go_wp2
          rw [← HWM.out, ← HBM.out]
          clear c6
          go_loopw [3, 7] (fun u i wr => ∃ j : Nat, ∃ ys, j ≤ nr ∧ i = .int .i64 j ∧ ys = (mm.rd.take j).flatMap (fun r => r.2) ∧ ys.length ≤ 100 * j ∧ OwnC wb wr u (xs ++ ys) [(bm, ob)]) (fun _ i _ => nr - (intOf i).toNat)
          case atStart => exact ⟨0, _, Nat.zero_le _, rfl, rfl, by simp, by simpa using HOM.out⟩
          case round =>
            obtain ⟨j, ys, hj, rfl, hys, hyl, hO2⟩ := hrel
            have hbk : Blk wr bm 53 #[.int .i64 mm.addr, .int .i64 mm.word, .bool mm.any, .slice ra nr rc, .slice wa nw wc] := by have := hO2.head; rw [HOB.out] at this; exact this
            have c3 : wr.cell? ⟨bm, 3, none⟩ = some (.slice ra nr rc) := hbk.cell 3
            have c4 : wr.cell? ⟨bm, 4, none⟩ = some (.slice wa nw wc) := hbk.cell 4
            have HO2 := Lib.hid hO2
            have HYS := Lib.hid hys
            clear hbk
            by_cases hlt3 : (j : Int) < (nr : Int)
            · have hjn : j < mm.rd.length := by have := HNR.out; omega
              obtain ⟨b2, off2, cap2, he, hone⟩ := HSR.out.at_ hjn
              injection he with e1 e2 e3
              subst e1
              obtain ⟨-, u4, q1, hin⟩ := hone
              have hlr := of_decide_eq_true (HLM.out.2.1 j hjn)
              have hfj := flatMap_take rd0 (fun r : RdD => r.2) hjn
              replace q1 := cell_below q1 hO2.own.2.1
              replace hin := hin.below hO2.own.2.1
              obtain ⟨zs, hzs⟩ : ∃ zs, zs = (mm.rd.getD j rd0).2 := ⟨_, rfl⟩
              rw [← hzs] at hin hfj hlr
              obtain ⟨A5, cc5, rfl, -, z1, z2, -⟩ := id hin
              obtain ⟨nz, hnz⟩ : ∃ nz, nz = zs.length := ⟨_, rfl⟩
              rw [← hnz] at q1 hin z1 hlr
              obtain ⟨hz9, -, -⟩ := hlr
              have HFJ := Lib.hid hfj
              have HNZ := Lib.hid hnz
              have HSC := Lib.hid (ints_src hin)
              have HBD : Hid ((xs ++ ys).length + nz ≤ 1099511627776) := Lib.hid (by rw [List.length_append]; omega)
              unfold maxLen at z2
              clear hO2 hys hfj hnz hzs hjn hin e2 e3
              go_wp2_with (at_builtin; refine wpList_C (w := wb) rfl _ _ rfl u3 (xs ++ ys) rfl A5 nz cc5 zs rfl HNZ.out.symm HBD.out HO2.out HSC.out ?_; intro v4 w4 h4; have H4 := Lib.hid h4; clear h4)
              go_roundw
              case rel => exact ⟨j + 1, ys ++ zs, by omega, by go_num, by rw [HFJ.out, ← HYS.out], by rw [List.length_append, ← HNZ.out]; omega, by rw [← List.append_assoc]; exact H4.out⟩
              case measure => simp [intOf]; omega
            · obtain rfl : j = nr := by omega
              have hall : ys = mm.rd.flatMap fun r => r.2 := by rw [hys, List.take_of_length_le (l := mm.rd) (by have := HNR.out; omega)]
              have HALL := Lib.hid hall
              have hyl6 : ys.length ≤ 600 := by omega
              obtain ⟨wq, rfl⟩ : ∃ wq : World, wq = wr := ⟨_, rfl⟩
              clear hall hO2 hys
              go_wp2
              clear c3
              go_loopw [3, 8, 9] (fun u i _ wr => ∃ j : Nat, ∃ zs, j ≤ nw ∧ i = .int .i64 j ∧ zs = (mm.wr.take j).flatMap wlit ∧ zs.length ≤ 201 * j ∧ OwnC wb wr u (xs ++ ys ++ zs) [(bm, ob)]) (fun _ i _ _ => nw - (intOf i).toNat)
              case atStart => exact ⟨0, _, Nat.zero_le _, rfl, rfl, by simp, by simpa using HO2.out⟩
              case round =>
                obtain ⟨t, zs, ht, rfl, hzs, hzl, hO3⟩ := hrel
                have hbk : Blk wr bm 53 #[.int .i64 mm.addr, .int .i64 mm.word, .bool mm.any, .slice ra j rc, .slice wa nw wc] := by have := hO3.head; rw [HOB.out] at this; exact this
                have c4 : wr.cell? ⟨bm, 4, none⟩ = some (.slice wa nw wc) := hbk.cell 4
                have HO3 := Lib.hid hO3
                have HZS := Lib.hid hzs
                clear hbk
                by_cases hlt4 : (t : Int) < (nw : Int)
                · have htn : t < mm.wr.length := by have := HNW.out; omega
                  obtain ⟨b2, off2, cap2, he, hone⟩ := HSW.out.at_ htn
                  injection he with e1 e2 e3
                  subst e1
                  obtain ⟨q0, ⟨u4, q1, hin⟩, u5, q2, hin2⟩ := hone
                  have hlw := of_decide_eq_true (HLM.out.2.2 t htn)
                  have hft := flatMap_take wr0 wlit htn
                  replace q0 := cell_below q0 hO3.own.2.1
                  replace q1 := cell_below q1 hO3.own.2.1
                  replace q2 := cell_below q2 hO3.own.2.1
                  obtain ⟨y, hy⟩ : ∃ y, y = mm.wr.getD t wr0 := ⟨_, rfl⟩
                  rw [← hy] at q0 hin hin2 hft hlw
                  obtain ⟨on, hon⟩ : ∃ on, on = y.1 := ⟨_, rfl⟩
                  obtain ⟨ad, has⟩ : ∃ ad, ad = y.2.1 := ⟨_, rfl⟩
                  obtain ⟨ds, hds⟩ : ∃ ds, ds = y.2.2 := ⟨_, rfl⟩
                  have hwl : wlit y = on :: (ad ++ ds) := by rw [hon, has, hds]; rfl
                  rw [hwl] at hft
                  rw [← hon] at q0
                  rw [← has] at hin hlw
                  rw [← hds] at hin2 hlw
                  obtain ⟨A5, cc5, rfl, -, z1, z2, -⟩ := id hin
                  obtain ⟨A6, cc6, rfl, -, z3, z4, -⟩ := id hin2
                  obtain ⟨nas, hnas⟩ : ∃ n, n = ad.length := ⟨_, rfl⟩
                  obtain ⟨nds, hnds⟩ : ∃ n, n = ds.length := ⟨_, rfl⟩
                  rw [← hnas] at q1 hin z1 hlw
                  rw [← hnds] at q2 hin2 z3 hlw
                  obtain ⟨hl1, hl2⟩ := hlw
                  have HFT := Lib.hid hft
                  have HNA := Lib.hid hnas
                  have HND := Lib.hid hnds
                  have HI1 := Lib.hid hin
                  have HI2 := Lib.hid hin2
                  obtain ⟨L2, hL2⟩ : ∃ L, L = xs ++ ys ++ zs := ⟨_, rfl⟩
                  have HL2 := Lib.hid hL2
                  have HLB : Hid (L2.length ≤ 100000) := Lib.hid (by rw [hL2]; simp only [List.length_append]; omega)
                  rw [← hL2] at HO3
                  obtain ⟨ow, how⟩ : ∃ ow : Obj, ow = .cells #[.int .i64 on, .slice A5 nas cc5, .slice A6 nds cc6] 67 := ⟨_, rfl⟩
                  have hOW : OwnC wb (wr.alloc ow) u3 L2 [(wr.heap.size, ow), (bm, ob)] := HO3.out.push ow
                  rw [how] at hOW
                  have HOW := Lib.hid (hOW.below (below_new1 _ (.cells #[.int .i64 on] 3)))
                  unfold maxLen at z2 z4
                  clear hO3 hzs hft hnas hnds hon has hds htn hin hin2 e2 e3 hy hwl hL2 how hOW
                  go_wp2_with (first
                    | (at_builtin; refine wpList_C (w := wb) rfl (.tmp 78) _ rfl u3 L2 rfl (some ⟨wr.heap.size + 1, 0, none⟩) 1 1 [on] rfl rfl (by have := HLB.out; omega) HOW.out (Src.one (heap_new2 wr _ _)) ?_; intro v4 w4 h4; have k41 : w4.cell? ⟨wr.heap.size, 1, none⟩ = some (.slice A5 nas cc5) := Blk.cell (t := 67) h4.head 1; have H4 := Lib.hid h4; clear h4)
                    | (at_builtin; refine wpList_C (w := wb) rfl (.tmp 83) _ rfl v4 (L2 ++ [on]) rfl A5 nas cc5 ad rfl HNA.out.symm (by have := HLB.out; rw [List.length_append]; simp; omega) H4.out (ints_src (HI1.out.below H4.out.own.2.1)) ?_; intro v5 w5 h5; have k52 : w5.cell? ⟨wr.heap.size, 2, none⟩ = some (.slice A6 nds cc6) := Blk.cell (t := 67) h5.head 2; have H5 := Lib.hid h5; clear h5)
                    | (at_builtin; refine wpList_C (w := wb) rfl (.tmp 87) _ rfl v5 (L2 ++ [on] ++ ad) rfl A6 nds cc6 ds rfl HND.out.symm (by have := HLB.out; have := HNA.out; simp only [List.length_append, List.length_singleton]; omega) H5.out (ints_src (HI2.out.below H5.out.own.2.1)) ?_; intro v6 w6 h6; have H6 := Lib.hid h6; clear h6))
                  go_roundw
                  case rel =>
                    refine ⟨t + 1, zs ++ (on :: (ad ++ ds)), by omega, by go_num, by rw [HFT.out, ← HZS.out], by have := HNA.out; have := HND.out; simp only [List.length_append, List.length_cons]; omega, ?_⟩
                    have h := H6.out.pop
                    rw [HL2.out] at h
                    have e : xs ++ ys ++ (zs ++ (on :: (ad ++ ds))) = xs ++ ys ++ zs ++ [on] ++ ad ++ ds := by simp
                    rw [e]; exact h
                  case measure => simp [intOf]; omega
                · obtain rfl : t = nw := by omega
                  have hall : xs ++ ys ++ zs = L1 ++ (d.mems.take (k + 1)).flatMap memLit := by
                    rw [HFM.out, ← List.append_assoc, ← HXS.out, hzs, HALL.out, List.take_of_length_le (l := mm.wr) (by have := HNW.out; omega), List.append_assoc]; rfl
                  have HALL2 := Lib.hid hall
                  have hyl7 : zs.length ≤ 1206 := by omega
                  clear hall hO3 hzs
                  go_wp2
                  go_roundw
                  case rel => exact ⟨k + 1, xs ++ ys ++ zs, by omega, by go_num, HALL2.out, by simp only [List.length_append]; omega, HO3.out.own⟩
                  case measure => simp [intOf]; omega
        · obtain rfl : k = nm := by omega
          have hall : xs = L1 ++ d.mems.flatMap memLit := by rw [HXS.out, List.take_of_length_le (by have := HN.out.mems; omega)]
          have HALL := Lib.hid hall
          obtain ⟨wo2, rfl⟩ : ∃ wo : World, wo = wr := ⟨_, rfl⟩
          have hx78 : xs.length ≤ 17400 := by omega
          clear hall
          go_wp2
          clear c6
          go_loopw [3, 10] (fun u i wr => ∃ k : Nat, ∃ ys, k ≤ na ∧ i = .int .i64 k ∧ ys = (d.ands.take k).flatMap (fun a => [a.2.1, a.2.2]) ∧ ys.length ≤ 2 * k ∧ OwnI wb wr u (xs ++ ys)) (fun _ i _ => na - (intOf i).toNat)
          case atStart => exact ⟨0, _, Nat.zero_le _, rfl, rfl, by simp, by simpa using HO.out⟩
          case round =>
            obtain ⟨k2, ys, hk2, rfl, hys, hyl, hO⟩ := hrel
            have c7 := (HBX.out.later hO.2.1).c7
            have HO7 := Lib.hid hO
            have HYS := Lib.hid hys
            by_cases hlt : (k2 : Int) < (na : Int)
            · have hkn : k2 < d.ands.length := by have := HN.out.ands; omega
              obtain ⟨b, off, cap', he, hone⟩ := HP.out.ands.at_ hkn
              injection he with e1 e2 e3
              subst e1
              obtain ⟨-, q1, q2⟩ := hone
              replace q1 := cell_below q1 hO.2.1
              replace q2 := cell_below q2 hO.2.1
              have hrow := flatMap_take tri0 (fun a : Tri => [a.2.1, a.2.2]) hkn
              obtain ⟨y, hy⟩ : ∃ y, y = (d.ands.getD k2 tri0).2.1 := ⟨_, rfl⟩
              obtain ⟨z, hz⟩ : ∃ z, z = (d.ands.getD k2 tri0).2.2 := ⟨_, rfl⟩
              rw [← hy] at q1 hrow
              rw [← hz] at q2 hrow
              have HROW := Lib.hid hrow
              have HBD : Hid ((xs ++ ys).length + 2 ≤ 1099511627776) := Lib.hid (by rw [List.length_append]; omega)
              have HOO := Lib.hid (HO7.out.below (below_d1 wr 1 (.cells #[.int .i64 y, .int .i64 z] 3)))
              have HSS := Lib.hid (src_two (wr.drewN 1) y z)
              clear hrow hy hz e2 e3 hkn hO hys
              go_wp2
              go_region_law (refine step_I (w := wb) rfl (.tmp 98) (.tmp 111) rfl u3 (xs ++ ys) (by rfl) (some ⟨wr.heap.size, 0, none⟩) 2 2 [y, z] (by rfl) rfl HBD.out HOO.out HSS.out ?_; intro v4 w4 h4 hg4; have H4 := Lib.hid h4; clear h4 hg4)
              all_goals
                go_wp2
                go_roundw
                case rel => exact ⟨k2 + 1, ys ++ [y, z], by omega, by go_num, by rw [HROW.out, ← HYS.out], by rw [List.length_append]; simp; omega, by rw [← List.append_assoc]; exact H4.out⟩
                case measure => simp [intOf]; omega
            · obtain rfl : k2 = na := by omega
              have hend : xs ++ ys = literalsN d := by
                rw [hys, List.take_of_length_le (by have := HN.out.ands; omega), HALL.out, HL1.out, HL0.out]; rfl
              rw [hend] at HO7
              have HF : Hid (RetI w (literalsN d) (.returned u3) wr) := Lib.hid ⟨_, rfl, HO7.out.from_ HB1.out⟩
              clear hend hO hys
              go_wp2
              go_ret
              exact HF.out
end Go.Proofs.YtlahecdpcpejpaaDoor
