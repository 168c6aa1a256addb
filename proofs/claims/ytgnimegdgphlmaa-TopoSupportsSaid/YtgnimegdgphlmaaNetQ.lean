/-
  Package net: the iterator vars, walked inside a fence: what it gives.
-/
import Derived.Test.YtgnimegdgphlmaaNetO
namespace Go.Proofs.Ytgnimegdgphlmaa
open Go.ChangeShapes Go.WideShapes Go.ChangeAt Go.RowKit Go.Shelf
set_option linter.unusedVariables false
set_option linter.unusedSimpArgs false
attribute [local go_sem] Oper.semAt_some
set_option maxHeartbeats 16000000 in
set_option maxRecDepth 100000 in
theorem vars1_in (n : Nat) (hn : 1 ≤ n) {w0 W : World} {d : NetD} {vi vl vo vb vc vm va : Value} (h : NetP w0 d vi vl vo vb vc vm va) (hl : liH d = true) (hm : LiMs d) (hw : Below w0.heap.size w0 W) {bx : Nat} (hbx : NBox W bx d vi vl vo vb vc vm va)
    {S : Nat → Prop} (hS : ∀ k, S k → k < W.heap.size) (hSx : ¬ S bx) (l : Nat) (J Jx : List Int → World → Prop) (hJ : AbidesFrom W.heap.size J)
    (hY : ∀ pre x W1, J pre W1 → pre.length < (definedN d).length → YieldAt Fence.wide (n - 1) Try.prog l #[.int .i64 x] W1 fun e W' =>
      (e = .returned (.bool true) ∧ J (pre ++ [x]) W' ∧ KpC S w0.heap.size W1 W') ∨ (e = .returned (.bool false) ∧ Jx (pre ++ [x]) W'))
    (h0 : J [] W) :
    CallsIn Fence.wide n Try.prog 67 #[.func (.yield l) #[] #[], .pointer (some ⟨bx, 0, none⟩)] W fun e W' => (∃ v, e = .returned v) ∧
      ((∃ ys, ys = definedN d ∧ J ys W') ∨ (∃ pre, pre <+: definedN d ∧ Jx pre W')) := by
  obtain ⟨ai, ci, ni, al, cl, nl, ao, co, no, ab, cb, nb, ac, cc, nc, am, cm, nm, aa, ca, na, rfl, rfl, rfl, rfl, rfl, rfl, rfl, HN, HC⟩ := h.open_ hl
  obtain ⟨⟨i1, i2, i3⟩, ⟨l1, l2, l3⟩, -, -, -, ⟨m1, m2, m3⟩, ⟨a1, a2, a3⟩⟩ := HC
  have c1 := hbx.c1
  have HP := Lib.hid h
  have HL := Lib.hid hl
  have HM := Lib.hid hm
  have HW := Lib.hid hw
  have HBX := Lib.hid hbx
  have HS := Lib.hid hS
  have HSX := Lib.hid hSx
  have HJ := Lib.hid hJ
  have HY := Lib.hid hY
  have H0 := Lib.hid h0
  have HCC : Hid (∀ W', KpC S w0.heap.size W W' → NBox W' bx d (.slice ai ni ci) (.slice al nl cl) (.slice ao no co) (.slice ab nb cb) (.slice ac nc cc) (.slice am nm cm) (.slice aa na ca)) := Lib.hid fun W' hk => hk.blk hbx hSx
  have HNW : Hid (w0.heap.size ≤ W.heap.size) := Lib.hid hw.size
  clear h hl hm hw hbx hS hSx hJ hY h0
  refine callsIn_of_wp Try.func67 rfl trivial ?_ rfl
  simp only [Try.ntmps67, List.size_toArray, List.length_cons, List.length_nil, Nat.reduceAdd, Nat.reduceSub, Array.replicate_succ, Array.replicate_zero, List.push_toArray, List.append_toArray, List.nil_append, List.cons_append]
  gi_wp2
  gi_loopw [4, 17] (fun _ i wr => ∃ k : Nat, k ≤ ni ∧ i = .int .i64 k ∧ J (d.inp.take k) wr ∧ KpC S w0.heap.size W wr) (fun _ i _ => ni - (intOf i).toNat)
  case atStart => exact ⟨0, Nat.zero_le _, rfl, H0.out, KpC.refl _⟩
  case round =>
    obtain ⟨k, hk, rfl, hJk, hK⟩ := hrel
    have HJK := Lib.hid hJk
    have HK := Lib.hid hK
    clear hJk hK
    by_cases hlt : (k : Int) < (ni : Int)
    · have hkn : k < d.inp.length := by have := HN.out.inp; omega
      have hii : d.inp = [] ∨ ∃ b off, ai = some ⟨b, off, none⟩ ∧ ∀ j, j < d.inp.length → w0.cell? ⟨b, off + j, none⟩ = some (.int .i64 (d.inp.getD j 0)) := by
        obtain ⟨a9, c9, e9, -, -, -, h9⟩ := HP.out.inp
        injection e9 with e91 e92 e93
        rw [e91]; exact h9
      obtain ⟨b, off, he, hcs⟩ := ints_cells hii hkn
      subst he
      have q := hcs wr (HW.out.trans HK.out.low)
      have hsn := take_snocI hkn
      obtain ⟨x, hx⟩ : ∃ x, x = d.inp.getD k 0 := ⟨_, rfl⟩
      rw [← hx] at q hsn
      have hpre := pre_A d (k + 1)
      rw [hsn] at hpre
      obtain ⟨fn, tmps, assign, body, hy, hR⟩ := HY.out _ x wr HJK.out (pre_len hpre)
      have HR := Lib.hid hR
      have HSN := Lib.hid hsn
      have HPRE := Lib.hid hpre
      clear hR hsn hpre hcs hkn hx hii
      gi_wp2
      refine HR.out.mono ?_
      rintro e W3 (⟨rfl, hJ3, hk3⟩ | ⟨rfl, hJx3⟩)
      · have HJ3 := Lib.hid hJ3
        have HK3 := Lib.hid hk3
        clear hJ3 hk3
        gi_wp2
        go_roundw
        case rel => exact ⟨k + 1, by omega, by go_num, by rw [HSN.out]; exact HJ3.out, HK.out.trans HK3.out⟩
        case measure => simp [intOf]; omega
      · have HJX := Lib.hid hJx3
        clear hJx3
        gi_wp2
        refine bodyPost_ret (results_none rfl _ _ _) rfl ?_
        exact ⟨⟨_, rfl⟩, .inr ⟨_, HPRE.out, HJX.out⟩⟩
    · obtain rfl : k = ni := by omega
      have hall : d.inp.take k = pB d 0 := by unfold pB; rw [List.take_of_length_le (by have := HN.out.inp; omega)]; simp
      rw [hall] at HJK
      obtain ⟨w1, rfl⟩ : ∃ w1 : World, w1 = wr := ⟨_, rfl⟩
      have c2 := (HCC.out _ HK.out).c2
      clear hall
      gi_wp2
      clear c2
      gi_loopw [6, 29] (fun _ i wr => ∃ k : Nat, k ≤ nl ∧ i = .int .i64 k ∧ J (pB d k) wr ∧ KpC S w0.heap.size W wr) (fun _ i _ => nl - (intOf i).toNat)
      case atStart => exact ⟨0, Nat.zero_le _, rfl, HJK.out, HK.out⟩
      case round =>
        obtain ⟨k2, hk2, rfl, hJk2, hK2⟩ := hrel
        have HJK2 := Lib.hid hJk2
        have HK2 := Lib.hid hK2
        clear hJk2 hK2
        by_cases hlt2 : (k2 : Int) < (nl : Int)
        · have hkn : k2 < d.lat.length := by have := HN.out.lat; omega
          obtain ⟨b, off, cap', he, hone⟩ := (HP.out.below (HW.out.trans HK2.out.low)).lat.at_ hkn
          injection he with e1 e2 e3
          subst e1
          obtain ⟨q0, q1, q2⟩ := hone
          have hsn : pB d (k2 + 1) = pB d k2 ++ [(d.lat.getD k2 tri0).1] := by unfold pB; rw [map_take_D (f := fun x : Tri => x.1) tri0 hkn, List.append_assoc]
          obtain ⟨y, hyy⟩ : ∃ y, y = d.lat.getD k2 tri0 := ⟨_, rfl⟩
          rw [← hyy] at q0 q1 q2 hsn
          obtain ⟨y1, y2, y3⟩ := y
          have hpre := pre_B d (k2 + 1)
          rw [hsn] at hpre
          obtain ⟨fn, tmps, assign, body, hy, hR⟩ := HY.out _ y1 _ (abides_alloc HJ.out HJK2.out (.cells #[.int .i64 y1, .int .i64 y2, .int .i64 y3] 50)) (pre_len hpre)
          have HR := Lib.hid hR
          have HSN := Lib.hid hsn
          have HPRE := Lib.hid hpre
          have HKA : Hid (KpC S w0.heap.size W (wr.alloc (.cells #[.int .i64 y1, .int .i64 y2, .int .i64 y3] 50))) := Lib.hid (HK2.out.alloc HNW.out _)
          clear hR hsn hpre hkn hyy e2 e3
          gi_wp2
          refine HR.out.mono ?_
          rintro e W3 (⟨rfl, hJ3, hk3⟩ | ⟨rfl, hJx3⟩)
          · have HJ3 := Lib.hid hJ3
            have HK3 := Lib.hid hk3
            clear hJ3 hk3
            gi_wp2
            go_roundw
            case rel => exact ⟨k2 + 1, by omega, by go_num, by rw [HSN.out]; exact HJ3.out, HKA.out.trans HK3.out⟩
            case measure => simp [intOf]; omega
          · have HJX := Lib.hid hJx3
            clear hJx3
            gi_wp2
            refine bodyPost_ret (results_none rfl _ _ _) rfl ?_
            exact ⟨⟨_, rfl⟩, .inr ⟨_, HPRE.out, HJX.out⟩⟩
        · obtain rfl : k2 = nl := by omega
          have hall : pB d k2 = pC d 0 := by unfold pB pC; rw [List.take_of_length_le (by have := HN.out.lat; omega)]; simp
          rw [hall] at HJK2
          obtain ⟨w2, rfl⟩ : ∃ w1 : World, w1 = wr := ⟨_, rfl⟩
          have c6 := (HCC.out _ HK2.out).c6
          clear hall
          gi_wp2
          clear c6
          gi_loopw [8, 10, 11, 42, 49, 55] (fun _ _ _ i _ _ wr => ∃ k : Nat, k ≤ nm ∧ i = .int .i64 k ∧ J (pC d k) wr ∧ KpC S w0.heap.size W wr) (fun _ _ _ i _ _ _ => nm - (intOf i).toNat)
          case atStart => exact ⟨0, Nat.zero_le _, rfl, HJK2.out, HK2.out⟩
          case round =>
            obtain ⟨k3, hk3, rfl, hJk3, hK3⟩ := hrel
            have HJK3 := Lib.hid hJk3
            have HK3 := Lib.hid hK3
            clear hJk3 hK3
            by_cases hlt3 : (k3 : Int) < (nm : Int)
            · have hkn : k3 < d.mems.length := by have := HN.out.mems; omega
              obtain ⟨b, off, cap', he, hmem⟩ := HP.out.mems.at_ hkn
              injection he with e1 e2 e3
              subst e1
              have hlm := liM_parts (HM.out k3 hkn)
              have hfm : pC d (k3 + 1) = pC d k3 ++ memDef (d.mems.getD k3 mem0) := by unfold pC; rw [flatMap_take mem0 memDef hkn, ← List.append_assoc]
              have HFP : Hid (∀ j t, j < (d.mems.getD k3 mem0).rd.length → t ≤ (d.mems.getD k3 mem0).word.toNat → pD d k3 j ++ dat ((d.mems.getD k3 mem0).rd.getD j rd0).1 t <+: definedN d) := Lib.hid fun j t => pre_F hkn
              have HPD : Hid (∀ j, j < (d.mems.getD k3 mem0).rd.length → pD d k3 (j + 1) = pD d k3 j ++ dat ((d.mems.getD k3 mem0).rd.getD j rd0).1 (d.mems.getD k3 mem0).word.toNat) := Lib.hid fun j hj => by
                unfold pD; rw [flatMap_take rd0 (fun r : RdD => dataM r.1 (d.mems.getD k3 mem0).word) hj, ← List.append_assoc]; rfl
              have HPE : Hid (pD d k3 (d.mems.getD k3 mem0).rd.length = pC d (k3 + 1)) := Lib.hid (by rw [hfm]; unfold pD memDef; rw [List.take_length])
              have HP0 : Hid (pD d k3 0 = pC d k3) := Lib.hid (by unfold pD; simp)
              obtain ⟨mm, hmm⟩ : ∃ mm, mm = d.mems.getD k3 mem0 := ⟨_, rfl⟩
              rw [← hmm] at hmem hlm HFP HPD HPE
              obtain ⟨u1, u2, y0, y1, y2, y3, y4, hmv⟩ := hmem.val
              obtain ⟨ra, rc, nr, wa, wc, nw, hag, hnr, hnw, r1, r2, z1, z2, HSR, HSW⟩ := hmv.open_
              injection hag with hag
              simp only [Array.mk.injEq, List.cons.injEq, true_and, and_true] at hag
              obtain ⟨rfl, rfl⟩ := hag
              have hbw := HW.out.trans HK3.out.low
              replace y0 := cell_below y0 hbw
              replace y1 := cell_below y1 hbw
              replace y2 := cell_below y2 hbw
              replace y3 := cell_below y3 hbw
              replace y4 := cell_below y4 hbw
              have hr6 : nr ≤ 6 := by have := of_decide_eq_true hlm.1; omega
              have hw100 : mm.word ≤ 100 := by have := of_decide_eq_true hlm.1; omega
              have HLM := Lib.hid hlm
              have HNR := Lib.hid hnr
              obtain ⟨wp, rfl⟩ : ∃ wp : World, wp = wr := ⟨_, rfl⟩
              obtain ⟨bm, hbm⟩ : ∃ bm, bm = wp.heap.size := ⟨_, rfl⟩
              obtain ⟨wm, hwm⟩ : ∃ wm, wm = wp.alloc (.cells #[.int .i64 mm.addr, .int .i64 mm.word, .bool mm.any, .slice ra nr rc, .slice wa nw wc] 56) := ⟨_, rfl⟩
              have HBM : Hid (Blk wm bm 56 #[.int .i64 mm.addr, .int .i64 mm.word, .bool mm.any, .slice ra nr rc, .slice wa nw wc]) := Lib.hid (by rw [hwm, hbm]; exact Blk.new _ _ _)
              have HKM : Hid (KpC S w0.heap.size W wm) := Lib.hid (by rw [hwm]; exact HK3.out.alloc HNW.out _)
              have HSM : Hid (¬ S bm) := Lib.hid (fun h => by have := HS.out _ h; have := HK3.out.low.size; have h2 := HK3.out; have h3 : W.heap.size ≤ wp.heap.size := HK3.out.low.size; omega)
              have HJM : Hid (J (pD d k3 0) wm) := Lib.hid (by rw [hwm, HP0.out]; exact abides_alloc HJ.out HJK3.out _)
              have HWM := Lib.hid hwm
              have HBME := Lib.hid hbm
              clear hfm hlm hmm hnr hnw hmv hmem e2 e3 hkn hbm hwm hbw
              gi_wp2
              rw [← HWM.out, ← HBME.out]
              clear y0 y1 y2 y3 y4
              gi_loopw [10, 11, 49, 55] (fun _ _ i _ wr => ∃ j : Nat, j ≤ nr ∧ i = .int .i64 j ∧ J (pD d k3 j) wr ∧ KpC S w0.heap.size wm wr) (fun _ _ i _ _ => nr - (intOf i).toNat)
              case atStart => exact ⟨0, Nat.zero_le _, rfl, HJM.out, KpC.refl _⟩
              case round =>
                obtain ⟨j, hj, rfl, hJj, hKj⟩ := hrel
                have HJJ := Lib.hid hJj
                have HKJ := Lib.hid hKj
                have HKW := Lib.hid (HKM.out.trans hKj)
                clear hJj hKj
                by_cases hltj : (j : Int) < (nr : Int)
                · have hjn : j < mm.rd.length := by have := HNR.out; omega
                  obtain ⟨b2, off2, cap2, he, hone⟩ := HSR.out.at_ hjn
                  injection he with e1 e2 e3
                  subst e1
                  obtain ⟨q0, u4, q1, hin⟩ := hone
                  have hbw := HW.out.trans HKW.out.low
                  replace q0 := cell_below q0 hbw
                  replace q1 := cell_below q1 hbw
                  have hlr := of_decide_eq_true (HLM.out.2.1 j hjn)
                  have HF := Lib.hid (fun t => HFP.out j t hjn)
                  have HD1 := Lib.hid (HPD.out j hjn)
                  obtain ⟨A5, cc5, rfl, -⟩ := hin
                  obtain ⟨v, hv⟩ : ∃ v, v = (mm.rd.getD j rd0).1 := ⟨_, rfl⟩
                  rw [← hv] at q0 hlr HF HD1
                  obtain ⟨-, v1, v2⟩ := hlr
                  have cb := (HKJ.out.blk HBM.out HSM.out).cell 1
                  generalize (mm.rd.getD j rd0).2.length = ny at q1
                  obtain ⟨wd, hwd⟩ : ∃ wd, wd = mm.word := ⟨_, rfl⟩
                  have cb1 : (wr.alloc (.cells #[.int .i64 v, .slice A5 ny cc5] 52)).cell? ⟨bm, 1, none⟩ = some (.int .i64 wd) := by rw [hwd]; exact cell_below cb (below_new1 wr _)
                  rw [← hwd] at hw100 HD1
                  have HWD := Lib.hid hwd
                  obtain ⟨wq, rfl⟩ : ∃ wq : World, wq = wr := ⟨_, rfl⟩
                  obtain ⟨br, hbr⟩ : ∃ br, br = wq.heap.size := ⟨_, rfl⟩
                  obtain ⟨wn, hwn⟩ : ∃ wn, wn = wq.alloc (.cells #[.int .i64 v, .slice A5 ny cc5] 52) := ⟨_, rfl⟩
                  have HBR : Hid (Blk wn br 52 #[.int .i64 v, .slice A5 ny cc5]) := Lib.hid (by rw [hwn, hbr]; exact Blk.new _ _ _)
                  have HKN : Hid (KpC S w0.heap.size wm wn) := Lib.hid (by rw [hwn]; exact HKJ.out.alloc (Nat.le_trans HNW.out HKM.out.low.size) _)
                  have HSR2 : Hid (¬ S br) := Lib.hid (fun h => by have := HS.out _ h; have h3 : W.heap.size ≤ wq.heap.size := HKW.out.low.size; omega)
                  have HJN : Hid (J (pD d k3 j ++ dat v 0) wn) := Lib.hid (by rw [hwn]; simpa [dat] using abides_alloc HJ.out HJJ.out _)
                  have HWN := Lib.hid hwn
                  have HBRE := Lib.hid hbr
                  clear hv hjn e2 e3 hbw hwd cb hwn hbr
                  gi_wp2
                  rw [← HWN.out, ← HBRE.out]
                  clear q0 q1 cb1
                  gi_loopw [11, 55] (fun _ i wr => ∃ t : Nat, t ≤ wd.toNat ∧ i = .int .i64 t ∧ J (pD d k3 j ++ dat v t) wr ∧ KpC S w0.heap.size wn wr) (fun _ i _ => wd.toNat - (intOf i).toNat)
                  case atStart => exact ⟨0, Nat.zero_le _, rfl, HJN.out, KpC.refl _⟩
                  case round =>
                    obtain ⟨t, ht, rfl, hJt, hKt⟩ := hrel
                    have HJT := Lib.hid hJt
                    have HKT := Lib.hid hKt
                    clear hJt hKt
                    by_cases hltt : (t : Int) < wd
                    · have cv : wr.cell? ⟨br, 0, none⟩ = some (.int .i64 v) := (HKT.out.blk HBR.out HSR2.out).cell 0
                      have ht9 : (t : Int) ≤ 100 := by omega
                      have hpre := HF.out (t + 1) (by rw [← HWD.out]; omega)
                      rw [dat_succ, ← List.append_assoc] at hpre
                      obtain ⟨fn, tmps, assign, body, hy, hR⟩ := HY.out _ (v + (t : Int)) wr HJT.out (pre_len hpre)
                      have HR := Lib.hid hR
                      have HPRE := Lib.hid hpre
                      clear hR hpre
                      gi_wp2
                      refine HR.out.mono ?_
                      rintro e W3 (⟨rfl, hJ3, hk3⟩ | ⟨rfl, hJx3⟩)
                      · have HJ3 := Lib.hid hJ3
                        have HK5 := Lib.hid hk3
                        clear hJ3 hk3
                        gi_wp2
                        go_roundw
                        case rel => exact ⟨t + 1, by omega, by go_num, by rw [dat_succ, ← List.append_assoc]; exact HJ3.out, HKT.out.trans HK5.out⟩
                        case measure => simp [intOf]; omega
                      · have HJX := Lib.hid hJx3
                        clear hJx3
                        gi_wp2
                        refine bodyPost_ret (results_none rfl _ _ _) rfl ?_
                        exact ⟨⟨_, rfl⟩, .inr ⟨_, HPRE.out, HJX.out⟩⟩
                    · obtain rfl : t = wd.toNat := by omega
                      gi_wp2
                      go_roundw
                      case rel => exact ⟨j + 1, by omega, by go_num, by rw [HD1.out]; exact HJT.out, HKN.out.trans HKT.out⟩
                      case measure => simp [intOf]; omega
                · obtain rfl : j = nr := by omega
                  have HJE : Hid (J (pC d (k3 + 1)) wr) := Lib.hid (by rw [← HPE.out, ← HNR.out]; exact HJJ.out)
                  gi_wp2
                  go_roundw
                  case rel => exact ⟨k3 + 1, by omega, by go_num, HJE.out, HKW.out⟩
                  case measure => simp [intOf]; omega
            · obtain rfl : k3 = nm := by omega
              have hall : pC d k3 = pE d 0 := by unfold pC pE; rw [List.take_of_length_le (by have := HN.out.mems; omega)]; simp
              rw [hall] at HJK3
              obtain ⟨w3, rfl⟩ : ∃ w1 : World, w1 = wr := ⟨_, rfl⟩
              have c7 := (HCC.out _ HK3.out).c7
              clear hall
              gi_wp2
              clear c7
              gi_loopw [13, 71] (fun _ i wr => ∃ k : Nat, k ≤ na ∧ i = .int .i64 k ∧ J (pE d k) wr ∧ KpC S w0.heap.size W wr) (fun _ i _ => na - (intOf i).toNat)
              case atStart => exact ⟨0, Nat.zero_le _, rfl, HJK3.out, HK3.out⟩
              case round =>
                obtain ⟨k4, hk4, rfl, hJk4, hK4⟩ := hrel
                have HJK4 := Lib.hid hJk4
                have HK4 := Lib.hid hK4
                clear hJk4 hK4
                by_cases hlt4 : (k4 : Int) < (na : Int)
                · have hkn : k4 < d.ands.length := by have := HN.out.ands; omega
                  obtain ⟨b, off, cap', he, hone⟩ := (HP.out.below (HW.out.trans HK4.out.low)).ands.at_ hkn
                  injection he with e1 e2 e3
                  subst e1
                  obtain ⟨q0, q1, q2⟩ := hone
                  have hsn : pE d (k4 + 1) = pE d k4 ++ [(d.ands.getD k4 tri0).1] := by unfold pE; rw [map_take_D (f := fun x : Tri => x.1) tri0 hkn, ← List.append_assoc]
                  obtain ⟨y, hyy⟩ : ∃ y, y = d.ands.getD k4 tri0 := ⟨_, rfl⟩
                  rw [← hyy] at q0 q1 q2 hsn
                  obtain ⟨y1, y2, y3⟩ := y
                  have hpre := pre_E d (k4 + 1)
                  rw [hsn] at hpre
                  obtain ⟨fn, tmps, assign, body, hy, hR⟩ := HY.out _ y1 _ (abides_alloc HJ.out HJK4.out (.cells #[.int .i64 y1, .int .i64 y2, .int .i64 y3] 59)) (pre_len hpre)
                  have HR := Lib.hid hR
                  have HSN := Lib.hid hsn
                  have HPRE := Lib.hid hpre
                  have HKA : Hid (KpC S w0.heap.size W (wr.alloc (.cells #[.int .i64 y1, .int .i64 y2, .int .i64 y3] 59))) := Lib.hid (HK4.out.alloc HNW.out _)
                  clear hR hsn hpre hkn hyy e2 e3
                  gi_wp2
                  refine HR.out.mono ?_
                  rintro e W3 (⟨rfl, hJ3, hk3⟩ | ⟨rfl, hJx3⟩)
                  · have HJ3 := Lib.hid hJ3
                    have HK5 := Lib.hid hk3
                    clear hJ3 hk3
                    gi_wp2
                    go_roundw
                    case rel => exact ⟨k4 + 1, by omega, by go_num, by rw [HSN.out]; exact HJ3.out, HKA.out.trans HK5.out⟩
                    case measure => simp [intOf]; omega
                  · have HJX := Lib.hid hJx3
                    clear hJx3
                    gi_wp2
                    refine bodyPost_ret (results_none rfl _ _ _) rfl ?_
                    exact ⟨⟨_, rfl⟩, .inr ⟨_, HPRE.out, HJX.out⟩⟩
                · obtain rfl : k4 = na := by omega
                  have hall : pE d k4 = definedN d := by unfold pE definedN; rw [List.take_of_length_le (by have := HN.out.ands; omega)]
                  rw [hall] at HJK4
                  clear hall
                  gi_wp2
                  go_end0
                  exact ⟨⟨_, rfl⟩, .inl HJK4.out⟩
end Go.Proofs.Ytgnimegdgphlmaa
