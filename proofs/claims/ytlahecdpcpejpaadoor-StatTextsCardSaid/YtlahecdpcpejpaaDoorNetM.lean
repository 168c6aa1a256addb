/-
  Package net: Literals, walked.
-/
import Derived.Test.YtlahecdpcpejpaaDoorNetH
namespace Go.Proofs.YtlahecdpcpejpaaDoor
open Go.ChangeShapes Go.WideShapes Go.ChangeAt Go.RowKit
set_option linter.unusedVariables false
set_option linter.unusedSimpArgs false
attribute [local go_sem ↓] Go.wp_at_zero Go.wp_at_succ
/-- A list of numbers of the call's own, in a cell; bs: blocks that stay. -/
def OutC (w wr : World) (bo : Nat) (xs : List Int) (bs : List (Nat × Obj)) : Prop :=
  w.heap.size ≤ bo ∧ (∀ p ∈ bs, p.1 ≠ bo) ∧ ∃ v, OwnC w wr v xs ((bo, .cells #[v] 23) :: bs)
theorem OutC.below {w wr wx : World} {bo : Nat} {xs : List Int} {bs : List (Nat × Obj)} (h : OutC w wr bo xs bs) (hb : Below wr.heap.size wr wx) : OutC w wx bo xs bs := by
  obtain ⟨h1, h2, v, h3⟩ := h; exact ⟨h1, h2, v, h3.below hb⟩
theorem OutC.base {w wr : World} {bo : Nat} {xs : List Int} {bs : List (Nat × Obj)} (h : OutC w wr bo xs bs) : Below w.heap.size w wr := by
  obtain ⟨h1, h2, v, h3⟩ := h; exact h3.own.2.1
theorem OwnC.swap {w wr : World} {out : Value} {xs : List Int} {b c : Nat × Obj} {bs : List (Nat × Obj)} (h : OwnC w wr out xs (b :: c :: bs)) : OwnC w wr out xs (c :: b :: bs) := by
  have e : ∀ p, p ∈ c :: b :: bs → p ∈ b :: c :: bs := fun p hp => by
    rcases List.mem_cons.1 hp with rfl | hp
    · exact List.mem_cons_of_mem _ (List.mem_cons_self ..)
    · rcases List.mem_cons.1 hp with rfl | hp
      · exact List.mem_cons_self ..
      · exact List.mem_cons_of_mem _ (List.mem_cons_of_mem _ hp)
  exact ⟨h.own, fun p hp => h.kept p (e p hp), fun p hp => h.far p (e p hp)⟩
theorem OutC.push {w wr : World} {bo : Nat} {xs : List Int} {bs : List (Nat × Obj)} (h : OutC w wr bo xs bs) (o : Obj) : OutC w (wr.alloc o) bo xs ((wr.heap.size, o) :: bs) := by
  obtain ⟨h1, h2, v, h3⟩ := h
  refine ⟨h1, fun p hp => ?_, v, (h3.push o).swap⟩
  rcases List.mem_cons.1 hp with rfl | hp
  · intro e
    have := heap_lt h3.head
    simp at e
    omega
  · exact h2 p hp
theorem OutC.pop {w wr : World} {bo : Nat} {xs : List Int} {b : Nat × Obj} {bs : List (Nat × Obj)} (h : OutC w wr bo xs (b :: bs)) : OutC w wr bo xs bs := by
  obtain ⟨h1, h2, v, h3⟩ := h
  exact ⟨h1, fun p hp => h2 p (List.mem_cons_of_mem _ hp), v, h3.swap.pop⟩
theorem OutC.head {w wr : World} {bo : Nat} {xs : List Int} {b : Nat} {o : Obj} {bs : List (Nat × Obj)} (h : OutC w wr bo xs ((b, o) :: bs)) : wr.heap[b]? = some o := by
  obtain ⟨h1, h2, v, h3⟩ := h; exact h3.pop.head
theorem OutC.new (w : World) : OutC w (w.alloc (.cells #[.slice none 0 0] 23)) w.heap.size [] [] :=
  ⟨Nat.le_refl _, (fun p hp => by cases hp), _, (OwnC.start (OwnI.start w)).push _⟩
theorem OwnC.put {w wr : World} {v v' : Value} {xs : List Int} {bo : Nat} {bs : List (Nat × Obj)} (h1 : w.heap.size ≤ bo) (h2 : ∀ p ∈ bs, p.1 ≠ bo) (h : OwnC w wr v' xs ((bo, .cells #[v] 23) :: bs)) :
    OwnC w (wr.setCell ⟨bo, 0, none⟩ v') v' xs ((bo, .cells #[v'] 23) :: bs) := by
  have hk : Chg (fun k => k = bo) wr (wr.setCell ⟨bo, 0, none⟩ v') := (Chg.refl (fun k => k = bo) wr).setCell (p := ⟨bo, 0, none⟩) (.inl rfl) v'
  refine ⟨?_, fun p hp => ?_, fun p hp => ?_⟩
  · refine ⟨h.own.1.chg hk (fun g hg e => h.far (bo, .cells #[v] 23) (List.mem_cons_self ..) (by rw [hg, e])), h.own.2.1.setCell (by simpa using h1) _, h.own.2.2⟩
  · rcases List.mem_cons.1 hp with rfl | hp
    · have hb : Blk wr bo 23 #[v] := h.head
      exact hb.set_ 0 v'
    · exact hk.at_ (h.kept p (List.mem_cons_of_mem _ hp)) (h2 p hp)
  · rcases List.mem_cons.1 hp with rfl | hp
    · exact h.far (bo, .cells #[v] 23) (List.mem_cons_self ..)
    · exact h.far p (List.mem_cons_of_mem _ hp)
theorem OutC.put {w wr : World} {v v' : Value} {xs : List Int} {bo : Nat} {bs : List (Nat × Obj)} (h1 : w.heap.size ≤ bo) (h2 : ∀ p ∈ bs, p.1 ≠ bo) (h : OwnC w wr v' xs ((bo, .cells #[v] 23) :: bs)) :
    OutC w (wr.setCell ⟨bo, 0, none⟩ v') bo xs bs := ⟨h1, h2, v', OwnC.put h1 h2 h⟩
set_option maxHeartbeats 1000000 in
theorem put_ {w wr : World} {bo : Nat} {xs : List Int} {bs : List (Nat × Obj)} (h : OutC w wr bo xs bs) {A : Option Addr} {m c : Nat} {ys : List Int} (hm : ys.length = m) (hl : xs.length + m ≤ 1099511627776) (hs : Src wr A 1 m (ys.map iv)) :
    Calls Tryd.prog 49 #[.slice A m c, .pointer (some ⟨bo, 0, none⟩)] wr fun e w' => e = .returned (.tuple #[]) ∧ OutC w w' bo (xs ++ ys) bs := by
  obtain ⟨h1, h2, v, h3⟩ := h
  obtain ⟨a, cap, rfl, -, -⟩ := h3.own.form
  have c0 : wr.cell? ⟨bo, 0, none⟩ = some (.slice a xs.length cap) := Blk.cell (t := 23) h3.head 0
  have H1 := Lib.hid h1
  have H2 := Lib.hid h2
  have H3 := Lib.hid h3
  have HM := Lib.hid hm
  have HS := Lib.hid hs
  obtain ⟨n, hn⟩ : ∃ n, n = xs.length := ⟨_, rfl⟩
  rw [← hn] at H3 c0
  have HL : Hid (xs.length + m ≤ 1099511627776) := Lib.hid hl
  clear h1 h2 h3 hm hs hn hl
  go_enter Tryd.func49, Tryd.ntmps49
  go_wp2_with (at_builtin; refine wpList_C (w := w) rfl _ _ rfl _ xs rfl A m c ys rfl HM.out HL.out H3.out HS.out ?_; intro v4 w4 h4; obtain ⟨a4, cap4, rfl, -, -⟩ := h4.own.form; obtain ⟨l4, hl4⟩ : ∃ l, l = (xs ++ ys).length := ⟨_, rfl⟩; rw [← hl4] at h4 ⊢; clear hl4; have c4 : w4.cell? ⟨bo, 0, none⟩ = some (.slice a n cap) := Blk.cell (t := 23) h4.head 0; have f4 : w4.frozen? ⟨bo, 0, none⟩ = false := Blk.frozen (t := 23) h4.head 0; have H4 := Lib.hid h4; clear h4)
  go_end0
  exact ⟨rfl, OutC.put H1.out H2.out H4.out⟩
set_option maxHeartbeats 8000000 in
set_option maxRecDepth 100000 in
theorem net_Literals {w : World} {d : NetD} {vi vl vo vb vc vm va : Value} (h : NetP w d vi vl vo vb vc vm va) (hl : liH d = true) (hm : LiMs d) :
    Calls Tryd.prog 30 #[netV d vi vl vo vb vc vm va] w (RetI w (literalsN d)) := by
  obtain ⟨ai, ci, ni, al, cl, nl, ao, co, no, ab, cb, nb, ac, cc, nc, am, cm, nm, aa, ca, na, rfl, rfl, rfl, rfl, rfl, rfl, rfl, HN, HC⟩ := h.open_ hl
  obtain ⟨⟨i1, i2, i3⟩, ⟨l1, l2, l3⟩, ⟨o1, o2, o3⟩, ⟨b1, b2, b3⟩, ⟨c1, c2, c3⟩, ⟨m1, m2, m3⟩, ⟨a1, a2, a3⟩⟩ := HC
  unfold netV
  obtain ⟨wb, hwb⟩ : ∃ wb, wb = w.alloc (.cells #[.int .i64 d.vars, .slice ai ni ci, .slice al nl cl, .slice ao no co, .slice ab nb cb, .slice ac nc cc, .slice am nm cm, .slice aa na ca] 28) := ⟨_, rfl⟩
  obtain ⟨bx, hbx⟩ : ∃ bx, bx = w.heap.size := ⟨_, rfl⟩
  have HB1 : Hid (Below w.heap.size w wb) := Lib.hid (by rw [hwb]; exact below_new1 w _)
  have HBX : Hid (NBox wb bx d (.slice ai ni ci) (.slice al nl cl) (.slice ao no co) (.slice ab nb cb) (.slice ac nc cc) (.slice am nm cm) (.slice aa na ca)) := Lib.hid (by rw [hwb, hbx]; exact NBox.new w _ _ _ _ _ _ _ _)
  have HP := Lib.hid (h.below HB1.out)
  have HM := Lib.hid hm
  obtain ⟨bo, hbo⟩ : ∃ bo, bo = w.heap.size + 1 := ⟨_, rfl⟩
  obtain ⟨wo, hwo⟩ : ∃ wo, wo = wb.alloc (.cells #[.slice none 0 0] 23) := ⟨_, rfl⟩
  have hbs : bo = wb.heap.size := by rw [hwb, hbo]; simp
  have HO : Hid (OutC wb wo bo [] []) := Lib.hid (by rw [hwo, hbs]; exact OutC.new wb)
  rw [hwb] at hwo
  have HWO := Lib.hid hwo
  have HBO := Lib.hid hbo
  have HBE := Lib.hid hbx
  have HLI := Lib.hid (of_decide_eq_true hl)
  have C2 : Hid (wo.cell? ⟨bx, 2, none⟩ = some (.slice al nl cl)) := Lib.hid (HBX.out.later HO.out.base).c2
  clear h hl hm hwb hbx hbo hwo hbs
  go_enter Tryd.func30, Tryd.ntmps30
  go_wp2
  rw [← HWO.out, ← HBO.out]
  rw [← HBE.out]
  have c2 := C2.out
  go_loopw [5, 18] (fun _ i wr => ∃ k : Nat, k ≤ nl ∧ i = .int .i64 k ∧ OutC wb wr bo ((d.lat.take k).map (·.2.1)) []) (fun _ i _ => nl - (intOf i).toNat)
  case atStart => exact ⟨0, Nat.zero_le _, rfl, HO.out⟩
  case round =>
    obtain ⟨k, hk, rfl, hO⟩ := hrel
    have HOO := Lib.hid hO
    clear hO
    by_cases hlt : (k : Int) < (nl : Int)
    · have hkn : k < d.lat.length := by have := HN.out.lat; omega
      obtain ⟨b, off, cap', he, hone⟩ := HP.out.lat.at_ hkn
      injection he with e1 e2 e3
      subst e1
      obtain ⟨q0, q1, q2⟩ := hone
      replace q0 := cell_below q0 HOO.out.base
      replace q1 := cell_below q1 HOO.out.base
      replace q2 := cell_below q2 HOO.out.base
      have hrow := map_take_D (f := fun x : Tri => x.2.1) tri0 hkn
      obtain ⟨y, hy⟩ : ∃ y, y = d.lat.getD k tri0 := ⟨_, rfl⟩
      rw [← hy] at q0 q1 q2 hrow
      obtain ⟨y1, y2, y3⟩ := y
      have HROW := Lib.hid hrow
      have HBD : Hid (((d.lat.take k).map (·.2.1)).length + 1 ≤ 1099511627776) := Lib.hid (by simp; omega)
      clear hrow hy e2 e3 hkn
      go_wp2_with (go_at_call 49; refine (put_ (HOO.out.below (below_new2 wr (.cells #[.int .i64 y1, .int .i64 y2, .int .i64 y3] 70) (.cells #[.int .i64 y2] 3))) (ys := [y2]) rfl HBD.out (Src.one (heap_new2 wr _ _))).mono ?_; rintro e w4 ⟨rfl, h4⟩; have H4 := Lib.hid h4; clear h4)
      go_roundw
      case rel => exact ⟨k + 1, by omega, by go_num, by rw [HROW.out]; exact H4.out⟩
      case measure => simp [intOf]; omega
    · obtain rfl : k = nl := by omega
      have hall : (d.lat.take k).map (·.2.1) = d.lat.map (·.2.1) := by rw [List.take_of_length_le (by have := HN.out.lat; omega)]
      rw [hall] at HOO
      obtain ⟨L0, hL0⟩ : ∃ L, L = d.lat.map (·.2.1) := ⟨_, rfl⟩
      rw [← hL0] at HOO
      have HL0 := Lib.hid hL0
      have HLL : Hid (L0.length ≤ 2100) := Lib.hid (by have := HN.out.lat; rw [hL0]; simp; omega)
      obtain ⟨w1, rfl⟩ : ∃ w1 : World, w1 = wr := ⟨_, rfl⟩
      have HD3 : Hid (∀ W, Below wb.heap.size wb W → W.cell? ⟨bx, 3, none⟩ = some (.slice ao no co) ∧ W.cell? ⟨bx, 4, none⟩ = some (.slice ab nb cb) ∧ W.cell? ⟨bx, 5, none⟩ = some (.slice ac nc cc) ∧ W.cell? ⟨bx, 6, none⟩ = some (.slice am nm cm) ∧ W.cell? ⟨bx, 7, none⟩ = some (.slice aa na ca)) := Lib.hid fun W hW => ⟨(HBX.out.later hW).c3, (HBX.out.later hW).c4, (HBX.out.later hW).c5, (HBX.out.later hW).c6, (HBX.out.later hW).c7⟩
      obtain ⟨d3, -⟩ := HD3.out w1 HOO.out.base
      have hno : Hid (d.out.length = no) := Lib.hid HN.out.out.symm
      have hnb : Hid (d.bad.length = nb) := Lib.hid HN.out.bad.symm
      have hnc : Hid (d.con.length = nc) := Lib.hid HN.out.con.symm
      clear hall hL0
      go_wp2_with fail
      refine (put_ HOO.out (ys := d.out) hno.out (by have := HLL.out; omega) (ints_src (HP.out.below HOO.out.base).out)).mono ?_
      rintro e w4 ⟨rfl, h4⟩
      obtain ⟨-, d4, -⟩ := HD3.out w4 h4.base
      have H4 := Lib.hid h4
      clear h4
      go_wp2_with fail
      refine (put_ H4.out (ys := d.bad) hnb.out (by have := HLL.out; have := hno.out; rw [List.length_append]; omega) (ints_src (HP.out.below H4.out.base).bad)).mono ?_
      rintro e w5 ⟨rfl, h5⟩
      obtain ⟨-, -, d5, -⟩ := HD3.out w5 h5.base
      have H5 := Lib.hid h5
      clear h5
      go_wp2_with fail
      refine (put_ H5.out (ys := d.con) hnc.out (by have := HLL.out; have := hno.out; have := hnb.out; rw [List.length_append, List.length_append]; omega) (ints_src (HP.out.below H5.out.base).con)).mono ?_
      rintro e w6 ⟨rfl, h6⟩
      obtain ⟨-, -, -, d6, -⟩ := HD3.out w6 h6.base
      have H6 := Lib.hid h6
      clear h6 c2
      go_wp2
      clear d3 d4 d5 d6
      obtain ⟨L1, hL1⟩ : ∃ L, L = L0 ++ d.out ++ d.bad ++ d.con := ⟨_, rfl⟩
      rw [← hL1] at H6
      have HL1 := Lib.hid hL1
      have HLL1 : Hid (L1.length ≤ 5400) := Lib.hid (by have := HLL.out; have := hno.out; have := hnb.out; have := hnc.out; rw [hL1]; simp; omega)
      clear hL1
      go_loopw [7, 9, 11, 43, 50, 62] (fun _ _ _ i _ _ wr => ∃ k : Nat, ∃ xs, k ≤ nm ∧ i = .int .i64 k ∧ xs = L1 ++ (d.mems.take k).flatMap memLit ∧ xs.length ≤ 5400 + 2000 * k ∧ OutC wb wr bo xs []) (fun _ _ _ i _ _ _ => nm - (intOf i).toNat)
      case atStart => exact ⟨0, _, Nat.zero_le _, rfl, rfl, by have := HLL1.out; simp; omega, by simpa using H6.out⟩
      case round =>
        obtain ⟨k, xs, hk2, rfl, hxs, hxl, hO⟩ := hrel
        have HO := Lib.hid hO
        have HXS := Lib.hid hxs
        clear hO hxs
        by_cases hlt2 : (k : Int) < (nm : Int)
        · have hkn : k < d.mems.length := by have := HN.out.mems; omega
          obtain ⟨b, off, cap', he, hmem⟩ := HP.out.mems.at_ hkn
          injection he with e1 e2 e3
          subst e1
          have hfm := flatMap_take mem0 memLit hkn
          have hlm := liM_parts (HM.out k hkn)
          obtain ⟨mm, hmm⟩ : ∃ mm, mm = d.mems.getD k mem0 := ⟨_, rfl⟩
          rw [← hmm] at hmem hfm hlm
          obtain ⟨u1, u2, y0, y1, y2, y3, y4, hmv⟩ := hmem.val
          obtain ⟨ra, rc, nr, wa, wc, nw, hag, hnr, hnw, r1, r2, q1, q2, HSR, HSW⟩ := hmv.open_
          injection hag with hag
          simp only [Array.mk.injEq, List.cons.injEq, true_and, and_true] at hag
          obtain ⟨rfl, rfl⟩ := hag
          replace y0 := cell_below y0 HO.out.base
          replace y1 := cell_below y1 HO.out.base
          replace y2 := cell_below y2 HO.out.base
          replace y3 := cell_below y3 HO.out.base
          replace y4 := cell_below y4 HO.out.base
          have hr6 : nr ≤ 6 := by have := of_decide_eq_true hlm.1; omega
          have hw6 : nw ≤ 6 := by have := of_decide_eq_true hlm.1; omega
          have HFM := Lib.hid hfm
          have HLM := Lib.hid hlm
          have HNR := Lib.hid hnr
          have HNW := Lib.hid hnw
          obtain ⟨wp, rfl⟩ : ∃ wp : World, wp = wr := ⟨_, rfl⟩
          obtain ⟨ob, hob⟩ : ∃ ob : Obj, ob = .cells #[.int .i64 mm.addr, .int .i64 mm.word, .bool mm.any, .slice ra nr rc, .slice wa nw wc] 53 := ⟨_, rfl⟩
          obtain ⟨bm, hbm⟩ : ∃ bm, bm = wp.heap.size := ⟨_, rfl⟩
          obtain ⟨wm, hwm⟩ : ∃ wm, wm = wp.alloc ob := ⟨_, rfl⟩
          have HOM : Hid (OutC wb wm bo xs [(bm, ob)]) := Lib.hid (by rw [hwm, hbm]; exact HO.out.push ob)
          rw [hob] at hwm
          have HWM := Lib.hid hwm
          have HBM := Lib.hid hbm
          have HOB := Lib.hid hob
          clear hfm hlm hmm hnr hnw hmv hmem e2 e3 hkn hob hbm hwm
          go_wp2
          rw [← HWM.out, ← HBM.out]
          clear y0 y1 y2 y3 y4
          go_loopw [9, 50] (fun _ i wr => ∃ j : Nat, ∃ ys, j ≤ nr ∧ i = .int .i64 j ∧ ys = (mm.rd.take j).flatMap (fun r => r.2) ∧ ys.length ≤ 100 * j ∧ OutC wb wr bo (xs ++ ys) [(bm, ob)]) (fun _ i _ => nr - (intOf i).toNat)
          case atStart => exact ⟨0, _, Nat.zero_le _, rfl, rfl, by simp, by simpa using HOM.out⟩
          case round =>
            obtain ⟨j, ys, hj, rfl, hys, hyl, hO2⟩ := hrel
            have hbk : Blk wr bm 53 #[.int .i64 mm.addr, .int .i64 mm.word, .bool mm.any, .slice ra nr rc, .slice wa nw wc] := by have := hO2.head; rw [HOB.out] at this; exact this
            have c4 : wr.cell? ⟨bm, 4, none⟩ = some (.slice wa nw wc) := hbk.cell 4
            have HO2 := Lib.hid hO2
            have HYS := Lib.hid hys
            clear hbk
            by_cases hlt3 : (j : Int) < (nr : Int)
            · have hjn : j < mm.rd.length := by have := HNR.out; omega
              obtain ⟨b2, off2, cap2, he, hone⟩ := HSR.out.at_ hjn
              injection he with e1 e2 e3
              subst e1
              obtain ⟨q0, u4, q1, hin⟩ := hone
              have hlr := of_decide_eq_true (HLM.out.2.1 j hjn)
              have hfj := flatMap_take rd0 (fun r : RdD => r.2) hjn
              replace q0 := cell_below q0 hO2.base
              replace q1 := cell_below q1 hO2.base
              obtain ⟨y, hy⟩ : ∃ y, y = mm.rd.getD j rd0 := ⟨_, rfl⟩
              rw [← hy] at q0 hin hfj hlr
              obtain ⟨yv, zs⟩ := y
              obtain ⟨A5, cc5, rfl, -, z1, z2, -⟩ := id hin
              obtain ⟨nz, hnz⟩ : ∃ nz, nz = zs.length := ⟨_, rfl⟩
              change zs.length ≤ _ at z1
              change zs.length ≤ _ ∧ _ at hlr
              change wr.cell? _ = some (.slice A5 zs.length cc5) at q1
              change Ints _ (.slice A5 zs.length cc5) zs at hin
              rw [← hnz] at q1 hin z1 hlr
              obtain ⟨hz9, -, -⟩ := hlr
              have HFJ := Lib.hid hfj
              have HNZ := Lib.hid hnz
              have HIN := Lib.hid hin
              have HBD : Hid ((xs ++ ys).length + nz ≤ 1099511627776) := Lib.hid (by rw [List.length_append]; omega)
              unfold maxLen at z2
              clear hO2 hys hfj hnz hjn hin e2 e3 hy c4
              go_wp2_with (go_at_call 49; refine (put_ (HO2.out.below (below_new1 wr (.cells #[.int .i64 yv, .slice A5 nz cc5] 65))) (ys := zs) HNZ.out.symm HBD.out (ints_src (HIN.out.below (HO2.out.below (below_new1 wr (.cells #[.int .i64 yv, .slice A5 nz cc5] 65))).base))).mono ?_; rintro e w4 ⟨rfl, h4⟩; have H4 := Lib.hid h4; clear h4)
              go_roundw
              case rel => exact ⟨j + 1, ys ++ zs, by omega, by go_num, by rw [HFJ.out, ← HYS.out], by rw [List.length_append, ← HNZ.out]; omega, by rw [← List.append_assoc]; exact H4.out⟩
              case measure => simp [intOf]; omega
            · obtain rfl : j = nr := by omega
              have hall : ys = mm.rd.flatMap fun r => r.2 := by rw [hys, List.take_of_length_le (l := mm.rd) (by have := HNR.out; omega)]
              have HALL := Lib.hid hall
              have hyl6 : ys.length ≤ 600 := by omega
              obtain ⟨wq, rfl⟩ : ∃ wq : World, wq = wr := ⟨_, rfl⟩
              clear hall hO2 hys
              go_wp2
              clear c4
              go_loopw [11, 62] (fun _ i wr => ∃ j : Nat, ∃ zs, j ≤ nw ∧ i = .int .i64 j ∧ zs = (mm.wr.take j).flatMap wlit ∧ zs.length ≤ 201 * j ∧ OutC wb wr bo (xs ++ ys ++ zs) [(bm, ob)]) (fun _ i _ => nw - (intOf i).toNat)
              case atStart => exact ⟨0, _, Nat.zero_le _, rfl, rfl, by simp, by simpa using HO2.out⟩
              case round =>
                obtain ⟨t, zs, ht, rfl, hzs, hzl, hO3⟩ := hrel
                have HO3 := Lib.hid hO3
                have HZS := Lib.hid hzs
                by_cases hlt4 : (t : Int) < (nw : Int)
                · have htn : t < mm.wr.length := by have := HNW.out; omega
                  obtain ⟨b2, off2, cap2, he, hone⟩ := HSW.out.at_ htn
                  injection he with e1 e2 e3
                  subst e1
                  obtain ⟨q0, ⟨u4, q1, hin⟩, u5, q2, hin2⟩ := hone
                  have hlw := of_decide_eq_true (HLM.out.2.2 t htn)
                  have hft := flatMap_take wr0 wlit htn
                  replace q0 := cell_below q0 hO3.base
                  replace q1 := cell_below q1 hO3.base
                  replace q2 := cell_below q2 hO3.base
                  obtain ⟨y, hy⟩ : ∃ y, y = mm.wr.getD t wr0 := ⟨_, rfl⟩
                  rw [← hy] at q0 hin hin2 hft hlw
                  obtain ⟨on, hon⟩ : ∃ on, on = y.1 := ⟨_, rfl⟩
                  obtain ⟨ad, has⟩ : ∃ ad, ad = y.2.1 := ⟨_, rfl⟩
                  obtain ⟨ds, hds⟩ : ∃ ds, ds = y.2.2 := ⟨_, rfl⟩
                  have hwl : wlit y = on :: (ad ++ ds) := by rw [hon, has, hds]; rfl
                  rw [hwl] at hft
                  rw [← hon] at q0
                  rw [← has] at hin hlw
                  rw [← hds] at hin2 hlw
                  obtain ⟨A5, cc5, rfl, -, z1, z2, -⟩ := id hin
                  obtain ⟨A6, cc6, rfl, -, z3, z4, -⟩ := id hin2
                  obtain ⟨nas, hnas⟩ : ∃ n, n = ad.length := ⟨_, rfl⟩
                  obtain ⟨nds, hnds⟩ : ∃ n, n = ds.length := ⟨_, rfl⟩
                  rw [← hnas] at q1 hin z1 hlw
                  rw [← hnds] at q2 hin2 z3 hlw
                  obtain ⟨hl1, hl2⟩ := hlw
                  have HFT := Lib.hid hft
                  have HNA := Lib.hid hnas
                  have HND := Lib.hid hnds
                  have HI1 := Lib.hid hin
                  have HI2 := Lib.hid hin2
                  obtain ⟨L2, hL2⟩ : ∃ L, L = xs ++ ys ++ zs := ⟨_, rfl⟩
                  have HL2 := Lib.hid hL2
                  have HLB : Hid (L2.length ≤ 100000) := Lib.hid (by rw [hL2]; simp only [List.length_append]; omega)
                  rw [← hL2] at HO3
                  have hOW : OutC wb (wr.alloc (.cells #[.int .i64 on, .slice A5 nas cc5, .slice A6 nds cc6] 67)) bo L2 [(wr.heap.size, .cells #[.int .i64 on, .slice A5 nas cc5, .slice A6 nds cc6] 67), (bm, ob)] := HO3.out.push _
                  have HOW := Lib.hid (hOW.below (below_new1 _ (.cells #[.int .i64 on] 3)))
                  unfold maxLen at z2 z4
                  clear hO3 hzs hft hnas hnds hon has hds htn hin hin2 e2 e3 hy hwl hL2 hOW
                  go_wp2_with fail
                  refine (put_ HOW.out (m := 1) (ys := [on]) rfl (by have := HLB.out; omega) (Src.one (heap_new2 wr _ _))).mono ?_
                  rintro e w4 ⟨rfl, h4⟩
                  have k41 : w4.cell? ⟨wr.heap.size, 1, none⟩ = some (.slice A5 nas cc5) := Blk.cell (t := 67) h4.head 1
                  have H4 := Lib.hid h4
                  clear h4
                  go_wp2_with fail
                  refine (put_ H4.out (m := nas) (ys := ad) HNA.out.symm (by have := HLB.out; rw [List.length_append]; simp; omega) (ints_src (HI1.out.below H4.out.base))).mono ?_
                  rintro e w5 ⟨rfl, h5⟩
                  have k52 : w5.cell? ⟨wr.heap.size, 2, none⟩ = some (.slice A6 nds cc6) := Blk.cell (t := 67) h5.head 2
                  have H5 := Lib.hid h5
                  clear h5
                  go_wp2_with fail
                  refine (put_ H5.out (m := nds) (ys := ds) HND.out.symm (by have := HLB.out; have := HNA.out; simp only [List.length_append, List.length_singleton]; omega) (ints_src (HI2.out.below H5.out.base))).mono ?_
                  rintro e w6 ⟨rfl, h6⟩
                  have H6 := Lib.hid h6
                  clear h6
                  go_wp2
                  go_roundw
                  case rel =>
                    refine ⟨t + 1, zs ++ (on :: (ad ++ ds)), by omega, by go_num, by rw [HFT.out, ← HZS.out], by have := HNA.out; have := HND.out; simp only [List.length_append, List.length_cons]; omega, ?_⟩
                    have h := H6.out.pop
                    rw [HL2.out] at h
                    have e : xs ++ ys ++ (zs ++ (on :: (ad ++ ds))) = xs ++ ys ++ zs ++ [on] ++ ad ++ ds := by simp
                    rw [e]; exact h
                  case measure => simp [intOf]; omega
                · obtain rfl : t = nw := by omega
                  have hall : xs ++ ys ++ zs = L1 ++ (d.mems.take (k + 1)).flatMap memLit := by
                    rw [HFM.out, ← List.append_assoc, ← HXS.out, hzs, HALL.out, List.take_of_length_le (l := mm.wr) (by have := HNW.out; omega), List.append_assoc]; rfl
                  have HALL2 := Lib.hid hall
                  have hyl7 : zs.length ≤ 1206 := by omega
                  clear hall hO3 hzs
                  go_wp2
                  go_roundw
                  case rel => exact ⟨k + 1, xs ++ ys ++ zs, by omega, by go_num, HALL2.out, by simp only [List.length_append]; omega, HO3.out.pop⟩
                  case measure => simp [intOf]; omega
        · obtain rfl : k = nm := by omega
          have hall : xs = L1 ++ d.mems.flatMap memLit := by rw [HXS.out, List.take_of_length_le (by have := HN.out.mems; omega)]
          have HALL := Lib.hid hall
          obtain ⟨wo2, rfl⟩ : ∃ wo : World, wo = wr := ⟨_, rfl⟩
          have hx78 : xs.length ≤ 17400 := by omega
          obtain ⟨-, -, -, -, c7⟩ := HD3.out wo2 HO.out.base
          clear hall
          go_wp2
          clear c7
          go_loopw [13, 84] (fun _ i wr => ∃ k : Nat, ∃ ys, k ≤ na ∧ i = .int .i64 k ∧ ys = (d.ands.take k).flatMap (fun a => [a.2.1, a.2.2]) ∧ ys.length ≤ 2 * k ∧ OutC wb wr bo (xs ++ ys) []) (fun _ i _ => na - (intOf i).toNat)
          case atStart => exact ⟨0, _, Nat.zero_le _, rfl, rfl, by simp, by simpa using HO.out⟩
          case round =>
            obtain ⟨k2, ys, hk2, rfl, hys, hyl, hO⟩ := hrel
            have HO7 := Lib.hid hO
            have HYS := Lib.hid hys
            by_cases hlt : (k2 : Int) < (na : Int)
            · have hkn : k2 < d.ands.length := by have := HN.out.ands; omega
              obtain ⟨b, off, cap', he, hone⟩ := HP.out.ands.at_ hkn
              injection he with e1 e2 e3
              subst e1
              obtain ⟨q0, q1, q2⟩ := hone
              replace q0 := cell_below q0 hO.base
              replace q1 := cell_below q1 hO.base
              replace q2 := cell_below q2 hO.base
              have hrow := flatMap_take tri0 (fun a : Tri => [a.2.1, a.2.2]) hkn
              obtain ⟨y, hy⟩ : ∃ y, y = d.ands.getD k2 tri0 := ⟨_, rfl⟩
              rw [← hy] at q0 q1 q2 hrow
              obtain ⟨y1, y2, y3⟩ := y
              have HROW := Lib.hid hrow
              have HBD : Hid ((xs ++ ys).length + 2 ≤ 1099511627776) := Lib.hid (by rw [List.length_append]; omega)
              clear hrow hy e2 e3 hkn hO hys
              go_wp2_with (go_at_call 49; refine (put_ (HO7.out.below (below_new2 wr (.cells #[.int .i64 y1, .int .i64 y2, .int .i64 y3] 93) (.cells #[.int .i64 y2, .int .i64 y3] 3))) (ys := [y2, y3]) rfl HBD.out (by have h := src_two (wr.alloc (.cells #[.int .i64 y1, .int .i64 y2, .int .i64 y3] 93)) y2 y3; simpa using h)).mono ?_; rintro e w4 ⟨rfl, h4⟩; have H4 := Lib.hid h4; clear h4)
              go_roundw
              case rel => exact ⟨k2 + 1, ys ++ [y2, y3], by omega, by go_num, by rw [HROW.out, ← HYS.out], by rw [List.length_append]; simp; omega, by rw [← List.append_assoc]; exact H4.out⟩
              case measure => simp [intOf]; omega
            · obtain rfl : k2 = na := by omega
              have hend : xs ++ ys = literalsN d := by
                rw [hys, List.take_of_length_le (by have := HN.out.ands; omega), HALL.out, HL1.out, HL0.out]; rfl
              rw [hend] at HO7
              obtain ⟨h1, h2, v, h3⟩ := HO7.out
              obtain ⟨va', vcap, rfl, -, -⟩ := h3.own.form
              have k0 : wr.cell? ⟨bo, 0, none⟩ = some (.slice va' (literalsN d).length vcap) := Blk.cell (t := 23) h3.head 0
              have f0 : wr.frozen? ⟨bo, 0, none⟩ = false := Blk.frozen (t := 23) h3.head 0
              have HF : Hid (RetI w (literalsN d) (.returned (.slice va' (literalsN d).length vcap)) (wr.setCell ⟨bo, 0, none⟩ (.slice va' (literalsN d).length vcap))) := Lib.hid ⟨_, rfl, (OwnC.put h1 h2 h3).own.from_ HB1.out⟩
              clear hend hO hys h1 h2 h3
              generalize (literalsN d).length = nlit at k0 HF ⊢
              go_wp2
              refine bodyPost_ret (v := .slice va' nlit vcap) (by simp [results, Tryd.results30, go_sem, k0]) rfl HF.out
end Go.Proofs.YtlahecdpcpejpaaDoor
