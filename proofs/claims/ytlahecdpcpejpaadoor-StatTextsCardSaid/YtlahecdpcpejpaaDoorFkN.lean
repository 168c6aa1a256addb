/-
  Chapter 40: the law StatTexts.
-/
import Derived.Test.YtlahecdpcpejpaaDoorFkM
namespace Go.Proofs.YtlahecdpcpejpaaDoor
open Go Go.ChangeShapes Go.WideShapes Go.ChangeAt Go.RowKit
set_option linter.unusedVariables false
set_option linter.unusedSimpArgs false
attribute [local go_sem ↓] Go.wp_at_zero Go.wp_at_succ
theorem itoa40 {x : Int} (h0 : -9223372036854775808 ≤ x) (h1 : x ≤ 9223372036854775807) {W : World} (ht : Tab W) : Calls Tryd.prog 24 #[.int .i64 x] W fun e w' => e = .returned (.string (bsT (Lib.itoa x))) ∧ Below W.heap.size W w' :=
  (Tryd.strconv_Itoa x h0 h1 W ht).mono fun e w' ⟨h1, k, os, h2⟩ => ⟨h1, by subst h2; exact Lib.below_grow _ W (Nat.le_refl _) k os⟩
theorem join_len (xs : List Int) (h : ∀ x ∈ xs, (Lib.itoa x).length ≤ 21) (hl : xs.length = 10) : (Lib.join (xs.map Lib.itoa) [32]).length ≤ 1000000 := by
  obtain ⟨x0, x1, x2, x3, x4, x5, x6, x7, x8, x9, rfl⟩ := ten_list xs hl
  rw [← joinK_eq]
  have := joinK_len (T := Lib.itoa) (xs := [x0, x1, x2, x3, x4, x5, x6, x7, x8, x9]) h 10 (Nat.le_refl _)
  omega
theorem range_ten {w : World} {b : Nat} {t : TypeId} {x0 x1 x2 x3 x4 x5 x6 x7 x8 x9 : Int} (h : Blk w b t #[.int .i64 x0, .int .i64 x1, .int .i64 x2, .int .i64 x3, .int .i64 x4, .int .i64 x5, .int .i64 x6, .int .i64 x7, .int .i64 x8, .int .i64 x9]) : w.rangeAt b 0 [.int .i64 x0, .int .i64 x1, .int .i64 x2, .int .i64 x3, .int .i64 x4, .int .i64 x5, .int .i64 x6, .int .i64 x7, .int .i64 x8, .int .i64 x9] := fun j v hv => by
  have hj : j < 10 := (List.getElem?_eq_some_iff.1 hv).1
  rw [Nat.zero_add, ten_cell h j hj]
  have : j = 0 ∨ j = 1 ∨ j = 2 ∨ j = 3 ∨ j = 4 ∨ j = 5 ∨ j = 6 ∨ j = 7 ∨ j = 8 ∨ j = 9 := by omega
  rcases this with e | e | e | e | e | e | e | e | e | e <;> subst e <;> simpa using hv
set_option maxHeartbeats 16000000 in
set_option maxRecDepth 100000 in
theorem claw_stexts {w : World} {d : NetD} {vi vl vo vb vc vm va : Value} {x0 x1 x2 x3 x4 x5 x6 x7 x8 x9 f : Int} (h : NetP w d vi vl vo vb vc vm va) (hL : Tab w) (hx : ∀ x ∈ [x0, x1, x2, x3, x4, x5, x6, x7, x8, x9], -9223372036854775808 ≤ x ∧ x ≤ 9223372036854775807) :
    Calls Tryd.prog 3 #[.agg #[.int .i64 x0, .int .i64 x1, .int .i64 x2, .int .i64 x3, .int .i64 x4, .int .i64 x5, .int .i64 x6, .int .i64 x7, .int .i64 x8, .int .i64 x9], netV d vi vl vo vb vc vm va, .int .i64 f] w fun e w' => e = .returned (.bool true) ∧ Below w.heap.size w w' := by
  obtain ⟨ai, ci, h1, -, i1, i2, -⟩ := id h.inp
  obtain ⟨al, cl, h2, l1, l2⟩ := h.lat.form
  obtain ⟨ao, co, h3, -, o1, o2, -⟩ := id h.out
  obtain ⟨ab, cb, h4, -, b1, b2, -⟩ := id h.bad
  obtain ⟨ac, cc, h5, -, c1, c2, -⟩ := id h.con
  obtain ⟨am, cm, h6, m1, m2⟩ := h.mems.form
  obtain ⟨aa, ca, h7, a1, a2⟩ := h.ands.form
  obtain ⟨ni, hni⟩ : ∃ n, n = d.inp.length := ⟨_, rfl⟩
  obtain ⟨nl, hnl⟩ : ∃ n, n = d.lat.length := ⟨_, rfl⟩
  obtain ⟨no, hno⟩ : ∃ n, n = d.out.length := ⟨_, rfl⟩
  obtain ⟨nb, hnb⟩ : ∃ n, n = d.bad.length := ⟨_, rfl⟩
  obtain ⟨nc, hnc⟩ : ∃ n, n = d.con.length := ⟨_, rfl⟩
  obtain ⟨nm, hnm⟩ : ∃ n, n = d.mems.length := ⟨_, rfl⟩
  obtain ⟨na, hna⟩ : ∃ n, n = d.ands.length := ⟨_, rfl⟩
  rw [← hni] at h1 i1
  rw [← hnl] at h2 l1
  rw [← hno] at h3 o1
  rw [← hnb] at h4 b1
  rw [← hnc] at h5 c1
  rw [← hnm] at h6 m1
  rw [← hna] at h7 a1
  unfold maxLen at i2 l2 o2 b2 c2 m2 a2
  subst h1 h2 h3 h4 h5 h6 h7
  obtain ⟨wb, hwb⟩ : ∃ wb, wb = (w.alloc (.cells #[.int .i64 x0, .int .i64 x1, .int .i64 x2, .int .i64 x3, .int .i64 x4, .int .i64 x5, .int .i64 x6, .int .i64 x7, .int .i64 x8, .int .i64 x9] 22)).alloc (.cells #[.int .i64 d.vars, .slice ai ni ci, .slice al nl cl, .slice ao no co, .slice ab nb cb, .slice ac nc cc, .slice am nm cm, .slice aa na ca] 28) := ⟨_, rfl⟩
  obtain ⟨b0, hb0⟩ : ∃ b, b = w.heap.size := ⟨_, rfl⟩
  obtain ⟨bx, hbx⟩ : ∃ bx, bx = w.heap.size + 1 := ⟨_, rfl⟩
  have HB1 : Hid (Below w.heap.size w wb) := Lib.hid (by rw [hwb]; exact below_new2 w _ _)
  have HXB : Hid (Blk wb b0 22 #[.int .i64 x0, .int .i64 x1, .int .i64 x2, .int .i64 x3, .int .i64 x4, .int .i64 x5, .int .i64 x6, .int .i64 x7, .int .i64 x8, .int .i64 x9]) := Lib.hid (by rw [hwb, hb0]; exact (Blk.new w _ _).alloc _)
  have HBX : Hid (NBox wb bx d (.slice ai ni ci) (.slice al nl cl) (.slice ao no co) (.slice ab nb cb) (.slice ac nc cc) (.slice am nm cm) (.slice aa na ca)) := Lib.hid (by
    have e : bx = (w.alloc (.cells #[.int .i64 x0, .int .i64 x1, .int .i64 x2, .int .i64 x3, .int .i64 x4, .int .i64 x5, .int .i64 x6, .int .i64 x7, .int .i64 x8, .int .i64 x9] 22)).heap.size := by rw [hbx]; simp
    rw [hwb, e]; exact NBox.new _ _ _ _ _ _ _ _ _)
  have HP := Lib.hid (h.below HB1.out)
  have HTB := Lib.hid (hL.below HB1.out)
  have hli := light07 HP.out
  have hchk : ∀ W, Below wb.heap.size wb W → lightN d = true → _ := fun W hW hl => r06_Check (HP.out.below hW) hl
  have hhard : ∀ W, Below wb.heap.size wb W → lightN d = true → _ := fun W hW hl => stat_Hard (HP.out.below hW) hl f
  have hsize : ∀ W, Below wb.heap.size wb W → lightN d = true → ∀ q V : Nat, f = (q : Int) → q ≤ 100 → soundN d = 0 → d.vars = (V : Int) → V ≤ 2000 → _ := fun W hW hl q V hf hq h0 hv hv2 => r36_Size (HP.out.below hW) hl h0 hv hv2 hq
  unfold netV at hli hchk hhard hsize ⊢
  rw [hwb] at hli
  have HLI := Lib.hid hli
  have HCHK := Lib.hid hchk
  have HHARD0 := Lib.hid hhard
  have HSIZE := Lib.hid hsize
  have HX := Lib.hid hx
  obtain ⟨xs, hxs⟩ : ∃ xs : List Int, xs = [x0, x1, x2, x3, x4, x5, x6, x7, x8, x9] := ⟨_, rfl⟩
  have HXS := Lib.hid hxs
  have HC : Hid (∀ k : Nat, k < 10 → wb.cell? ⟨b0, k, none⟩ = some (.int .i64 (xs.getD k 0))) := Lib.hid (by rw [hxs]; exact ten_cell HXB.out)
  have HLX : Hid (xs.length = 10) := Lib.hid (by rw [hxs]; rfl)
  have HWB := Lib.hid hwb
  have HB0 := Lib.hid hb0
  have HBE : Hid (bx = b0 + 1) := Lib.hid (by rw [hbx, hb0])
  clear h hL hwb hb0 hbx hli hchk hhard hsize hx hxs hni hnl hno hnb hnc hnm hna
  go_enter Tryd.func3, Tryd.ntmps3
  go_wp2_with fail
  refine HLI.out.mono ?_
  rintro e w1 ⟨b, rfl, hl, hb1⟩
  rw [← HWB.out] at hb1
  rw [← HB0.out, ← HBE.out]
  have K1 := Lib.hid hb1
  have HL := Lib.hid hl
  clear hl hb1
  cases b with
  | false =>
    have HA := Lib.hid (alive40 w1)
    go_wp2_with fail
    refine HA.out.mono ?_
    rintro e w2 ⟨rfl, hb2⟩
    have H2 := Lib.hid ((HB1.out.trans (K1.out.mono HB1.out.size)).trans (hb2.mono (Nat.le_trans HB1.out.size K1.out.size)))
    clear hb2
    go_wp2
    go_ret
    exact ⟨rfl, H2.out⟩
  | true =>
    have HLN : Hid (lightN d = true) := Lib.hid (HL.out rfl)
    go_wp2
    go_loopw [7] (fun i wr => ∃ k : Nat, k ≤ 10 ∧ i = .int .i64 (k : Nat) ∧ (∀ j, j < k → -4611686018427387904 ≤ xs.getD j 0) ∧ wr = w1) (fun i _ => 10 - (intOf i).toNat)
    case atStart => exact ⟨0, Nat.zero_le _, rfl, fun j hj => by omega, rfl⟩
    case round =>
      obtain ⟨k, hk, rfl, hall, rfl⟩ := hrel
      have HALL := Lib.hid hall
      by_cases hlt : (k : Int) < 10
      · have hk10 : k < 10 := by omega
        obtain ⟨x, hx⟩ : ∃ x, x = xs.getD k 0 := ⟨_, rfl⟩
        have q0 := HC.out k hk10
        rw [← hx] at q0
        have q0 : wr.cell? ⟨b0, k, none⟩ = some (.int .i64 x) := (K1.out.cell (p := ⟨b0, k, none⟩) HXB.out.lt).trans q0
        have HXK := Lib.hid hx
        clear hall hx
        by_cases hm : x < -4611686018427387904
        · have HA := Lib.hid (alive40 wr)
          go_wp2_with fail
          refine HA.out.mono ?_
          rintro e w2 ⟨rfl, hb2⟩
          have H2 := Lib.hid ((HB1.out.trans (K1.out.mono HB1.out.size)).trans (hb2.mono (Nat.le_trans HB1.out.size K1.out.size)))
          clear hb2
          go_wp2
          go_ret
          exact ⟨rfl, H2.out⟩
        · have HNX : Hid (∀ j, j < k + 1 → -4611686018427387904 ≤ xs.getD j 0) := Lib.hid fun j hj => by
            rcases Nat.lt_or_ge j k with g | g
            · exact HALL.out j g
            · rw [show j = k by omega, ← HXK.out]; omega
          go_wp2
          go_roundw
          case rel => exact ⟨k + 1, by omega, by go_num, HNX.out, trivial⟩
          case measure => simp [intOf]; omega
      · have hk10 : k = 10 := by omega
        subst hk10
        have HLO : Hid (∀ x ∈ xs, -9223372036854775807 ≤ x ∧ x ≤ 9223372036854775807) := Lib.hid fun x hx => by
          obtain ⟨j, hj, rfl⟩ := List.getElem_of_mem hx
          have h1 := HALL.out j (by have := HLX.out; omega)
          rw [List.getD_eq_getElem?_getD, List.getElem?_eq_getElem hj] at h1
          have h1 : -4611686018427387904 ≤ xs[j] := h1
          have h2 := HX.out xs[j] (by rw [← HXS.out]; exact List.getElem_mem hj)
          omega
        obtain ⟨tx, htx⟩ : ∃ tx, tx = textQ Lib.itoa [x0, x1, x2, x3, x4, x5, x6, x7, x8, x9] := ⟨_, rfl⟩
        have HTEXT : Hid (∀ W, Below wb.heap.size wb W → Calls Tryd.prog 9 #[.agg #[.int .i64 x0, .int .i64 x1, .int .i64 x2, .int .i64 x3, .int .i64 x4, .int .i64 x5, .int .i64 x6, .int .i64 x7, .int .i64 x8, .int .i64 x9]] W fun e w' => e = .returned (.string tx) ∧ Below W.heap.size W w') := Lib.hid fun W hW => by
          rw [htx]
          refine stat_Text Lib.itoa (fun x hx W' hW' => ?_) (join_len _ (fun x hx => ?_) rfl)
          · exact itoa40 (HX.out x hx).1 (HX.out x hx).2 ((HTB.out.below hW).below hW')
          · exact itoa_lenT x (HX.out x hx).1 (HX.out x hx).2
        have HRTEXT : Hid (∀ W, Calls Tryd.prog 10 #[.agg #[.int .i64 x0, .int .i64 x1, .int .i64 x2, .int .i64 x3, .int .i64 x4, .int .i64 x5, .int .i64 x6, .int .i64 x7, .int .i64 x8, .int .i64 x9]] W fun e w' => e = .returned (.string tx) ∧ Below W.heap.size W w') := Lib.hid fun W => by
          rw [htx]
          exact r40_Text (fun x hx => HLO.out x (by rw [HXS.out]; exact hx))
        obtain ⟨z, hz⟩ : ∃ z, z = hardQ d f := ⟨_, rfl⟩
        have HHARD : Hid (∀ W, Below wb.heap.size wb W → Calls Tryd.prog 11 #[.agg #[.int .i64 d.vars, .slice ai ni ci, .slice al nl cl, .slice ao no co, .slice ab nb cb, .slice ac nc cc, .slice am nm cm, .slice aa na ca], .int .i64 f] W fun e w' => e = .returned (.int .i64 z) ∧ Below W.heap.size W w') := Lib.hid fun W hW => by
          rw [hz]
          exact HHARD0.out W hW HLN.out
        have HZ := Lib.hid hz
        obtain ⟨b2, hb2⟩ : ∃ b, b = wr.heap.size := ⟨_, rfl⟩
        obtain ⟨w2, hw2⟩ : ∃ w2, w2 = wr.alloc (.cells #[.int .i64 x0, .int .i64 x1, .int .i64 x2, .int .i64 x3, .int .i64 x4, .int .i64 x5, .int .i64 x6, .int .i64 x7, .int .i64 x8, .int .i64 x9] 32) := ⟨_, rfl⟩
        have hy2 : Blk w2 b2 32 #[.int .i64 x0, .int .i64 x1, .int .i64 x2, .int .i64 x3, .int .i64 x4, .int .i64 x5, .int .i64 x6, .int .i64 x7, .int .i64 x8, .int .i64 x9] := by rw [hw2, hb2]; exact Blk.new _ _ _
        have hbb2 : Below wr.heap.size wr w2 := by rw [hw2]; exact below_new1 wr _
        have K2 : Hid (Below wb.heap.size wb w2) := Lib.hid (K1.out.trans (hbb2.mono K1.out.size))
        have hx2 := HXB.out.below K2.out HXB.out.lt
        have hn2 := HBX.out.later K2.out
        have HX2 := Lib.hid hx2
        have HN2 := Lib.hid hn2
        have HY2 := Lib.hid hy2
        have KC0 : Hid (∀ W, Below w2.heap.size w2 W → (fun w' : World => w'.rangeAt b0 0 [.int .i64 x0, .int .i64 x1, .int .i64 x2, .int .i64 x3, .int .i64 x4, .int .i64 x5, .int .i64 x6, .int .i64 x7, .int .i64 x8, .int .i64 x9] ∧ w'.cell? ⟨bx, 0, none⟩ = some (.int .i64 d.vars) ∧ w'.cell? ⟨bx, 1, none⟩ = some (.slice ai ni ci) ∧ w'.cell? ⟨bx, 2, none⟩ = some (.slice al nl cl) ∧ w'.cell? ⟨bx, 3, none⟩ = some (.slice ao no co) ∧ w'.cell? ⟨bx, 4, none⟩ = some (.slice ab nb cb) ∧ w'.cell? ⟨bx, 5, none⟩ = some (.slice ac nc cc) ∧ w'.cell? ⟨bx, 6, none⟩ = some (.slice am nm cm) ∧ w'.cell? ⟨bx, 7, none⟩ = some (.slice aa na ca) ∧ w'.cell? ⟨b2, 0, none⟩ = some (.int .i64 x0) ∧ w'.cell? ⟨b2, 1, none⟩ = some (.int .i64 x1) ∧ w'.cell? ⟨b2, 2, none⟩ = some (.int .i64 x2) ∧ w'.cell? ⟨b2, 3, none⟩ = some (.int .i64 x3) ∧ w'.cell? ⟨b2, 4, none⟩ = some (.int .i64 x4) ∧ w'.cell? ⟨b2, 5, none⟩ = some (.int .i64 x5) ∧ w'.cell? ⟨b2, 6, none⟩ = some (.int .i64 x6) ∧ w'.cell? ⟨b2, 7, none⟩ = some (.int .i64 x7) ∧ w'.cell? ⟨b2, 8, none⟩ = some (.int .i64 x8) ∧ w'.cell? ⟨b2, 9, none⟩ = some (.int .i64 x9)) W) := Lib.hid fun W hW => by
          have p1 := HX2.out.below hW HX2.out.lt
          have p2 := HN2.out.later hW
          have p3 := HY2.out.below hW HY2.out.lt
          exact ⟨range_ten p1, p2.c0, p2.c1, p2.c2, p2.c3, p2.c4, p2.c5, p2.c6, p2.c7, p3.cell 0, p3.cell 1, p3.cell 2, p3.cell 3, p3.cell 4, p3.cell 5, p3.cell 6, p3.cell 7, p3.cell 8, p3.cell 9⟩
        have hx1 := HXB.out.below K1.out HXB.out.lt
        have m0 : wr.cell? ⟨b0, 0, none⟩ = some (.int .i64 x0) := hx1.cell 0
        have m1 : wr.cell? ⟨b0, 1, none⟩ = some (.int .i64 x1) := hx1.cell 1
        have m2 : wr.cell? ⟨b0, 2, none⟩ = some (.int .i64 x2) := hx1.cell 2
        have m3 : wr.cell? ⟨b0, 3, none⟩ = some (.int .i64 x3) := hx1.cell 3
        have m4 : wr.cell? ⟨b0, 4, none⟩ = some (.int .i64 x4) := hx1.cell 4
        have m5 : wr.cell? ⟨b0, 5, none⟩ = some (.int .i64 x5) := hx1.cell 5
        have m6 : wr.cell? ⟨b0, 6, none⟩ = some (.int .i64 x6) := hx1.cell 6
        have m7 : wr.cell? ⟨b0, 7, none⟩ = some (.int .i64 x7) := hx1.cell 7
        have m8 : wr.cell? ⟨b0, 8, none⟩ = some (.int .i64 x8) := hx1.cell 8
        have m9 : wr.cell? ⟨b0, 9, none⟩ = some (.int .i64 x9) := hx1.cell 9
        have HW2 := Lib.hid hw2
        have HB2E := Lib.hid hb2
        clear hall htx hz hb2 hw2 hy2 hbb2 hx2 hn2 hx1
        by_cases hfr : 0 ≤ f ∧ f ≤ 100
        · obtain ⟨q, rfl⟩ : ∃ q : Nat, f = (q : Int) := ⟨f.toNat, by omega⟩
          have hq2 : q ≤ 100 := by omega
          obtain ⟨n0, n1, n2, n3, n4, n5, n6, n7⟩ := (HN2.out).all
          have HCK2 := Lib.hid (HCHK.out w2 K2.out HLN.out)
          clear hfr
          rw [HW2.out] at n0 n1 n2 n3 n4 n5 n6 n7
          go_wp2_with fail
          rw [← HB2E.out, ← HW2.out]
          refine HCK2.out.mono ?_
          rintro e w3 ⟨rfl, hb3⟩
          have HBN2 := Lib.hid hb3
          have HKN := Lib.hid (K2.out.trans (hb3.mono K2.out.size))
          clear n0 n1 n2 n3 n4 n5 n6 n7 m0 m1 m2 m3 m4 m5 m6 m7 m8 m9
          by_cases hc : checkN d = 0
          · obtain ⟨h0, V, hs, hA⟩ := good_iff.1 hc
            have HSZ := Lib.hid (HSIZE.out w3 HKN.out HLN.out q V rfl hq2 h0 hs.vars hs.lim)
            have hz2 : hardN d q = z := by rw [HZ.out, hardQ_yes hc hq2]
            have HZ2 := Lib.hid hz2
            obtain ⟨n0, n1, n2, n3, n4, n5, n6, n7⟩ := (HN2.out.later hb3).all
            rw [hc]
            clear h0 hs hA hz2 hc hb3
            go_wp2_with fail
            refine HSZ.out.mono ?_
            rintro e w4 ⟨v, rfl, hb4⟩
            rw [HZ2.out]
            have HBN2 := Lib.hid (HBN2.out.trans (hb4.mono HBN2.out.size))
            have HKN := Lib.hid (HKN.out.trans (hb4.mono HKN.out.size))
            clear hb4 n0 n1 n2 n3 n4 n5 n6 n7
            have hu : Tryd.prog.underlying 22 = some (.array 10 3) := Tryd.underlying22
            have hsz : (Tryd.prog.info? 22).map (·.size) = some ([.int .i64 x0, .int .i64 x1, .int .i64 x2, .int .i64 x3, .int .i64 x4, .int .i64 x5, .int .i64 x6, .int .i64 x7, .int .i64 x8, .int .i64 x9] : List Value).length := by kernel_rfl
            have HBN : Hid (Below wb.heap.size wb w4) := Lib.hid HKN.out
            have HTX : Hid (∀ W, Below w4.heap.size w4 W → Calls Tryd.prog 9 #[.agg #[.int .i64 x0, .int .i64 x1, .int .i64 x2, .int .i64 x3, .int .i64 x4, .int .i64 x5, .int .i64 x6, .int .i64 x7, .int .i64 x8, .int .i64 x9]] W fun e w' => e = .returned (.string tx) ∧ Below w4.heap.size w4 w') := Lib.hid fun W hW => (HTEXT.out W (HBN.out.trans (hW.mono HBN.out.size))).mono fun e w' ⟨h1, h2⟩ => ⟨h1, hW.trans (h2.mono hW.size)⟩
            have HRX : Hid (∀ W, Below w4.heap.size w4 W → Calls Tryd.prog 10 #[.agg #[.int .i64 x0, .int .i64 x1, .int .i64 x2, .int .i64 x3, .int .i64 x4, .int .i64 x5, .int .i64 x6, .int .i64 x7, .int .i64 x8, .int .i64 x9]] W fun e w' => e = .returned (.string tx) ∧ Below w4.heap.size w4 w') := Lib.hid fun W hW => (HRTEXT.out W).mono fun e w' ⟨h1, h2⟩ => ⟨h1, hW.trans (h2.mono hW.size)⟩
            have HHD : Hid (∀ W, Below w4.heap.size w4 W → Calls Tryd.prog 11 #[.agg #[.int .i64 d.vars, .slice ai ni ci, .slice al nl cl, .slice ao no co, .slice ab nb cb, .slice ac nc cc, .slice am nm cm, .slice aa na ca], .int .i64 (q : Nat)] W fun e w' => e = .returned (.int .i64 z) ∧ Below w4.heap.size w4 w') := Lib.hid fun W hW => (HHARD.out W (HBN.out.trans (hW.mono HBN.out.size))).mono fun e w' ⟨h1, h2⟩ => ⟨h1, hW.trans (h2.mono hW.size)⟩
            have HAL : Hid (∀ W, Below w4.heap.size w4 W → Calls Tryd.prog 6 #[] W fun e w' => e = .returned (.bool true) ∧ Below w4.heap.size w4 w') := Lib.hid fun W hW => (alive40 W).mono fun e w' ⟨h1, h2⟩ => ⟨h1, hW.trans (h2.mono hW.size)⟩
            have KC : Hid (∀ W, Below w4.heap.size w4 W → (fun w' : World => w'.rangeAt b0 0 [.int .i64 x0, .int .i64 x1, .int .i64 x2, .int .i64 x3, .int .i64 x4, .int .i64 x5, .int .i64 x6, .int .i64 x7, .int .i64 x8, .int .i64 x9] ∧ w'.cell? ⟨bx, 0, none⟩ = some (.int .i64 d.vars) ∧ w'.cell? ⟨bx, 1, none⟩ = some (.slice ai ni ci) ∧ w'.cell? ⟨bx, 2, none⟩ = some (.slice al nl cl) ∧ w'.cell? ⟨bx, 3, none⟩ = some (.slice ao no co) ∧ w'.cell? ⟨bx, 4, none⟩ = some (.slice ab nb cb) ∧ w'.cell? ⟨bx, 5, none⟩ = some (.slice ac nc cc) ∧ w'.cell? ⟨bx, 6, none⟩ = some (.slice am nm cm) ∧ w'.cell? ⟨bx, 7, none⟩ = some (.slice aa na ca) ∧ w'.cell? ⟨b2, 0, none⟩ = some (.int .i64 x0) ∧ w'.cell? ⟨b2, 1, none⟩ = some (.int .i64 x1) ∧ w'.cell? ⟨b2, 2, none⟩ = some (.int .i64 x2) ∧ w'.cell? ⟨b2, 3, none⟩ = some (.int .i64 x3) ∧ w'.cell? ⟨b2, 4, none⟩ = some (.int .i64 x4) ∧ w'.cell? ⟨b2, 5, none⟩ = some (.int .i64 x5) ∧ w'.cell? ⟨b2, 6, none⟩ = some (.int .i64 x6) ∧ w'.cell? ⟨b2, 7, none⟩ = some (.int .i64 x7) ∧ w'.cell? ⟨b2, 8, none⟩ = some (.int .i64 x8) ∧ w'.cell? ⟨b2, 9, none⟩ = some (.int .i64 x9)) W) := Lib.hid fun W hW => KC0.out W (HBN2.out.trans (hW.mono HBN2.out.size))
            have KB4 : Hid (Below w4.heap.size w4 w4) := Lib.hid (Below.refl _ _)
            obtain ⟨a0, n0, n1, n2, n3, n4, n5, n6, n7, e0, e1, e2, e3, e4, e5, e6, e7, e8, e9⟩ := KC.out _ KB4.out
            try go_wp2
            go_region_held3 (fun w' : World => w'.rangeAt b0 0 [.int .i64 x0, .int .i64 x1, .int .i64 x2, .int .i64 x3, .int .i64 x4, .int .i64 x5, .int .i64 x6, .int .i64 x7, .int .i64 x8, .int .i64 x9] ∧ w'.cell? ⟨bx, 0, none⟩ = some (.int .i64 d.vars) ∧ w'.cell? ⟨bx, 1, none⟩ = some (.slice ai ni ci) ∧ w'.cell? ⟨bx, 2, none⟩ = some (.slice al nl cl) ∧ w'.cell? ⟨bx, 3, none⟩ = some (.slice ao no co) ∧ w'.cell? ⟨bx, 4, none⟩ = some (.slice ab nb cb) ∧ w'.cell? ⟨bx, 5, none⟩ = some (.slice ac nc cc) ∧ w'.cell? ⟨bx, 6, none⟩ = some (.slice am nm cm) ∧ w'.cell? ⟨bx, 7, none⟩ = some (.slice aa na ca) ∧ w'.cell? ⟨b2, 0, none⟩ = some (.int .i64 x0) ∧ w'.cell? ⟨b2, 1, none⟩ = some (.int .i64 x1) ∧ w'.cell? ⟨b2, 2, none⟩ = some (.int .i64 x2) ∧ w'.cell? ⟨b2, 3, none⟩ = some (.int .i64 x3) ∧ w'.cell? ⟨b2, 4, none⟩ = some (.int .i64 x4) ∧ w'.cell? ⟨b2, 5, none⟩ = some (.int .i64 x5) ∧ w'.cell? ⟨b2, 6, none⟩ = some (.int .i64 x6) ∧ w'.cell? ⟨b2, 7, none⟩ = some (.int .i64 x7) ∧ w'.cell? ⟨b2, 8, none⟩ = some (.int .i64 x8) ∧ w'.cell? ⟨b2, 9, none⟩ = some (.int .i64 x9)) (go_keep) (first
              | (go_at_call 9; refine (HTX.out _ (by first | exact KB8.out | exact KB7.out | exact KB6.out | exact KB5.out | exact KB4.out | exact KB8.out.drew | exact KB7.out.drew | exact KB6.out.drew | exact KB5.out.drew | exact KB4.out.drew)).mono ?_; rintro e w5 ⟨rfl, hb5⟩; have KB5 := Lib.hid hb5; obtain ⟨a0, n0, n1, n2, n3, n4, n5, n6, n7, e0, e1, e2, e3, e4, e5, e6, e7, e8, e9⟩ := KC.out _ hb5; clear hb5)
              | (go_at_call 10; refine (HRX.out _ (by first | exact KB8.out | exact KB7.out | exact KB6.out | exact KB5.out | exact KB4.out | exact KB8.out.drew | exact KB7.out.drew | exact KB6.out.drew | exact KB5.out.drew | exact KB4.out.drew)).mono ?_; rintro e w6 ⟨rfl, hb6⟩; have KB6 := Lib.hid hb6; obtain ⟨a0, n0, n1, n2, n3, n4, n5, n6, n7, e0, e1, e2, e3, e4, e5, e6, e7, e8, e9⟩ := KC.out _ hb6; clear hb6)
              | (go_at_call 11; refine (HHD.out _ (by first | exact KB8.out | exact KB7.out | exact KB6.out | exact KB5.out | exact KB4.out | exact KB8.out.drew | exact KB7.out.drew | exact KB6.out.drew | exact KB5.out.drew | exact KB4.out.drew)).mono ?_; rintro e w7 ⟨rfl, hb7⟩; have KB7 := Lib.hid hb7; obtain ⟨a0, n0, n1, n2, n3, n4, n5, n6, n7, e0, e1, e2, e3, e4, e5, e6, e7, e8, e9⟩ := KC.out _ hb7; clear hb7)
              | (go_at_call 6; refine (HAL.out _ (by first | exact KB8.out | exact KB7.out | exact KB6.out | exact KB5.out | exact KB4.out | exact KB8.out.drew | exact KB7.out.drew | exact KB6.out.drew | exact KB5.out.drew | exact KB4.out.drew)).mono ?_; rintro e w8 ⟨rfl, hb8⟩; have KB8 := Lib.hid hb8; obtain ⟨a0, n0, n1, n2, n3, n4, n5, n6, n7, e0, e1, e2, e3, e4, e5, e6, e7, e8, e9⟩ := KC.out _ hb8; clear hb8))
            have HF : Hid (Below w.heap.size w w8) := Lib.hid ((HB1.out.trans (HBN.out.mono HB1.out.size)).trans (KB8.out.mono (Nat.le_trans HB1.out.size HBN.out.size)))
            clear hu hsz a0 n0 n1 n2 n3 n4 n5 n6 n7 e0 e1 e2 e3 e4 e5 e6 e7 e8 e9
            go_wp2
            go_ret
            exact ⟨rfl, HF.out⟩
          · obtain rfl : z = 0 := by rw [HZ.out]; exact hardQ_no fun h => hc h.1
            have hb : (checkN d == 0) = false := by rw [beq_eq_false_iff_ne]; exact hc
            generalize checkN d = cv at *
            clear hc hb3
            have hu : Tryd.prog.underlying 22 = some (.array 10 3) := Tryd.underlying22
            have hsz : (Tryd.prog.info? 22).map (·.size) = some ([.int .i64 x0, .int .i64 x1, .int .i64 x2, .int .i64 x3, .int .i64 x4, .int .i64 x5, .int .i64 x6, .int .i64 x7, .int .i64 x8, .int .i64 x9] : List Value).length := by kernel_rfl
            have HBN : Hid (Below wb.heap.size wb w3) := Lib.hid HKN.out
            have HTX : Hid (∀ W, Below w3.heap.size w3 W → Calls Tryd.prog 9 #[.agg #[.int .i64 x0, .int .i64 x1, .int .i64 x2, .int .i64 x3, .int .i64 x4, .int .i64 x5, .int .i64 x6, .int .i64 x7, .int .i64 x8, .int .i64 x9]] W fun e w' => e = .returned (.string tx) ∧ Below w3.heap.size w3 w') := Lib.hid fun W hW => (HTEXT.out W (HBN.out.trans (hW.mono HBN.out.size))).mono fun e w' ⟨h1, h2⟩ => ⟨h1, hW.trans (h2.mono hW.size)⟩
            have HRX : Hid (∀ W, Below w3.heap.size w3 W → Calls Tryd.prog 10 #[.agg #[.int .i64 x0, .int .i64 x1, .int .i64 x2, .int .i64 x3, .int .i64 x4, .int .i64 x5, .int .i64 x6, .int .i64 x7, .int .i64 x8, .int .i64 x9]] W fun e w' => e = .returned (.string tx) ∧ Below w3.heap.size w3 w') := Lib.hid fun W hW => (HRTEXT.out W).mono fun e w' ⟨h1, h2⟩ => ⟨h1, hW.trans (h2.mono hW.size)⟩
            have HHD : Hid (∀ W, Below w3.heap.size w3 W → Calls Tryd.prog 11 #[.agg #[.int .i64 d.vars, .slice ai ni ci, .slice al nl cl, .slice ao no co, .slice ab nb cb, .slice ac nc cc, .slice am nm cm, .slice aa na ca], .int .i64 (q : Nat)] W fun e w' => e = .returned (.int .i64 0) ∧ Below w3.heap.size w3 w') := Lib.hid fun W hW => (HHARD.out W (HBN.out.trans (hW.mono HBN.out.size))).mono fun e w' ⟨h1, h2⟩ => ⟨h1, hW.trans (h2.mono hW.size)⟩
            have HAL : Hid (∀ W, Below w3.heap.size w3 W → Calls Tryd.prog 6 #[] W fun e w' => e = .returned (.bool true) ∧ Below w3.heap.size w3 w') := Lib.hid fun W hW => (alive40 W).mono fun e w' ⟨h1, h2⟩ => ⟨h1, hW.trans (h2.mono hW.size)⟩
            have KC : Hid (∀ W, Below w3.heap.size w3 W → (fun w' : World => w'.rangeAt b0 0 [.int .i64 x0, .int .i64 x1, .int .i64 x2, .int .i64 x3, .int .i64 x4, .int .i64 x5, .int .i64 x6, .int .i64 x7, .int .i64 x8, .int .i64 x9] ∧ w'.cell? ⟨bx, 0, none⟩ = some (.int .i64 d.vars) ∧ w'.cell? ⟨bx, 1, none⟩ = some (.slice ai ni ci) ∧ w'.cell? ⟨bx, 2, none⟩ = some (.slice al nl cl) ∧ w'.cell? ⟨bx, 3, none⟩ = some (.slice ao no co) ∧ w'.cell? ⟨bx, 4, none⟩ = some (.slice ab nb cb) ∧ w'.cell? ⟨bx, 5, none⟩ = some (.slice ac nc cc) ∧ w'.cell? ⟨bx, 6, none⟩ = some (.slice am nm cm) ∧ w'.cell? ⟨bx, 7, none⟩ = some (.slice aa na ca) ∧ w'.cell? ⟨b2, 0, none⟩ = some (.int .i64 x0) ∧ w'.cell? ⟨b2, 1, none⟩ = some (.int .i64 x1) ∧ w'.cell? ⟨b2, 2, none⟩ = some (.int .i64 x2) ∧ w'.cell? ⟨b2, 3, none⟩ = some (.int .i64 x3) ∧ w'.cell? ⟨b2, 4, none⟩ = some (.int .i64 x4) ∧ w'.cell? ⟨b2, 5, none⟩ = some (.int .i64 x5) ∧ w'.cell? ⟨b2, 6, none⟩ = some (.int .i64 x6) ∧ w'.cell? ⟨b2, 7, none⟩ = some (.int .i64 x7) ∧ w'.cell? ⟨b2, 8, none⟩ = some (.int .i64 x8) ∧ w'.cell? ⟨b2, 9, none⟩ = some (.int .i64 x9)) W) := Lib.hid fun W hW => KC0.out W (HBN2.out.trans (hW.mono HBN2.out.size))
            have KB4 : Hid (Below w3.heap.size w3 w3) := Lib.hid (Below.refl _ _)
            obtain ⟨a0, n0, n1, n2, n3, n4, n5, n6, n7, e0, e1, e2, e3, e4, e5, e6, e7, e8, e9⟩ := KC.out _ KB4.out
            try go_wp2
            go_region_held3 (fun w' : World => w'.rangeAt b0 0 [.int .i64 x0, .int .i64 x1, .int .i64 x2, .int .i64 x3, .int .i64 x4, .int .i64 x5, .int .i64 x6, .int .i64 x7, .int .i64 x8, .int .i64 x9] ∧ w'.cell? ⟨bx, 0, none⟩ = some (.int .i64 d.vars) ∧ w'.cell? ⟨bx, 1, none⟩ = some (.slice ai ni ci) ∧ w'.cell? ⟨bx, 2, none⟩ = some (.slice al nl cl) ∧ w'.cell? ⟨bx, 3, none⟩ = some (.slice ao no co) ∧ w'.cell? ⟨bx, 4, none⟩ = some (.slice ab nb cb) ∧ w'.cell? ⟨bx, 5, none⟩ = some (.slice ac nc cc) ∧ w'.cell? ⟨bx, 6, none⟩ = some (.slice am nm cm) ∧ w'.cell? ⟨bx, 7, none⟩ = some (.slice aa na ca) ∧ w'.cell? ⟨b2, 0, none⟩ = some (.int .i64 x0) ∧ w'.cell? ⟨b2, 1, none⟩ = some (.int .i64 x1) ∧ w'.cell? ⟨b2, 2, none⟩ = some (.int .i64 x2) ∧ w'.cell? ⟨b2, 3, none⟩ = some (.int .i64 x3) ∧ w'.cell? ⟨b2, 4, none⟩ = some (.int .i64 x4) ∧ w'.cell? ⟨b2, 5, none⟩ = some (.int .i64 x5) ∧ w'.cell? ⟨b2, 6, none⟩ = some (.int .i64 x6) ∧ w'.cell? ⟨b2, 7, none⟩ = some (.int .i64 x7) ∧ w'.cell? ⟨b2, 8, none⟩ = some (.int .i64 x8) ∧ w'.cell? ⟨b2, 9, none⟩ = some (.int .i64 x9)) (go_keep) (first
              | (go_at_call 9; refine (HTX.out _ (by first | exact KB8.out | exact KB7.out | exact KB6.out | exact KB5.out | exact KB4.out | exact KB8.out.drew | exact KB7.out.drew | exact KB6.out.drew | exact KB5.out.drew | exact KB4.out.drew)).mono ?_; rintro e w5 ⟨rfl, hb5⟩; have KB5 := Lib.hid hb5; obtain ⟨a0, n0, n1, n2, n3, n4, n5, n6, n7, e0, e1, e2, e3, e4, e5, e6, e7, e8, e9⟩ := KC.out _ hb5; clear hb5)
              | (go_at_call 10; refine (HRX.out _ (by first | exact KB8.out | exact KB7.out | exact KB6.out | exact KB5.out | exact KB4.out | exact KB8.out.drew | exact KB7.out.drew | exact KB6.out.drew | exact KB5.out.drew | exact KB4.out.drew)).mono ?_; rintro e w6 ⟨rfl, hb6⟩; have KB6 := Lib.hid hb6; obtain ⟨a0, n0, n1, n2, n3, n4, n5, n6, n7, e0, e1, e2, e3, e4, e5, e6, e7, e8, e9⟩ := KC.out _ hb6; clear hb6)
              | (go_at_call 11; refine (HHD.out _ (by first | exact KB8.out | exact KB7.out | exact KB6.out | exact KB5.out | exact KB4.out | exact KB8.out.drew | exact KB7.out.drew | exact KB6.out.drew | exact KB5.out.drew | exact KB4.out.drew)).mono ?_; rintro e w7 ⟨rfl, hb7⟩; have KB7 := Lib.hid hb7; obtain ⟨a0, n0, n1, n2, n3, n4, n5, n6, n7, e0, e1, e2, e3, e4, e5, e6, e7, e8, e9⟩ := KC.out _ hb7; clear hb7)
              | (go_at_call 6; refine (HAL.out _ (by first | exact KB8.out | exact KB7.out | exact KB6.out | exact KB5.out | exact KB4.out | exact KB8.out.drew | exact KB7.out.drew | exact KB6.out.drew | exact KB5.out.drew | exact KB4.out.drew)).mono ?_; rintro e w8 ⟨rfl, hb8⟩; have KB8 := Lib.hid hb8; obtain ⟨a0, n0, n1, n2, n3, n4, n5, n6, n7, e0, e1, e2, e3, e4, e5, e6, e7, e8, e9⟩ := KC.out _ hb8; clear hb8))
            have HF : Hid (Below w.heap.size w w8) := Lib.hid ((HB1.out.trans (HBN.out.mono HB1.out.size)).trans (KB8.out.mono (Nat.le_trans HB1.out.size HBN.out.size)))
            clear hu hsz a0 n0 n1 n2 n3 n4 n5 n6 n7 e0 e1 e2 e3 e4 e5 e6 e7 e8 e9
            go_wp2
            go_ret
            exact ⟨rfl, HF.out⟩
        · obtain rfl : z = 0 := by rw [HZ.out]; exact hardQ_no fun h => hfr ⟨h.2.1, h.2.2⟩
          have HBN2 : Hid (Below w2.heap.size w2 w2) := Lib.hid (Below.refl _ _)
          have HKN := Lib.hid K2.out
          by_cases h0 : f < 0
          · have g0 : ¬ (0 ≤ f) := by omega
            go_wp2
            rw [← HB2E.out, ← HW2.out]
            have hu : Tryd.prog.underlying 22 = some (.array 10 3) := Tryd.underlying22
            have hsz : (Tryd.prog.info? 22).map (·.size) = some ([.int .i64 x0, .int .i64 x1, .int .i64 x2, .int .i64 x3, .int .i64 x4, .int .i64 x5, .int .i64 x6, .int .i64 x7, .int .i64 x8, .int .i64 x9] : List Value).length := by kernel_rfl
            have HBN : Hid (Below wb.heap.size wb w2) := Lib.hid HKN.out
            have HTX : Hid (∀ W, Below w2.heap.size w2 W → Calls Tryd.prog 9 #[.agg #[.int .i64 x0, .int .i64 x1, .int .i64 x2, .int .i64 x3, .int .i64 x4, .int .i64 x5, .int .i64 x6, .int .i64 x7, .int .i64 x8, .int .i64 x9]] W fun e w' => e = .returned (.string tx) ∧ Below w2.heap.size w2 w') := Lib.hid fun W hW => (HTEXT.out W (HBN.out.trans (hW.mono HBN.out.size))).mono fun e w' ⟨h1, h2⟩ => ⟨h1, hW.trans (h2.mono hW.size)⟩
            have HRX : Hid (∀ W, Below w2.heap.size w2 W → Calls Tryd.prog 10 #[.agg #[.int .i64 x0, .int .i64 x1, .int .i64 x2, .int .i64 x3, .int .i64 x4, .int .i64 x5, .int .i64 x6, .int .i64 x7, .int .i64 x8, .int .i64 x9]] W fun e w' => e = .returned (.string tx) ∧ Below w2.heap.size w2 w') := Lib.hid fun W hW => (HRTEXT.out W).mono fun e w' ⟨h1, h2⟩ => ⟨h1, hW.trans (h2.mono hW.size)⟩
            have HHD : Hid (∀ W, Below w2.heap.size w2 W → Calls Tryd.prog 11 #[.agg #[.int .i64 d.vars, .slice ai ni ci, .slice al nl cl, .slice ao no co, .slice ab nb cb, .slice ac nc cc, .slice am nm cm, .slice aa na ca], .int .i64 f] W fun e w' => e = .returned (.int .i64 0) ∧ Below w2.heap.size w2 w') := Lib.hid fun W hW => (HHARD.out W (HBN.out.trans (hW.mono HBN.out.size))).mono fun e w' ⟨h1, h2⟩ => ⟨h1, hW.trans (h2.mono hW.size)⟩
            have HAL : Hid (∀ W, Below w2.heap.size w2 W → Calls Tryd.prog 6 #[] W fun e w' => e = .returned (.bool true) ∧ Below w2.heap.size w2 w') := Lib.hid fun W hW => (alive40 W).mono fun e w' ⟨h1, h2⟩ => ⟨h1, hW.trans (h2.mono hW.size)⟩
            have KC : Hid (∀ W, Below w2.heap.size w2 W → (fun w' : World => w'.rangeAt b0 0 [.int .i64 x0, .int .i64 x1, .int .i64 x2, .int .i64 x3, .int .i64 x4, .int .i64 x5, .int .i64 x6, .int .i64 x7, .int .i64 x8, .int .i64 x9] ∧ w'.cell? ⟨bx, 0, none⟩ = some (.int .i64 d.vars) ∧ w'.cell? ⟨bx, 1, none⟩ = some (.slice ai ni ci) ∧ w'.cell? ⟨bx, 2, none⟩ = some (.slice al nl cl) ∧ w'.cell? ⟨bx, 3, none⟩ = some (.slice ao no co) ∧ w'.cell? ⟨bx, 4, none⟩ = some (.slice ab nb cb) ∧ w'.cell? ⟨bx, 5, none⟩ = some (.slice ac nc cc) ∧ w'.cell? ⟨bx, 6, none⟩ = some (.slice am nm cm) ∧ w'.cell? ⟨bx, 7, none⟩ = some (.slice aa na ca) ∧ w'.cell? ⟨b2, 0, none⟩ = some (.int .i64 x0) ∧ w'.cell? ⟨b2, 1, none⟩ = some (.int .i64 x1) ∧ w'.cell? ⟨b2, 2, none⟩ = some (.int .i64 x2) ∧ w'.cell? ⟨b2, 3, none⟩ = some (.int .i64 x3) ∧ w'.cell? ⟨b2, 4, none⟩ = some (.int .i64 x4) ∧ w'.cell? ⟨b2, 5, none⟩ = some (.int .i64 x5) ∧ w'.cell? ⟨b2, 6, none⟩ = some (.int .i64 x6) ∧ w'.cell? ⟨b2, 7, none⟩ = some (.int .i64 x7) ∧ w'.cell? ⟨b2, 8, none⟩ = some (.int .i64 x8) ∧ w'.cell? ⟨b2, 9, none⟩ = some (.int .i64 x9)) W) := Lib.hid fun W hW => KC0.out W (HBN2.out.trans (hW.mono HBN2.out.size))
            have KB4 : Hid (Below w2.heap.size w2 w2) := Lib.hid (Below.refl _ _)
            obtain ⟨a0, n0, n1, n2, n3, n4, n5, n6, n7, e0, e1, e2, e3, e4, e5, e6, e7, e8, e9⟩ := KC.out _ KB4.out
            try go_wp2
            go_region_held3 (fun w' : World => w'.rangeAt b0 0 [.int .i64 x0, .int .i64 x1, .int .i64 x2, .int .i64 x3, .int .i64 x4, .int .i64 x5, .int .i64 x6, .int .i64 x7, .int .i64 x8, .int .i64 x9] ∧ w'.cell? ⟨bx, 0, none⟩ = some (.int .i64 d.vars) ∧ w'.cell? ⟨bx, 1, none⟩ = some (.slice ai ni ci) ∧ w'.cell? ⟨bx, 2, none⟩ = some (.slice al nl cl) ∧ w'.cell? ⟨bx, 3, none⟩ = some (.slice ao no co) ∧ w'.cell? ⟨bx, 4, none⟩ = some (.slice ab nb cb) ∧ w'.cell? ⟨bx, 5, none⟩ = some (.slice ac nc cc) ∧ w'.cell? ⟨bx, 6, none⟩ = some (.slice am nm cm) ∧ w'.cell? ⟨bx, 7, none⟩ = some (.slice aa na ca) ∧ w'.cell? ⟨b2, 0, none⟩ = some (.int .i64 x0) ∧ w'.cell? ⟨b2, 1, none⟩ = some (.int .i64 x1) ∧ w'.cell? ⟨b2, 2, none⟩ = some (.int .i64 x2) ∧ w'.cell? ⟨b2, 3, none⟩ = some (.int .i64 x3) ∧ w'.cell? ⟨b2, 4, none⟩ = some (.int .i64 x4) ∧ w'.cell? ⟨b2, 5, none⟩ = some (.int .i64 x5) ∧ w'.cell? ⟨b2, 6, none⟩ = some (.int .i64 x6) ∧ w'.cell? ⟨b2, 7, none⟩ = some (.int .i64 x7) ∧ w'.cell? ⟨b2, 8, none⟩ = some (.int .i64 x8) ∧ w'.cell? ⟨b2, 9, none⟩ = some (.int .i64 x9)) (go_keep) (first
              | (go_at_call 9; refine (HTX.out _ (by first | exact KB8.out | exact KB7.out | exact KB6.out | exact KB5.out | exact KB4.out | exact KB8.out.drew | exact KB7.out.drew | exact KB6.out.drew | exact KB5.out.drew | exact KB4.out.drew)).mono ?_; rintro e w5 ⟨rfl, hb5⟩; have KB5 := Lib.hid hb5; obtain ⟨a0, n0, n1, n2, n3, n4, n5, n6, n7, e0, e1, e2, e3, e4, e5, e6, e7, e8, e9⟩ := KC.out _ hb5; clear hb5)
              | (go_at_call 10; refine (HRX.out _ (by first | exact KB8.out | exact KB7.out | exact KB6.out | exact KB5.out | exact KB4.out | exact KB8.out.drew | exact KB7.out.drew | exact KB6.out.drew | exact KB5.out.drew | exact KB4.out.drew)).mono ?_; rintro e w6 ⟨rfl, hb6⟩; have KB6 := Lib.hid hb6; obtain ⟨a0, n0, n1, n2, n3, n4, n5, n6, n7, e0, e1, e2, e3, e4, e5, e6, e7, e8, e9⟩ := KC.out _ hb6; clear hb6)
              | (go_at_call 11; refine (HHD.out _ (by first | exact KB8.out | exact KB7.out | exact KB6.out | exact KB5.out | exact KB4.out | exact KB8.out.drew | exact KB7.out.drew | exact KB6.out.drew | exact KB5.out.drew | exact KB4.out.drew)).mono ?_; rintro e w7 ⟨rfl, hb7⟩; have KB7 := Lib.hid hb7; obtain ⟨a0, n0, n1, n2, n3, n4, n5, n6, n7, e0, e1, e2, e3, e4, e5, e6, e7, e8, e9⟩ := KC.out _ hb7; clear hb7)
              | (go_at_call 6; refine (HAL.out _ (by first | exact KB8.out | exact KB7.out | exact KB6.out | exact KB5.out | exact KB4.out | exact KB8.out.drew | exact KB7.out.drew | exact KB6.out.drew | exact KB5.out.drew | exact KB4.out.drew)).mono ?_; rintro e w8 ⟨rfl, hb8⟩; have KB8 := Lib.hid hb8; obtain ⟨a0, n0, n1, n2, n3, n4, n5, n6, n7, e0, e1, e2, e3, e4, e5, e6, e7, e8, e9⟩ := KC.out _ hb8; clear hb8))
            have HF : Hid (Below w.heap.size w w8) := Lib.hid ((HB1.out.trans (HBN.out.mono HB1.out.size)).trans (KB8.out.mono (Nat.le_trans HB1.out.size HBN.out.size)))
            clear hu hsz a0 n0 n1 n2 n3 n4 n5 n6 n7 e0 e1 e2 e3 e4 e5 e6 e7 e8 e9
            go_wp2
            go_ret
            exact ⟨rfl, HF.out⟩
          · have g0 : 0 ≤ f := by omega
            have g1 : ¬ (f ≤ 100) := by omega
            go_wp2
            rw [← HB2E.out, ← HW2.out]
            have hu : Tryd.prog.underlying 22 = some (.array 10 3) := Tryd.underlying22
            have hsz : (Tryd.prog.info? 22).map (·.size) = some ([.int .i64 x0, .int .i64 x1, .int .i64 x2, .int .i64 x3, .int .i64 x4, .int .i64 x5, .int .i64 x6, .int .i64 x7, .int .i64 x8, .int .i64 x9] : List Value).length := by kernel_rfl
            have HBN : Hid (Below wb.heap.size wb w2) := Lib.hid HKN.out
            have HTX : Hid (∀ W, Below w2.heap.size w2 W → Calls Tryd.prog 9 #[.agg #[.int .i64 x0, .int .i64 x1, .int .i64 x2, .int .i64 x3, .int .i64 x4, .int .i64 x5, .int .i64 x6, .int .i64 x7, .int .i64 x8, .int .i64 x9]] W fun e w' => e = .returned (.string tx) ∧ Below w2.heap.size w2 w') := Lib.hid fun W hW => (HTEXT.out W (HBN.out.trans (hW.mono HBN.out.size))).mono fun e w' ⟨h1, h2⟩ => ⟨h1, hW.trans (h2.mono hW.size)⟩
            have HRX : Hid (∀ W, Below w2.heap.size w2 W → Calls Tryd.prog 10 #[.agg #[.int .i64 x0, .int .i64 x1, .int .i64 x2, .int .i64 x3, .int .i64 x4, .int .i64 x5, .int .i64 x6, .int .i64 x7, .int .i64 x8, .int .i64 x9]] W fun e w' => e = .returned (.string tx) ∧ Below w2.heap.size w2 w') := Lib.hid fun W hW => (HRTEXT.out W).mono fun e w' ⟨h1, h2⟩ => ⟨h1, hW.trans (h2.mono hW.size)⟩
            have HHD : Hid (∀ W, Below w2.heap.size w2 W → Calls Tryd.prog 11 #[.agg #[.int .i64 d.vars, .slice ai ni ci, .slice al nl cl, .slice ao no co, .slice ab nb cb, .slice ac nc cc, .slice am nm cm, .slice aa na ca], .int .i64 f] W fun e w' => e = .returned (.int .i64 0) ∧ Below w2.heap.size w2 w') := Lib.hid fun W hW => (HHARD.out W (HBN.out.trans (hW.mono HBN.out.size))).mono fun e w' ⟨h1, h2⟩ => ⟨h1, hW.trans (h2.mono hW.size)⟩
            have HAL : Hid (∀ W, Below w2.heap.size w2 W → Calls Tryd.prog 6 #[] W fun e w' => e = .returned (.bool true) ∧ Below w2.heap.size w2 w') := Lib.hid fun W hW => (alive40 W).mono fun e w' ⟨h1, h2⟩ => ⟨h1, hW.trans (h2.mono hW.size)⟩
            have KC : Hid (∀ W, Below w2.heap.size w2 W → (fun w' : World => w'.rangeAt b0 0 [.int .i64 x0, .int .i64 x1, .int .i64 x2, .int .i64 x3, .int .i64 x4, .int .i64 x5, .int .i64 x6, .int .i64 x7, .int .i64 x8, .int .i64 x9] ∧ w'.cell? ⟨bx, 0, none⟩ = some (.int .i64 d.vars) ∧ w'.cell? ⟨bx, 1, none⟩ = some (.slice ai ni ci) ∧ w'.cell? ⟨bx, 2, none⟩ = some (.slice al nl cl) ∧ w'.cell? ⟨bx, 3, none⟩ = some (.slice ao no co) ∧ w'.cell? ⟨bx, 4, none⟩ = some (.slice ab nb cb) ∧ w'.cell? ⟨bx, 5, none⟩ = some (.slice ac nc cc) ∧ w'.cell? ⟨bx, 6, none⟩ = some (.slice am nm cm) ∧ w'.cell? ⟨bx, 7, none⟩ = some (.slice aa na ca) ∧ w'.cell? ⟨b2, 0, none⟩ = some (.int .i64 x0) ∧ w'.cell? ⟨b2, 1, none⟩ = some (.int .i64 x1) ∧ w'.cell? ⟨b2, 2, none⟩ = some (.int .i64 x2) ∧ w'.cell? ⟨b2, 3, none⟩ = some (.int .i64 x3) ∧ w'.cell? ⟨b2, 4, none⟩ = some (.int .i64 x4) ∧ w'.cell? ⟨b2, 5, none⟩ = some (.int .i64 x5) ∧ w'.cell? ⟨b2, 6, none⟩ = some (.int .i64 x6) ∧ w'.cell? ⟨b2, 7, none⟩ = some (.int .i64 x7) ∧ w'.cell? ⟨b2, 8, none⟩ = some (.int .i64 x8) ∧ w'.cell? ⟨b2, 9, none⟩ = some (.int .i64 x9)) W) := Lib.hid fun W hW => KC0.out W (HBN2.out.trans (hW.mono HBN2.out.size))
            have KB4 : Hid (Below w2.heap.size w2 w2) := Lib.hid (Below.refl _ _)
            obtain ⟨a0, n0, n1, n2, n3, n4, n5, n6, n7, e0, e1, e2, e3, e4, e5, e6, e7, e8, e9⟩ := KC.out _ KB4.out
            try go_wp2
            go_region_held3 (fun w' : World => w'.rangeAt b0 0 [.int .i64 x0, .int .i64 x1, .int .i64 x2, .int .i64 x3, .int .i64 x4, .int .i64 x5, .int .i64 x6, .int .i64 x7, .int .i64 x8, .int .i64 x9] ∧ w'.cell? ⟨bx, 0, none⟩ = some (.int .i64 d.vars) ∧ w'.cell? ⟨bx, 1, none⟩ = some (.slice ai ni ci) ∧ w'.cell? ⟨bx, 2, none⟩ = some (.slice al nl cl) ∧ w'.cell? ⟨bx, 3, none⟩ = some (.slice ao no co) ∧ w'.cell? ⟨bx, 4, none⟩ = some (.slice ab nb cb) ∧ w'.cell? ⟨bx, 5, none⟩ = some (.slice ac nc cc) ∧ w'.cell? ⟨bx, 6, none⟩ = some (.slice am nm cm) ∧ w'.cell? ⟨bx, 7, none⟩ = some (.slice aa na ca) ∧ w'.cell? ⟨b2, 0, none⟩ = some (.int .i64 x0) ∧ w'.cell? ⟨b2, 1, none⟩ = some (.int .i64 x1) ∧ w'.cell? ⟨b2, 2, none⟩ = some (.int .i64 x2) ∧ w'.cell? ⟨b2, 3, none⟩ = some (.int .i64 x3) ∧ w'.cell? ⟨b2, 4, none⟩ = some (.int .i64 x4) ∧ w'.cell? ⟨b2, 5, none⟩ = some (.int .i64 x5) ∧ w'.cell? ⟨b2, 6, none⟩ = some (.int .i64 x6) ∧ w'.cell? ⟨b2, 7, none⟩ = some (.int .i64 x7) ∧ w'.cell? ⟨b2, 8, none⟩ = some (.int .i64 x8) ∧ w'.cell? ⟨b2, 9, none⟩ = some (.int .i64 x9)) (go_keep) (first
              | (go_at_call 9; refine (HTX.out _ (by first | exact KB8.out | exact KB7.out | exact KB6.out | exact KB5.out | exact KB4.out | exact KB8.out.drew | exact KB7.out.drew | exact KB6.out.drew | exact KB5.out.drew | exact KB4.out.drew)).mono ?_; rintro e w5 ⟨rfl, hb5⟩; have KB5 := Lib.hid hb5; obtain ⟨a0, n0, n1, n2, n3, n4, n5, n6, n7, e0, e1, e2, e3, e4, e5, e6, e7, e8, e9⟩ := KC.out _ hb5; clear hb5)
              | (go_at_call 10; refine (HRX.out _ (by first | exact KB8.out | exact KB7.out | exact KB6.out | exact KB5.out | exact KB4.out | exact KB8.out.drew | exact KB7.out.drew | exact KB6.out.drew | exact KB5.out.drew | exact KB4.out.drew)).mono ?_; rintro e w6 ⟨rfl, hb6⟩; have KB6 := Lib.hid hb6; obtain ⟨a0, n0, n1, n2, n3, n4, n5, n6, n7, e0, e1, e2, e3, e4, e5, e6, e7, e8, e9⟩ := KC.out _ hb6; clear hb6)
              | (go_at_call 11; refine (HHD.out _ (by first | exact KB8.out | exact KB7.out | exact KB6.out | exact KB5.out | exact KB4.out | exact KB8.out.drew | exact KB7.out.drew | exact KB6.out.drew | exact KB5.out.drew | exact KB4.out.drew)).mono ?_; rintro e w7 ⟨rfl, hb7⟩; have KB7 := Lib.hid hb7; obtain ⟨a0, n0, n1, n2, n3, n4, n5, n6, n7, e0, e1, e2, e3, e4, e5, e6, e7, e8, e9⟩ := KC.out _ hb7; clear hb7)
              | (go_at_call 6; refine (HAL.out _ (by first | exact KB8.out | exact KB7.out | exact KB6.out | exact KB5.out | exact KB4.out | exact KB8.out.drew | exact KB7.out.drew | exact KB6.out.drew | exact KB5.out.drew | exact KB4.out.drew)).mono ?_; rintro e w8 ⟨rfl, hb8⟩; have KB8 := Lib.hid hb8; obtain ⟨a0, n0, n1, n2, n3, n4, n5, n6, n7, e0, e1, e2, e3, e4, e5, e6, e7, e8, e9⟩ := KC.out _ hb8; clear hb8))
            have HF : Hid (Below w.heap.size w w8) := Lib.hid ((HB1.out.trans (HBN.out.mono HB1.out.size)).trans (KB8.out.mono (Nat.le_trans HB1.out.size HBN.out.size)))
            clear hu hsz a0 n0 n1 n2 n3 n4 n5 n6 n7 e0 e1 e2 e3 e4 e5 e6 e7 e8 e9
            go_wp2
            go_ret
            exact ⟨rfl, HF.out⟩
end Go.Proofs.YtlahecdpcpejpaaDoor
