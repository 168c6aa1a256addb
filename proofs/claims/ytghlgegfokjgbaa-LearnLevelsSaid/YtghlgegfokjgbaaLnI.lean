/-
  Chapter 23's law: alive.
-/
import Derived.Test.YtghlgegfokjgbaaLnE
import Derived.Test.YtghlgegfokjgbaaInts
import Derived.Test.YtghlgegfokjgbaaFrameS
namespace Go.Proofs.Ytghlgegfokjgbaa
open Go Go.ChangeShapes Go.WideShapes Go.ChangeAt Go.RowKit Go.Maps
set_option linter.unusedVariables false
set_option linter.unusedSimpArgs false
attribute [local go_sem ↓] Go.wp_at_zero Go.wp_at_succ
theorem sameL_self {w : World} {u v : Value} {xs : List Int} (h : Ints w u xs) (g : Ints w v xs) : Calls Try.prog 17 #[u, v] w fun e w' => e = .returned (.bool true) ∧ Quiet w w' := by
  have := r01_Same h g
  rw [sameB_self] at this
  exact this
set_option maxHeartbeats 4000000 in
set_option maxRecDepth 100000 in
theorem alive23 (w : World) : Calls Try.prog 6 #[] w fun e w' => e = .returned (.bool true) ∧ Below w.heap.size w w' := by
  go_enter Try.func6, Try.ntmps6
  go_wp2_with fail
  refine (trail_New 2 (by omega) _).mono ?_
  rintro e w1 ⟨rfl, hT, hb⟩
  obtain ⟨t, ht⟩ : ∃ t, t = w.heap.size + 1 := ⟨_, rfl⟩
  obtain ⟨B, hB⟩ : ∃ B, B = w.heap.size := ⟨_, rfl⟩
  have hfp : ∀ k ∈ [w.heap.size + 1, w.heap.size], B ≤ k := by intro k hk; simp at hk; omega
  have HNW := Lib.hid (New_ hT hfp (by rw [hB]; exact hb.size))
  rw [← ht] at HNW ⊢
  have HB1 := Lib.hid hb
  have HBB := Lib.hid hB
  clear ht hT hb hfp hB
  go_wp2_with fail
  refine HNW.out.mono ?_
  rintro e w2 ⟨wb, r, rfl, hat, hb2⟩
  have hW : LW B w w2 r wb t lS0 := by have := LW.new (Below.refl _ w) HB1.out (by rw [← HBB.out]; exact hat) hb2; rwa [← HBB.out] at this
  clear hat hb2
  replace hW := hW.below ((Below.refl _ _).alloc (Nat.le_refl _) (.cells #[.int .i64 (-1), .int .i64 2] 3))
  have HA := Lib.hid (Add_ hW.at_ hW.hB lsg0 ltb0 (pair_of w2 (-1) 2) lits_a (by simp) (by simp) (llb0.mono (by omega)) (by decide +kernel))
  have HW := Lib.hid hW
  clear hW
  go_wp2_with fail
  refine HA.out.mono ?_
  rintro e w3 ⟨rfl, hp⟩
  obtain ⟨r1, hW, -, -⟩ := HW.out.post hp
  clear hp
  replace hW : LW B w w3 r1 wb t lS1 := hW
  replace hW := hW.below ((Below.refl _ _).alloc (Nat.le_refl _) (.cells #[.int .i64 (-1), .int .i64 (-2)] 3))
  have HA2 := Lib.hid (Add_ hW.at_ hW.hB lsg1 ltb1 (pair_of w3 (-1) (-2)) lits_b (by simp) (by simp) (llb1.mono (by omega)) (by decide +kernel))
  have HW1 := Lib.hid hW
  clear hW
  go_wp2_with fail
  refine HA2.out.mono ?_
  rintro e w4 ⟨rfl, hp⟩
  obtain ⟨r2, hW, -, -⟩ := HW1.out.post hp
  clear hp
  replace hW : LW B w w4 r2 wb t lS2 := hW
  have HD := Lib.hid (decide_ hW (l := 1) ltb2 (by decide +kernel) (by decide +kernel))
  clear hW
  go_wp2_with fail
  refine HD.out.mono ?_
  rintro e w6 ⟨rfl, r4, hW, -, -⟩
  replace hW : LW B w w6 r4 wb t lS3 := hW
  have hk3 := lback3
  have HR3 := Lib.hid (Run_ llaw hW.at_ hW.hB (by decide +kernel) hk3 (by kernel_rfl))
  have HW3 := Lib.hid hW
  clear hW hk3
  go_wp2_with fail
  refine HR3.out.mono ?_
  rintro e w7 ⟨id, fine, S', rfl, ⟨rfl, rfl, rfl⟩, hp⟩
  obtain ⟨r5, hW, -, -⟩ := HW3.out.post hp
  clear hp
  have HF := Lib.hid (From_ hW ⟨l5_l, l5_d, l5_lev1, l5_lev2, l5_rs2, l5_c0, l5_i0⟩ l5_c1 l5_i1)
  clear hW
  go_wp2_with fail
  refine HF.out.mono ?_
  rintro e w8 ⟨u, v, rfl, hu, hb8⟩
  have hn := neg1_ints w8
  have h8 : Below w8.heap.size w8 (w8.alloc (.cells #[.int .i64 (-1)] 3)) := (Below.refl _ _).alloc (Nat.le_refl _) _
  have HS := Lib.hid (sameL_self (hu.below h8) hn)
  have HB8 : Hid (Below B w (w8.alloc (.cells #[.int .i64 (-1)] 3))) := Lib.hid (hb8.alloc (by rw [HBB.out]; exact hb8.size) _)
  obtain ⟨ua, uc, hue, -⟩ := id hu
  subst hue
  have l0 : lS0.cl.length = 0 := by decide +kernel
  have l1 : lS1.cl.length = 1 := by decide +kernel
  try rw [l0]
  try rw [l1]
  clear hu hb8 hn h8 l0 l1
  go_wp2_with ((go_at_call 17; refine (HS.out).mono ?_; rintro e w9 ⟨rfl, hq⟩))
  go_ret
  exact ⟨rfl, by rw [← HBB.out]; exact HB8.out.trans (hq.below.mono (by rw [HBB.out]; exact HB8.out.size))⟩
end Go.Proofs.Ytghlgegfokjgbaa
/-
  Chapter 23's law: state, walked.
-/
namespace Go.Proofs.Ytghlgegfokjgbaa
open Go Go.ChangeShapes Go.WideShapes Go.ChangeAt Go.RowKit Go.Maps
set_option linter.unusedVariables false
set_option linter.unusedSimpArgs false
attribute [local go_sem ↓] Go.wp_at_zero Go.wp_at_succ
/-- What state leaves: a trail and its watch. -/
def StQ (w0 : World) (e : Ending) (w' : World) : Prop :=
  ∃ t wb lv id r S, e = .returned (.tuple #[.pointer (some ⟨t, 0, none⟩), .pointer (some ⟨wb, 0, none⟩), lv, .int .i64 id]) ∧ LW w0.heap.size w0 w' r wb t S ∧ TI S.t ∧ LvB S.t
def StA (w0 : World) (wb t : Nat) (og : List (List Int)) (lv : Value) (wr : World) : Prop :=
  ∃ r S, AInv og 0 S ∧ LvB S.t ∧ LW w0.heap.size w0 wr r wb t S ∧ LS w0.heap.size wr r lv og
def StB (w0 : World) (wb t : Nat) (og : List (List Int)) (k : Nat) (idv fv : Value) (wr : World) : Prop :=
  ∃ id fine r S kk, idv = .int .i64 id ∧ fv = .bool fine ∧ kk ≤ k + 1 ∧ HMode og og kk id fine S ∧ LvB S.t ∧ LW w0.heap.size w0 wr r wb t S
set_option maxHeartbeats 8000000 in
set_option maxRecDepth 100000 in
theorem state_ {w : World} {v vd : Value} {xss : List (List Int)} {ds : List Int} (h : IntsS w v xss) (hd : Ints w vd ds) : Calls Try.prog 4 #[v, vd] w (StQ w) := by
  obtain ⟨a, cap, rfl, hc1, hc2⟩ := h.form
  obtain ⟨n, hn⟩ : ∃ n, n = xss.length := ⟨_, rfl⟩
  rw [← hn] at hc1 ⊢
  obtain ⟨da, dcap, rfl, -, hd1, hd2, hdv⟩ := hd
  obtain ⟨m, hm⟩ : ∃ m, m = ds.length := ⟨_, rfl⟩
  rw [← hm] at hd1 ⊢
  have hn9 : n ≤ 9223372036854775807 := Nat.le_trans hc1 hc2
  have hm9 : m ≤ 9223372036854775807 := Nat.le_trans hd1 hd2
  have HN := Lib.hid hn
  have HS := Lib.hid h
  have HM := Lib.hid hm
  have HDV := Lib.hid hdv
  clear h hn hc1 hc2 hd1 hd2 hm hdv
  go_enter Try.func4, Try.ntmps4
  go_wp2_with fail
  refine (trail_New 9 (by omega) _).mono ?_
  rintro e w1 ⟨rfl, hT, hb⟩
  obtain ⟨t, ht⟩ : ∃ t, t = w.heap.size + 1 := ⟨_, rfl⟩
  have hfp : ∀ k ∈ [w.heap.size + 1, w.heap.size], w.heap.size ≤ k := by intro k hk; simp at hk; omega
  have HNW := Lib.hid (New_ hT hfp hb.size)
  rw [← ht] at HNW ⊢
  have HB1 := Lib.hid hb
  clear ht hT hb hfp
  go_wp2_with fail
  refine HNW.out.mono ?_
  rintro e w2 ⟨wb, r, rfl, hat, hb2⟩
  have hW := LW.new (Below.refl _ w) HB1.out hat hb2
  have HW := Lib.hid hW
  have HQ0 : Hid (∀ lv id, StQ w (.returned (.tuple #[.pointer (some ⟨t, 0, none⟩), .pointer (some ⟨wb, 0, none⟩), lv, .int .i64 id])) w2) := Lib.hid fun lv id => ⟨t, wb, lv, id, r, _, rfl, hW, TI.new, LvB.new 9⟩
  have HA0 : Hid (StA w wb t (xss.take 0) (.slice none 0 0) w2) := Lib.hid ⟨r, _, AInv.new, LvB.new 9, hW, LS.nil _ _ _⟩
  clear hat hb2 hW
  by_cases hn80 : 80 < n
  · go_wp2_with fail
    go_returns
    exact HQ0.out _ _
  by_cases hm20 : 20 < m
  · go_wp2_with fail
    go_returns
    exact HQ0.out _ _
  have hn80' : n ≤ 80 := by omega
  have hm20' : m ≤ 20 := by omega
  go_wp2_with fail
  go_loopw [10, 11] (fun lv i wr => ∃ k : Nat, k ≤ n ∧ i = .int .i64 k ∧ StA w wb t (xss.take k) lv wr) (fun _ i _ => n - (intOf i).toNat)
  case atStart => exact ⟨0, Nat.zero_le _, rfl, HA0.out⟩
  case round =>
    obtain ⟨k, hk, rfl, r1, S, hA, hLv, hW, us, hL⟩ := hrel
    by_cases hlt : (k : Int) < (n : Int)
    · have hkn : k < xss.length := by have := HN.out; omega
      obtain ⟨b, off, cap', u, he, hcell, hint⟩ := HS.out.at_ hkn
      injection he with e1 e2 e3
      subst e1
      have hbl := World.block_lt_of_cell? w _ hcell
      have hq := (hW.old.cell (p := ⟨b, off + k, none⟩) hbl).trans hcell
      obtain ⟨c, hc⟩ : ∃ c, c = xss.getD k [] := ⟨_, rfl⟩
      have hsn : xss.take (k + 1) = xss.take k ++ [c] := by rw [List.take_succ_eq_append_getElem hkn, hc]; simp [List.getD, hkn]
      rw [← hc] at hint
      have hint2 := hint.below hW.old
      have hlu := ints_lt hint
      obtain ⟨og, hog⟩ : ∃ og, og = xss.take k := ⟨_, rfl⟩
      rw [← hog] at hA hL hsn
      have hogn : og.length = k := by rw [hog, List.length_take]; omega
      obtain ⟨mm, hmm⟩ : ∃ mm, mm = og.length := ⟨_, rfl⟩
      obtain ⟨ua, uc, rfl⟩ := ints_form hint
      obtain ⟨cn, hcn⟩ : ∃ cn, cn = c.length := ⟨_, rfl⟩
      rw [← hcn] at hq hint2 hint hlu
      obtain ⟨la, lc, hlv⟩ : ∃ la lc, u10 = .slice la og.length lc := by
        rcases hL.1.form with ⟨rfl, e0, -⟩ | ⟨g, cap, rfl, -⟩
        · exact ⟨_, _, by rw [e0]⟩
        · exact ⟨_, _, rfl⟩
      rw [← hmm] at hlv
      subst hlv
      have HQ : Hid (∀ lv id W, Below wr.heap.size wr W → StQ w (.returned (.tuple #[.pointer (some ⟨t, 0, none⟩), .pointer (some ⟨wb, 0, none⟩), lv, .int .i64 id])) W) := Lib.hid fun lv id W hb => ⟨t, wb, lv, id, r1, S, rfl, hW.below hb, hA.inv.1.ti, hLv⟩
      have HHL := Lib.hid hL
      have HHA := Lib.hid hA
      have HLV := Lib.hid hLv
      have HHW := Lib.hid hW
      have HC := Lib.hid hc
      have HSN := Lib.hid hsn
      have HOG := Lib.hid hog
      have HMM := Lib.hid hmm
      have HOGN := Lib.hid hogn
      have HI := Lib.hid hint2
      have HLU := Lib.hid hlu
      have HCN := Lib.hid hcn
      have hcn9 : cn ≤ 9223372036854775807 := by
        obtain ⟨a0, c0, h0, -, h1, h2, -⟩ := hint
        rw [hcn]; exact Nat.le_trans h1 h2
      clear hL hA hLv hW hc hsn hog hmm hogn hint2 hint hlu hcn hcell e2 e3 hkn
      by_cases h30 : 30 < cn
      · go_wp2_with fail
        go_returns
        exact HQ.out _ _ _ (Below.refl _ _)
      have h30' : cn ≤ 30 := by omega
      have hfi := r22_FineG HI.out (by have := HCN.out; omega) 9 (by omega) (by omega)
      cases hf : fin22 c 9 with
      | false =>
        rw [hf] at hfi
        have HFI := Lib.hid hfi
        clear hfi hf
        go_wp2_with fail
        refine HFI.out.mono ?_
        rintro e w1' ⟨rfl, hb1⟩
        have HB1 := Lib.hid hb1
        clear hb1 hq
        go_wp2_with fail
        go_returns
        exact HQ.out _ _ _ HB1.out
      | true =>
        rw [hf] at hfi
        have h9 := c9_of_fin hf (by have := HCN.out; omega)
        have HFI := Lib.hid hfi
        have H9 := Lib.hid h9
        clear hfi hf h9
        go_wp2_with fail
        refine HFI.out.mono ?_
        rintro e w1' ⟨rfl, hb1⟩
        have hq1 := (hb1.cell (p := ⟨b, off + k, none⟩) (World.block_lt_of_cell? _ _ hq)).trans hq
        have hW1 := HHW.out.below hb1
        have hr1 := HHA.out.inv.1.run
        have hadd := Add_ hW1.at_ hW1.hB hr1.sg hr1.tb (HI.out.below hb1) (fun x hx => (H9.out.li x hx).l3) (List.length_pos_iff.2 H9.out.ne) (by have := HCN.out; omega) hr1.lb (by rw [HHA.out.inv.1.cn, HOGN.out]; omega)
        rw [HHA.out.inv.1.cn, ← HMM.out] at hadd
        have HAD := Lib.hid hadd
        have HW1 := Lib.hid hW1
        have HL1 := Lib.hid (LS.below ⟨us, HHL.out⟩ hb1)
        have HI1 := Lib.hid (HI.out.below hb1)
        clear hadd hW1 hb1 hr1 hq
        go_wp2_with fail
        refine HAD.out.mono ?_
        rintro e w2' ⟨rfl, hp⟩
        obtain ⟨r2, hW2, hc2, hr2⟩ := HW1.out.post hp
        have hq2 := (hc2.below HW1.out.hB (fun b hb => hb.1)).cell (p := ⟨b, off + k, none⟩) hbl
        replace hq2 := hq2.trans hq1
        have hA2 := HHA.out.add H9.out (by rw [HOGN.out]; omega)
        obtain ⟨us2, o1, o2, o3, o4⟩ := HL1.out.chg hc2 (fun b hb => hb) hr2
        have hI2 : Ints w2' (.slice ua cn uc) c := HI1.out.chg hc2 (fun g hg e => by
          have := HLU.out H9.out.ne g hg
          have := e.1; omega)
        have HA2 := Lib.hid hA2
        have HLV2 := Lib.hid (HLV.out.add c)
        have HW2 := Lib.hid hW2
        have HI2 := Lib.hid hI2
        have O1 : Hid (Row (w2'.alloc (.cells #[.slice ua cn uc] 23)) 23 1 (.slice la mm lc) mm us2) := Lib.hid (by have := o1.alloc (.cells #[.slice ua cn uc] 23); rwa [← HMM.out] at this)
        have O0 : Hid (Row w2' 23 1 (.slice la mm lc) og.length us2) := Lib.hid o1
        have O2 := Lib.hid o2
        have O3 := Lib.hid o3
        have O4 := Lib.hid o4
        clear hp hW2 hc2 hr2 hq1 hA2 o1 o2 o3 o4 hI2 hbl
        go_wp2_with (at_builtin; refine wpList_app rfl _ _ _ rfl 23 (.slice none 0 0) 1 24 Try.underlying22 infoL rfl (by decide) (.slice la mm lc) mm us2 rfl ?ho w2'.heap.size 0 1 1 [.slice ua cn uc] rfl rfl ?hn ?hs ?c1 ?c2 ?_)
        case ho => exact O1.out
        case hn => exact cellNew _ _ _ _ rfl
        case hs => exact oneCell1 rfl
        case c1 => unfold maxLen; have := HMM.out; have := HOGN.out; omega
        case c2 => have := HMM.out; have := HOGN.out; omega
        intro v' w3 hp3
        have hfin := LS.app O0.out O2.out O3.out O4.out HW2.out.hB HW2.out.at_.hi HI2.out (fun g hg => HLU.out H9.out.ne g hg) (by rw [← HMM.out]; exact hp3)
        have HFN := Lib.hid hfin.1
        have HWF := Lib.hid (HW2.out.own hfin.2)
        clear hp3 hfin hq2
        go_wp2_with fail
        go_roundw
        case rel =>
          refine ⟨k + 1, by omega, by go_num, r2, addF S c, ?_⟩
          rw [HSN.out]
          exact ⟨HA2.out, HLV2.out, HWF.out, HFN.out⟩
        case measure => simp [intOf]; omega
    · have hkn : k = n := by omega
      have htk : xss.take k = xss := by rw [hkn, HN.out]; exact List.take_length
      rw [htk] at hA hL
      have hmm : MMode xss xss 0 S := by
        rcases (show S.bk < 0 ∨ 0 ≤ S.bk by omega) with hb | hb
        · exact .inr ⟨hb, (hA.inv.mono (fun _ _ => trivial) (by omega) (by omega)).pre⟩
        · exact .inl ⟨hb, hA, rfl⟩
      have HRUN := Lib.hid (run_lv hW hmm hLv)
      obtain ⟨la, lc, hlv⟩ : ∃ la lc, u10 = .slice la n lc := by
        rcases hL.1.form with ⟨rfl, e0, -⟩ | ⟨g, cap, rfl, -⟩
        · exact ⟨_, _, by rw [HN.out, e0]⟩
        · exact ⟨_, _, by rw [HN.out]⟩
      subst hlv
      clear hA hLv hW hL htk hmm hkn
      go_wp2_with fail
      refine HRUN.out.mono ?_
      rintro e w4 ⟨id, fine, S4, r4, rfl, ⟨hE, hLv4, -, -⟩, hW4, -, -⟩
      have HB0 : Hid (StB w wb t xss 0 (.int .i64 id) (.bool fine) w4) := Lib.hid ⟨id, fine, r4, S4, 1, rfl, rfl, by omega, hE, hLv4, hW4⟩
      clear hE hLv4 hW4
      go_wp2_with fail
      go_loopw [12, 13, 14] (fun idv fv i wr => ∃ k : Nat, k ≤ m ∧ i = .int .i64 k ∧ StB w wb t xss k idv fv wr) (fun _ _ i _ => m - (intOf i).toNat)
      case atStart => exact ⟨0, Nat.zero_le _, rfl, HB0.out⟩
      case round =>
        obtain ⟨k2, hk2, rfl, id2, fine2, r5, S5, kk, rfl, rfl, hkk, hE5, hLv5, hW5⟩ := hrel
        have HE5 := Lib.hid hE5
        have HL5 := Lib.hid hLv5
        have HW5 := Lib.hid hW5
        have HQ5 : Hid (∀ lv id, StQ w (.returned (.tuple #[.pointer (some ⟨t, 0, none⟩), .pointer (some ⟨wb, 0, none⟩), lv, .int .i64 id])) wr) := Lib.hid fun lv id => ⟨t, wb, lv, id, r5, S5, rfl, hW5, hE5.ti, hLv5⟩
        have HKK := Lib.hid hkk
        clear hE5 hLv5 hW5 hkk
        by_cases hlt2 : (k2 : Int) < (m : Int) ∧ fine2 = true
        · obtain ⟨hlt2, rfl⟩ := hlt2
          have hdn : k2 < ds.length := by have := HM.out; omega
          obtain ⟨db, doff, rfl, dcell⟩ := ints_cells HDV.out hdn
          obtain ⟨d, hd⟩ : ∃ d, d = ds.getD k2 0 := ⟨_, rfl⟩
          rw [← hd] at dcell
          have q1 := dcell wr HW5.out.old
          have HB5 : Hid (StB w wb t xss (k2 + 1) (.int .i64 id2) (.bool true) wr) := Lib.hid ⟨id2, true, r5, S5, kk, rfl, rfl, by have := HKK.out; omega, HE5.out, HL5.out, HW5.out⟩
          clear dcell hd hdn
          rcases (show d = 0 ∨ (d ≠ 0 ∧ d < -9) ∨ (d ≠ 0 ∧ -9 ≤ d ∧ 9 < d) ∨ lit9 d by unfold lit9; omega) with rfl | ⟨n0, n1⟩ | ⟨n0, n1, n2⟩ | h9
          · go_wp2_with fail
            go_roundw
            case rel => exact ⟨k2 + 1, by omega, by go_num, HB5.out⟩
            case measure => simp [intOf]; omega
          · have b0 : (d != 0) = true := by rw [bne_iff_ne]; exact n0
            have b1 : decide (-9 ≤ d) = false := decide_eq_false (by omega)
            clear n0 n1
            go_wp2_with fail
            go_roundw
            case rel => exact ⟨k2 + 1, by omega, by go_num, HB5.out⟩
            case measure => simp [intOf]; omega
          · have b0 : (d != 0) = true := by rw [bne_iff_ne]; exact n0
            have b1 : decide (-9 ≤ d) = true := decide_eq_true n1
            have b2 : decide (d ≤ 9) = false := decide_eq_false (by omega)
            clear n0 n1 n2
            go_wp2_with fail
            go_roundw
            case rel => exact ⟨k2 + 1, by omega, by go_num, HB5.out⟩
            case measure => simp [intOf]; omega
          · have h9' := h9
            obtain ⟨n0, n1, n2⟩ := h9'
            have b0 : (d != 0) = true := by rw [bne_iff_ne]; exact n0
            have b1 : decide (-9 ≤ d) = true := decide_eq_true n1
            have b2 : decide (d ≤ 9) = true := decide_eq_true n2
            have HN9 := Lib.hid h9
            clear h9 n0
            cases hfr : S5.t.isFree d with
            | false =>
              have HDE := Lib.hid (decide_no HW5.out d hfr)
              clear hfr
              go_wp2_with ((go_at_call 15; refine (HDE.out).mono ?_; rintro e w' ⟨rfl, rfl⟩))
              go_roundw
              case rel => exact ⟨k2 + 1, by omega, by go_num, HB5.out⟩
              case measure => simp [intOf]; omega
            | true =>
              have htb := HE5.out.ti
              have hrb := HE5.out.fine.2.inv.1.run
              have HDE := Lib.hid (decide_ HW5.out hrb.tb (by have := htb.ok.lvl; have := htb.len; omega) d hfr)
              have hmd := HE5.out.decide (by have := HKK.out; omega) HN9.out hfr
              have HMD := Lib.hid hmd
              clear hfr htb hrb hmd
              go_wp2_with fail
              refine HDE.out.mono ?_
              rintro e w6 ⟨rfl, r6, hW6, hc6, hr6⟩
              have HRU := Lib.hid (run_lv hW6 HMD.out (HL5.out.up.put d (-1)))
              clear hW6 hc6 hr6
              go_wp2_with fail
              refine HRU.out.mono ?_
              rintro e w7 ⟨id7, fine7, S7, r7, rfl, ⟨hE7, hLv7, -, -⟩, hW7, -, -⟩
              have HB7 : Hid (StB w wb t xss (k2 + 1) (.int .i64 id7) (.bool fine7) w7) := Lib.hid ⟨id7, fine7, r7, S7, kk + 1, rfl, rfl, by have := HKK.out; omega, hE7, hLv7, hW7⟩
              clear hE7 hLv7 hW7
              go_wp2_with fail
              go_roundw
              case rel => exact ⟨k2 + 1, by omega, by go_num, HB7.out⟩
              case measure => simp [intOf]; omega
        · rcases (show ¬ (k2 : Int) < (m : Int) ∨ ((k2 : Int) < (m : Int) ∧ fine2 = false) by
            by_cases h1 : (k2 : Int) < (m : Int)
            · right; exact ⟨h1, by cases fine2 <;> simp_all⟩
            · exact .inl h1) with hge | ⟨hge, rfl⟩
          · clear hlt2
            cases fine2
            · go_wp2_with fail
              go_returns
              exact HQ5.out _ _
            · go_wp2_with fail
              go_returns
              exact HQ5.out _ _
          · clear hlt2
            go_wp2_with fail
            go_returns
            exact HQ5.out _ _
end Go.Proofs.Ytghlgegfokjgbaa
