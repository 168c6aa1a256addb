/-
  The law's made, walked.
-/
import Derived.Test.YtkofhilgehhopaaGvI
namespace Go.Proofs.Ytkofhilgehhopaa
open Go Go.ChangeShapes Go.WideShapes Go.ChangeAt Go.RowKit Go.Maps
set_option linter.unusedVariables false
set_option linter.unusedSimpArgs false
attribute [local go_sem ↓] Go.wp_at_zero Go.wp_at_succ
def MadeQ (w0 : World) (g f m : Nat) (xs : List ActD) (e : Ending) (w' : World) : Prop :=
  (e = .returned (.tuple #[.slice none 0 0, .bool false, .bool true]) ∧ ∃ fp S, GMem fp w0.heap.size w' g f m S ∧ Below w0.heap.size w0 w') ∨ ∃ vl, e = .returned (.tuple #[vl, .bool true, .bool true]) ∧ xs.length ≤ 60 ∧ MadeR w0 g f m xs xs.length vl w'
/-- What a call of the gates leaves, opened. -/
theorem GLeft.open_ {fp : Nat → Prop} {B : Nat} {w : World} {g f m : Nat} {S : GS} {w' : World} (h : GLeft fp B w g f m S w') : ∃ fp', GMem fp' B w' g f m S ∧ Chg (fun x => fp x ∨ x = m) w w' ∧ (∀ x, fp' x → fp x ∨ w.heap.size ≤ x) ∧ Below B w w' := by
  obtain ⟨D, h1, fp', h2, h3, h4, h5⟩ := h
  exact ⟨fp', ⟨D, h1, h2⟩, h3, h4, h5⟩
theorem GMem.bd {fp : Nat → Prop} {B : Nat} {w : World} {g f m : Nat} {S : GS} (h : GMem fp B w g f m S) : (∀ x, fp x → x < w.heap.size) ∧ m < w.heap.size := by
  obtain ⟨D, h1, h2⟩ := h
  exact ⟨h2.fo.lt', h2.mp.lt⟩
theorem form_M {fp : Nat → Prop} {B : Nat} {w : World} {g f m : Nat} {S : GS} {F : Nat → Prop} (h : GMem fp B w g f m S) (hi : GI S F) (hC : CB S) (hn : S.n ≤ 541) (hc : S.cl.length ≤ 2461) :
    Calls Try.prog 8 #[.pointer (some ⟨g, 0, none⟩)] w fun e w' => ∃ f', e = .returned (.pointer (some ⟨f', 0, none⟩)) ∧ FAt w.heap.size w' f' (S.n : Int) S.cl ∧ Below w.heap.size w w' := by
  obtain ⟨D, h1, h2⟩ := h
  exact Formula_ h2 (by omega) (by omega) (hC.ok hi (by omega))
set_option maxHeartbeats 32000000 in
set_option maxRecDepth 100000 in
theorem made_ {w0 w : World} {fp : Nat → Prop} {g f m : Nat} (h : GMem fp w0.heap.size w g f m ⟨1, [[1]], []⟩) (hb : Below w0.heap.size w0 w) {v : Value} {xs : List ActD} (hv : ActsS w0 v xs) :
    Calls Try.prog 21 #[.pointer (some ⟨g, 0, none⟩), v] w fun e w' => MadeQ w0 g f m xs e w' := by
  have HST := Lib.hid (MadeR.start (xs := xs) h hb)
  have HBL := Lib.hid (hb.trans ((al1 w (.cells #[.int .i64 1] 3)).mono hb.size))
  have HG0 := Lib.hid (h.below (al1 w (.cells #[.int .i64 1] 3)))
  have HV := Lib.hid hv
  obtain ⟨aa, ac, rfl, hq1, hq2⟩ := hv.form
  have HT : Hid (Calls Try.prog 15 #[.pointer (some ⟨g, 0, none⟩)] w fun e w' => e = .returned (.int .i64 1) ∧ w = w') := Lib.hid (by obtain ⟨D, -, h2⟩ := h; exact True_ h2)
  obtain ⟨q, hq⟩ : ∃ q, q = xs.length := ⟨_, rfl⟩
  rw [← hq] at hq1 ⊢
  have HQ := Lib.hid hq
  have q0 : (0 : Int) ≤ (q : Int) := by omega
  have q9 : (q : Int) ≤ 9223372036854775807 := by have : q ≤ maxLen := Nat.le_trans hq1 hq2; unfold maxLen at this; omega
  clear h hb hv hq hq1 hq2
  by_cases hbig : (60 : Int) < (q : Int)
  · go_enter Try.func21, Try.ntmps21
    go_wp2_with ((go_at_call 15; refine (HT.out).mono ?_; rintro e w' ⟨rfl, rfl⟩))
    go_returns
    exact .inl ⟨rfl, _, _, HG0.out, HBL.out⟩
  go_enter Try.func21, Try.ntmps21
  go_wp2_with ((go_at_call 15; refine (HT.out).mono ?_; rintro e w' ⟨rfl, rfl⟩))
  go_loopw [7, 8, 9, 10, 11, 12, 13] (fun vl i _ _ _ _ _ wr => ∃ j : Nat, j ≤ q ∧ i = .int .i64 j ∧ MadeR w0 g f m xs j vl wr) (fun _ i _ _ _ _ _ _ => q - (intOf i).toNat)
  case atStart => exact ⟨0, Nat.zero_le _, rfl, HST.out⟩
  case round =>
    obtain ⟨j, hj, rfl, hMR⟩ := hrel
    by_cases hlt : (j : Int) < (q : Int)
    · have hjq : j < xs.length := by have := HQ.out; omega
      have hj9 : j < 60 := by omega
      obtain ⟨l, S, F, fp1, hMd, hCB, hG, hR, ho, hB, hF⟩ := hMR
      have hlt' : (xs.take j).length = j := by rw [List.length_take]; omega
      have hlen : l.length = j + 1 := by rw [hMd.len, hlt']
      obtain ⟨b, off, cap, va, vn, he, hva, hcell⟩ := HV.out.at_ hjq
      rw [← HQ.out] at he
      injection he with e1 e2 e3
      subst e1 e3
      clear e2
      have hrr := hR.r
      rw [hlen] at hrr
      rcases hrr.form with ⟨-, h0, -⟩ | ⟨gl, lc, rfl, -, -, -, -⟩
      · omega
      have HCELL := Lib.hid hcell
      have HVA := Lib.hid hva
      obtain ⟨c0, c1, c2, c3⟩ := hcell _ hB
      obtain ⟨a, ha⟩ : ∃ a, a = xs.getD j act0 := ⟨_, rfl⟩
      rw [← ha] at HCELL HVA c0 c3
      have HA := Lib.hid ha
      have hfi := Fine_ (HVA.out.below hB) (j + 1) (by omega)
      have e1 : (((j + 1 : Nat)) : Int) = (j : Int) + 1 := by omega
      rw [e1] at hfi
      have HFI := Lib.hid hfi
      have HMD := Lib.hid hMd
      have HCB := Lib.hid hCB
      have HG := Lib.hid hG
      have HR := Lib.hid hR
      have HO := Lib.hid ho
      have HB := Lib.hid hB
      have HF := Lib.hid hF
      have HLEN := Lib.hid hlen
      generalize hkk : a.k = k at *
      generalize hfr : a.fr = fr at *
      have HKK := Lib.hid hkk
      clear hMd hCB hG hR ho hB hF hlen hva hcell hfi hrr ha hlt' e1 hkk hfr
      by_cases hfine : fineA a (j + 1) = true
      · rw [hfine] at HFI
        have hfd := fineA_iff hfine
        obtain ⟨x, S2, F2, hcs, hMd2, hCB2, hx0, n1, n2, l2, b1, b2, b3, d1, d2, d3, x1, x2, hag, -⟩ := made_step (xs := xs) hjq hj9 HMD.out HCB.out (by rw [← HA.out]; exact hfd)
        rw [← HA.out] at hcs n2 l2 hag
        have HMD2 := Lib.hid hMd2
        have HCB2 := Lib.hid hCB2
        have HAG := Lib.hid hag
        have HFD := Lib.hid hfd
        have HCS := Lib.hid hcs
        have HSZ := Lib.hid (show (S.n ≤ 541 ∧ S.cl.length ≤ 2461 ∧ S.tab.length ≤ 540) ∧ (S2.n ≤ 541 ∧ S2.cl.length ≤ 2461 ∧ S2.tab.length ≤ 540) from ⟨⟨b1, b2, b3⟩, ⟨d1, d2, d3⟩⟩)
        have HSN := Lib.hid (show S.n ≤ S2.n ∧ S2.n ≤ S.n + costV a ∧ S2.cl.length ≤ S.cl.length + costC a from ⟨n1, n2, l2⟩)
        have HX0 := Lib.hid hx0
        have HX1 := Lib.hid x1
        have HX2 := Lib.hid x2
        clear hMd2 hCB2 hag hfd hcs n1 n2 l2 b1 b2 b3 d1 d2 d3 hx0 x1 x2 hfine
        go_wp2_with ((go_at_call 47; refine (HFI.out).mono ?_; rintro e wA ⟨rfl, hbA⟩))
        have HGA := Lib.hid (HG.out.below hbA)
        have HBA := Lib.hid (HB.out.trans (hbA.mono HB.out.size))
        have HRA := Lib.hid (HR.out.below hbA)
        clear hbA c0 c1 c2 c3
        refine (form_M HGA.out HMD.out.gi HCB.out HSZ.out.1.1 HSZ.out.1.2.1).mono ?_
        rintro e wB ⟨f1, rfl, hF1, hbB⟩
        have HF1 : Hid (wA.heap.size ≤ f1) := Lib.hid hF1.1
        have HK1 := Lib.hid (FBlk.of hF1)
        have HFP := Lib.hid HGA.out.bd
        have HGB := Lib.hid (HGA.out.below hbB)
        have HBB := Lib.hid (HBA.out.trans (hbB.mono HBA.out.size))
        have HRB := Lib.hid (HRA.out.below hbB)
        obtain ⟨c0, c1, c2, c3⟩ := HCELL.out _ HBB.out
        clear hF1 hbB
        go_wp2_with fail
        have hca := call_ HGB.out HBB.out.size ⟨by have := HSZ.out.1.1; omega, by have := HSZ.out.1.2.1; omega, by have := HSZ.out.1.2.2; omega⟩ HMD.out.gi (HVA.out.below HBB.out) HRB.out.r.ints (by rw [HLEN.out]; exact HFD.out) HMD.out.ok (by rw [HLEN.out]; omega)
        rw [← HCS.out] at hca
        refine hca.mono ?_
        rintro e wC ⟨rfl, hL⟩
        obtain ⟨fp2, hG2, hc2, hs2, hb2⟩ := hL.open_
        have HGC := Lib.hid hG2
        have HRC := Lib.hid (HRB.out.chg hc2 hs2)
        have HKC := Lib.hid (HK1.out.chg hc2 (fun e => e.elim (fun e => by have := HFP.out.1 _ e; have := HF1.out; omega) (fun e => by have := HFP.out.2; have := HF1.out; omega)))
        have HBC := Lib.hid (HBB.out.trans hb2)
        clear hca hL hG2 hc2 hs2 hb2 c0 c1 c2 c3
        go_wp2_with fail
        refine (form_M HGC.out HMD2.out.gi HCB2.out HSZ.out.2.1 HSZ.out.2.2.1).mono ?_
        rintro e wD ⟨f2, rfl, hF2, hbD⟩
        have HK2 := Lib.hid (FBlk.of hF2)
        have HF2L : Hid (wC.heap.size ≤ f2) := Lib.hid hF2.1
        have HKD := Lib.hid (HKC.out.below hbD)
        have HGD := Lib.hid (HGC.out.below hbD)
        have HBD := Lib.hid (HBC.out.trans (hbD.mono HBC.out.size))
        have HRD := Lib.hid (HRC.out.below hbD)
        obtain ⟨c0, c1, c2, c3⟩ := HCELL.out _ HBD.out
        clear hF2 hbD
        go_wp2_with fail
        refine (Cost_ (HVA.out.below HBD.out) (by have := HFD.out.len; omega)).mono ?_
        rintro e wE ⟨rfl, hbE⟩
        have HKE2 := Lib.hid (HK2.out.below hbE)
        have HKE1 := Lib.hid (HKD.out.below hbE)
        have HGE := Lib.hid (HGD.out.below hbE)
        have HBE := Lib.hid (HBD.out.trans (hbE.mono HBD.out.size))
        have HRE := Lib.hid (HRD.out.below hbE)
        clear hbE c0 c1 c2 c3
        obtain ⟨c0, c1, c2, c3⟩ := HCELL.out _ HBE.out
        have HV1 := Lib.hid HKE1.out.Vars
        have HL1 := Lib.hid HKE1.out.Len
        have HV2 := Lib.hid HKE2.out.Vars
        have HL2 := Lib.hid HKE2.out.Len
        obtain ⟨n1, hn1⟩ : ∃ n1, n1 = S.n := ⟨_, rfl⟩
        obtain ⟨n2, hn2⟩ : ∃ n2, n2 = S2.n := ⟨_, rfl⟩
        obtain ⟨k1, hk1⟩ : ∃ k1, k1 = S.cl.length := ⟨_, rfl⟩
        obtain ⟨k2, hk2⟩ : ∃ k2, k2 = S2.cl.length := ⟨_, rfl⟩
        obtain ⟨cv, hcv⟩ : ∃ cv, cv = costV a := ⟨_, rfl⟩
        obtain ⟨cc, hcc⟩ : ∃ cc, cc = costC a := ⟨_, rfl⟩
        have HNB : Hid (n1 ≤ n2 ∧ n2 ≤ n1 + cv ∧ k2 ≤ k1 + cc ∧ n1 ≤ 541 ∧ n2 ≤ 541 ∧ k1 ≤ 2461 ∧ k2 ≤ 2461) := Lib.hid (by have := HSN.out; have := HSZ.out; omega)
        rw [← hn1] at HV1
        rw [← hn2] at HV2
        rw [← hk1] at HL1
        rw [← hk2] at HL2
        rw [← hcv, ← hcc]
        have HN2 := Lib.hid hn2
        have HK2E := Lib.hid hk2
        have t1 : ¬ (cv : Int) < (n2 : Int) - (n1 : Int) := by have := HNB.out; omega
        have t2 : ¬ (cc : Int) < (k2 : Int) - (k1 : Int) := by have := HNB.out; omega
        have t3 : ¬ (n2 : Int) < (n1 : Int) := by have := HNB.out; omega
        have t4 : (x == 0) = false := by rw [beq_eq_false_iff_ne]; exact HX0.out
        have t5 : IntKind.i64.wrap ((n2 : Int) - (n1 : Int)) = (n2 : Int) - (n1 : Int) := IntWalk.i64_in _ (by have := HNB.out; omega)
        have t6 : IntKind.i64.wrap ((k2 : Int) - (k1 : Int)) = (k2 : Int) - (k1 : Int) := IntWalk.i64_in _ (by have := HNB.out; omega)
        clear hn1 hn2 hk1 hk2 hcv hcc
        have HFS : Hid (∀ i, i < j + 1 → FineD (xs.getD i act0) (i + 1)) := Lib.hid fun i hi => by
          by_cases e : i = j
          · rw [e, ← HA.out]; exact HFD.out
          · exact HF.out i (by omega)
        rcases (show k = 0 ∨ (0 < k ∧ k ≠ 0) by have := HFD.out.k; rw [HKK.out] at this; omega) with hk | ⟨hk, hk'⟩
        · subst hk
          go_wp2_with (first | (go_at_call 9; with_reducible refine HV2.out.mono ?_; rintro e wv ⟨rfl, rfl⟩) | (go_at_call 9; with_reducible refine HV1.out.mono ?_; rintro e wv ⟨rfl, rfl⟩) | (go_at_call 50; with_reducible refine HL2.out.mono ?_; rintro e wv ⟨rfl, rfl⟩) | (go_at_call 50; with_reducible refine HL1.out.mono ?_; rintro e wv ⟨rfl, rfl⟩) | (at_builtin; refine wpList_app rfl _ _ _ rfl 3 (.int .i64 0) 1 8 Try.underlying32 infoI rfl (by decide) (.slice (some ⟨gl, 0, none⟩) (j + 1) lc) (j + 1) (l.map iv) rfl ?ho wE.heap.size 0 1 1 [.int .i64 x] rfl rfl ?hn ?hs ?c1 ?c2 ?_))
          case ho => have := HRE.out.r; rw [HLEN.out] at this; exact this.alloc _
          case hn => exact cellNew _ _ _ _ rfl
          case hs => exact oneCell1 rfl
          case c1 => unfold maxLen; omega
          case c2 => omega
          intro v' w3 hp3
          have hfin := MadeR.app HMD2.out HCB2.out HGE.out HRE.out HO.out HBE.out HFS.out (by rw [HLEN.out]; exact hp3)
          have HFIN := Lib.hid hfin
          clear hp3 hfin
          go_wp2
          go_roundw
          case rel => exact ⟨j + 1, by omega, by go_num, HFIN.out⟩
          case measure => simp [intOf]; omega
        · have HAG2 := Lib.hid (HAG.out (by rw [HKK.out]; exact hk'))
          have HFP2 := Lib.hid HGC.out.bd
          clear hk'
          go_wp2_with (first | (go_at_call 9; with_reducible refine HV2.out.mono ?_; rintro e wv ⟨rfl, rfl⟩) | (go_at_call 9; with_reducible refine HV1.out.mono ?_; rintro e wv ⟨rfl, rfl⟩) | (go_at_call 50; with_reducible refine HL2.out.mono ?_; rintro e wv ⟨rfl, rfl⟩) | (go_at_call 50; with_reducible refine HL1.out.mono ?_; rintro e wv ⟨rfl, rfl⟩))
          have hca := call_ HGE.out HBE.out.size ⟨by have := HSZ.out.2.1; omega, by have := HSZ.out.2.2.1; omega, by have := HSZ.out.2.2.2; omega⟩ HMD2.out.gi (HVA.out.below HBE.out) HRE.out.r.ints (by rw [HLEN.out]; exact HFD.out) (fun y hy => HMD2.out.ok y (List.mem_append_left _ hy)) (by rw [HLEN.out]; omega)
          rw [HAG2.out] at hca
          refine hca.mono ?_
          rintro e wF ⟨rfl, hL⟩
          obtain ⟨fp3, hG3, hc3, hs3, hb3⟩ := hL.open_
          have HGF := Lib.hid hG3
          have HRF := Lib.hid (HRE.out.chg hc3 hs3)
          have HKF := Lib.hid (HKE2.out.chg hc3 (fun e => e.elim (fun e => by have := HFP2.out.1 _ e; have := HF2L.out; omega) (fun e => by have := HFP2.out.2; have := HF2L.out; omega)))
          have HBF := Lib.hid (HBE.out.trans hb3)
          have u1 : (x == x) = true := by simp
          clear hca hL hG3 hc3 hs3 hb3 c0 c1 c2 c3 t1 t2 t3 t4 t5 t6
          go_wp2_with fail
          refine (form_M HGF.out HMD2.out.gi HCB2.out HSZ.out.2.1 HSZ.out.2.2.1).mono ?_
          rintro e wG ⟨f3, rfl, hF3, hbG⟩
          have HLG3 := Lib.hid (FBlk.of hF3).Len
          have HKG := Lib.hid (HKF.out.below hbG)
          have HLG2 := Lib.hid HKG.out.Len
          have HGG := Lib.hid (HGF.out.below hbG)
          have HBG := Lib.hid (HBF.out.trans (hbG.mono HBF.out.size))
          have HRG := Lib.hid (HRF.out.below hbG)
          rw [← HK2E.out] at HLG3 HLG2
          clear hF3 hbG
          go_wp2_with (first | (go_at_call 50; with_reducible refine HLG3.out.mono ?_; rintro e wv ⟨rfl, rfl⟩) | (go_at_call 50; with_reducible refine HLG2.out.mono ?_; rintro e wv ⟨rfl, rfl⟩))
          refine (form_M HGG.out HMD2.out.gi HCB2.out HSZ.out.2.1 HSZ.out.2.2.1).mono ?_
          rintro e wH ⟨f4, rfl, hF4, hbH⟩
          have HVH4 := Lib.hid (FBlk.of hF4).Vars
          have HKH := Lib.hid (HKG.out.below hbH)
          have HVH2 := Lib.hid HKH.out.Vars
          have HGH := Lib.hid (HGG.out.below hbH)
          have HBH := Lib.hid (HBG.out.trans (hbH.mono HBG.out.size))
          have HRH := Lib.hid (HRG.out.below hbH)
          rw [← HN2.out] at HVH4 HVH2
          clear hF4 hbH
          go_wp2_with (first | (go_at_call 9; with_reducible refine HVH4.out.mono ?_; rintro e wv ⟨rfl, rfl⟩) | (go_at_call 9; with_reducible refine HVH2.out.mono ?_; rintro e wv ⟨rfl, rfl⟩) | (at_builtin; refine wpList_app rfl _ _ _ rfl 3 (.int .i64 0) 1 8 Try.underlying32 infoI rfl (by decide) (.slice (some ⟨gl, 0, none⟩) (j + 1) lc) (j + 1) (l.map iv) rfl ?ho wH.heap.size 0 1 1 [.int .i64 x] rfl rfl ?hn ?hs ?c1 ?c2 ?_))
          case ho => have := HRH.out.r; rw [HLEN.out] at this; exact this.alloc _
          case hn => exact cellNew _ _ _ _ rfl
          case hs => exact oneCell1 rfl
          case c1 => unfold maxLen; omega
          case c2 => omega
          intro v' w3 hp3
          have hfin := MadeR.app HMD2.out HCB2.out HGH.out HRH.out HO.out HBH.out HFS.out (by rw [HLEN.out]; exact hp3)
          have HFIN := Lib.hid hfin
          clear hp3 hfin
          go_wp2
          go_roundw
          case rel => exact ⟨j + 1, by omega, by go_num, HFIN.out⟩
          case measure => simp [intOf]; omega
      · have hff : fineA a (j + 1) = false := by simpa using hfine
        rw [hff] at HFI
        clear hfine hff
        go_wp2_with ((go_at_call 47; refine (HFI.out).mono ?_; rintro e wA ⟨rfl, hbA⟩))
        go_returns
        exact .inl ⟨rfl, _, _, HG.out.below hbA, HB.out.trans (hbA.mono HB.out.size)⟩
    · have hjn : j = q := by omega
      have HMR := Lib.hid hMR
      subst hjn
      clear hMR
      go_wp2
      go_returns
      exact .inr ⟨_, rfl, by have := HQ.out; omega, by rw [← HQ.out]; exact HMR.out⟩
end Go.Proofs.Ytkofhilgehhopaa
