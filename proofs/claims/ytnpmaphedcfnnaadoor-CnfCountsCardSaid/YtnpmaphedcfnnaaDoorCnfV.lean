/-
  The law CnfCounts, walked.
-/
import Derived.Test.YtnpmaphedcfnnaaDoorCnfU
namespace Go.Proofs.YtnpmaphedcfnnaaDoor
open Go.ChangeShapes Go.WideShapes Go.ChangeAt Go.RowKit
set_option linter.unusedVariables false
set_option maxHeartbeats 4000000 in
set_option maxRecDepth 100000 in
theorem claw_counts {w : World} {u uf um : Value} {xs : List ActC} {fs : List Int} {ms : List Bool} (ht : Tab w) (v : Int) (h : ActsC w u xs) (hf : Ints w uf fs) (hmo : Bools w um ms) :
    Calls Tryd.prog 3 #[.int .i64 v, u, uf, um] w fun e w' => e = .returned (.bool true) ∧ Below w.heap.size w w' := by
  have HA := Lib.hid (alive_all (wr := w) ht)
  have HL := Lib.hid (light_ h)
  have HFI := Lib.hid (r17_Fine hf)
  have HX := Lib.hid h
  have HT := Lib.hid ht
  have HFS := Lib.hid hf
  have HMS := Lib.hid hmo
  obtain ⟨ua, uc, rfl, -, -⟩ := h.form
  obtain ⟨fa, fc, rfl, -, p1, p2, -⟩ := hf
  obtain ⟨ma, mc, rfl, q1, q2, -⟩ := hmo
  generalize xs.length = n at *
  generalize fs.length = nf at *
  generalize ms.length = nm at *
  have hnf : nf ≤ 9223372036854775807 := Nat.le_trans p1 p2
  have hnm : nm ≤ 9223372036854775807 := Nat.le_trans q1 q2
  clear h ht p1 p2 q1 q2
  cases hl : lightB xs with
  | false =>
    rw [hl] at HL
    clear hl
    go_enter Tryd.func3, Tryd.ntmps3
    go_wp2_with (first | (go_at_call 8; refine HL.out.mono ?_; rintro e w1 ⟨rfl, rfl⟩) | (go_at_call 9; refine HFI.out.mono ?_; rintro e w1 ⟨rfl, rfl⟩) | (go_at_call 10; refine (HA.out _ (Below.refl _ _)).mono ?_; rintro e w2 ⟨rfl, hb2⟩; have HB2 := Lib.hid hb2; clear hb2))
    go_ret
    exact ⟨rfl, HB2.out⟩
  | true =>
    rw [hl] at HL
    by_cases hf20 : 20 < nf
    · clear hl
      go_enter Tryd.func3, Tryd.ntmps3
      go_wp2_with (first | (go_at_call 8; refine HL.out.mono ?_; rintro e w1 ⟨rfl, rfl⟩) | (go_at_call 9; refine HFI.out.mono ?_; rintro e w1 ⟨rfl, rfl⟩) | (go_at_call 10; refine (HA.out _ (Below.refl _ _)).mono ?_; rintro e w2 ⟨rfl, hb2⟩; have HB2 := Lib.hid hb2; clear hb2))
      go_ret
      exact ⟨rfl, HB2.out⟩
    by_cases hm200 : 200 < nm
    · clear hl
      go_enter Tryd.func3, Tryd.ntmps3
      go_wp2_with (first | (go_at_call 8; refine HL.out.mono ?_; rintro e w1 ⟨rfl, rfl⟩) | (go_at_call 9; refine HFI.out.mono ?_; rintro e w1 ⟨rfl, rfl⟩) | (go_at_call 10; refine (HA.out _ (Below.refl _ _)).mono ?_; rintro e w2 ⟨rfl, hb2⟩; have HB2 := Lib.hid hb2; clear hb2))
      go_ret
      exact ⟨rfl, HB2.out⟩
    cases hcl : clauseB fs with
    | false =>
      rw [hcl] at HFI
      clear hl hcl
      go_enter Tryd.func3, Tryd.ntmps3
      go_wp2_with (first | (go_at_call 8; refine HL.out.mono ?_; rintro e w1 ⟨rfl, rfl⟩) | (go_at_call 9; refine HFI.out.mono ?_; rintro e w1 ⟨rfl, rfl⟩) | (go_at_call 10; refine (HA.out _ (Below.refl _ _)).mono ?_; rintro e w2 ⟨rfl, hb2⟩; have HB2 := Lib.hid hb2; clear hb2))
      go_ret
      exact ⟨rfl, HB2.out⟩
    | true =>
    rw [hcl] at HFI
    have HCL : Hid (ClauseL fs) := Lib.hid (of_decide_eq_true hcl)
    clear hcl
    by_cases hv : v < 0 ∨ 65536 < v
    · have HM := Lib.hid (made_off v hv HX.out)
      clear hl hv
      go_enter Tryd.func3, Tryd.ntmps3
      go_wp2_with fail
      refine HL.out.mono ?_
      rintro e w1 ⟨rfl, rfl⟩
      go_wp2_with fail
      refine HFI.out.mono ?_
      rintro e w1 ⟨rfl, rfl⟩
      go_wp2_with fail
      refine HM.out.mono ?_
      rintro e w1 ⟨rfl, hb1⟩
      have HB1 := Lib.hid (hb1.alloc (B := w.heap.size) hb1.size (.cells #[.int .i64 0, .slice none 0 0] 31))
      clear hb1
      go_wp2_with fail
      refine (HA.out _ HB1.out).mono ?_
      rintro e w2 ⟨rfl, hb2⟩
      have HB2 := Lib.hid hb2
      clear hb2
      go_wp2
      go_ret
      exact ⟨rfl, HB2.out⟩
    · have h0 : 0 ≤ v := by omega
      have h1 : v ≤ 65536 := by omega
      have HM := Lib.hid (made_on v h0 h1 HX.out hl)
      have HG := Lib.hid (playA_good h0 h1 hl)
      have HN := Lib.hid (lightB_at hl).1
      generalize playA v xs = s at HM HG
      generalize xs.length = k at HG HN
      obtain ⟨sv, sl⟩ := s
      clear hl hv h0 h1
      go_enter Tryd.func3, Tryd.ntmps3
      go_wp2_with fail
      refine HL.out.mono ?_
      rintro e w1 ⟨rfl, rfl⟩
      go_wp2_with fail
      refine HFI.out.mono ?_
      rintro e w1 ⟨rfl, rfl⟩
      go_wp2_with fail
      refine HM.out.mono ?_
      rintro e w1 ⟨f, out, rfl, hF, hS, hb1⟩
      obtain ⟨A, oc, rfl, -, -⟩ := hS.form
      have hbA : Below w1.heap.size w1 (w1.alloc (.cells #[.int .i64 sv, .slice A sl.length oc] 31)) := (Below.refl _ _).alloc (Nat.le_refl _) _
      have hblk := Blk.new w1 31 #[.int .i64 sv, .slice A sl.length oc]
      have hF0 := hF.below hbA
      have hS0 := hS.below hbA
      have hb0 := hb1.trans (hbA.mono hb1.size)
      clear hF hS hb1 hbA
      go_wp2_with fail
      generalize hW0 : w1.alloc (.cells #[.int .i64 sv, .slice A sl.length oc] 31) = W0 at *
      clear hW0
      generalize w1.heap.size = g at *
      have c0 : W0.cell? ⟨g, 0, none⟩ = some (.int .i64 sv) := hblk.cell 0
      have c1 : W0.cell? ⟨g, 1, none⟩ = some (.slice A sl.length oc) := hblk.cell 1
      have hgl := hblk.lt
      have K0 : Hid (∀ W, Below W0.heap.size W0 W → W.cell? ⟨g, 0, none⟩ = some (.int .i64 sv)) := Lib.hid fun W hW => (hW.cell (p := ⟨g, 0, none⟩) hgl).trans c0
      have K1 : Hid (∀ W, Below W0.heap.size W0 W → W.cell? ⟨g, 1, none⟩ = some (.slice A sl.length oc)) := Lib.hid fun W hW => (hW.cell (p := ⟨g, 1, none⟩) hgl).trans c1
      have A1 := Lib.hid (all_Count hF0 HG.out (HFS.out.below hb0) HCL.out)
      have A2 := Lib.hid (fun W (hW : Below W0.heap.size W0 W) => all_rCount (hS0.below hW) HG.out ((HFS.out.below hb0).below hW) HCL.out W (Below.refl _ _))
      have A3 := Lib.hid (all_Holds hF0 HG.out (HMS.out.below hb0))
      have A4 := Lib.hid (all_rHolds hS0 HG.out (HMS.out.below hb0))
      have A9 := Lib.hid (alive_all (wr := W0) (HT.out.below hb0))
      have H0 := Lib.hid hb0
      generalize cntV sv sl fs = cv at *
      generalize fstV sv sl fs = ml at *
      generalize ixB sl ms = ix at *
      generalize hm : sl.length = m at *
      clear hm hblk hF0 hS0 hb0
      refine (A1.out _ (Below.refl _ _)).mono ?_
      rintro e wa ⟨u1, rfl, hu1, hq⟩
      have Q1 := Lib.hid hq
      have U1 := Lib.hid hu1
      have a0 := K0.out _ hq
      have a1 := K1.out _ hq
      obtain ⟨v1a, v1c, rfl, -⟩ := hu1
      clear hq
      go_wp2_with fail
      refine (A2.out _ Q1.out).mono ?_
      rintro e wb ⟨u2, rfl, hu2, hq⟩
      have hq0 := Q1.out.trans (hq.mono Q1.out.size)
      have Q2 := Lib.hid hq0
      have SM : Hid (∀ W, Below wb.heap.size wb W → Calls Tryd.prog 14 #[.slice v1a ml.length v1c, u2] W fun e w' => e = .returned (.bool true) ∧ Below W0.heap.size W0 w') := Lib.hid fun W hW => all_Same W (Q2.out.trans (hW.mono Q2.out.size)) (U1.out.below (hq.trans (hW.mono hq.size))) (hu2.below hW)
      have b0 := K0.out _ hq0
      have b1 := K1.out _ hq0
      obtain ⟨v2a, v2c, rfl, -⟩ := hu2
      generalize ml.length = nl at *
      clear hq hq0 U1
      go_wp2_with fail
      go_region_held3 (fun w' => w'.cell? ⟨g, 0, none⟩ = some (.int .i64 sv) ∧ w'.cell? ⟨g, 1, none⟩ = some (.slice A m oc)) (go_keep) (first
        | (go_at_call 14; refine (SM.out _ (Below.refl _ _).drew).mono ?_; rintro e wc ⟨rfl, hq⟩; have Q3 := Lib.hid hq; have d0 := K0.out _ hq; have d1 := K1.out _ hq; clear hq)
        | (go_at_call 15; refine (A3.out _ Q3.out).mono ?_; rintro e wd ⟨rfl, hq⟩; have Q4 := Lib.hid hq; have e0 := K0.out _ hq; have e1 := K1.out _ hq; clear hq)
        | (go_at_call 16; refine (A4.out _ Q4.out).mono ?_; rintro e we ⟨rfl, hq⟩; have Q5 := Lib.hid hq; have f0 := K0.out _ hq; have f1 := K1.out _ hq; clear hq)
        | (go_at_call 10; refine (A9.out _ Q5.out).mono ?_; rintro e wi ⟨rfl, hq⟩; have Q9 := Lib.hid hq; have l0 := K0.out _ hq; have l1 := K1.out _ hq; clear hq))
      go_wp2
      go_ret
      exact ⟨by simp, H0.out.trans (Q9.out.mono H0.out.size)⟩
end Go.Proofs.YtnpmaphedcfnnaaDoor
