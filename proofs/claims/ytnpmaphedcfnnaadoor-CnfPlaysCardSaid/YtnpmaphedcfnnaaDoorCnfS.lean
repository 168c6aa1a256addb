/-
  The law CnfPlays, walked.
-/
import Derived.Test.YtnpmaphedcfnnaaDoorCnfR
namespace Go.Proofs.YtnpmaphedcfnnaaDoor
open Go.ChangeShapes Go.WideShapes Go.ChangeAt Go.RowKit
set_option linter.unusedVariables false
set_option maxHeartbeats 4000000 in
set_option maxRecDepth 100000 in
theorem claw_plays {w : World} {u : Value} {xs : List ActC} (ht : Tab w) (v : Int) (h : ActsC w u xs) : Calls Tryd.prog 4 #[.int .i64 v, u] w fun e w' => e = .returned (.bool true) ∧ Below w.heap.size w w' := by
  have HA := Lib.hid (alive_all (wr := w) ht)
  have HL := Lib.hid (light_ h)
  have HX := Lib.hid h
  have HT := Lib.hid ht
  obtain ⟨ua, uc, rfl, -, -⟩ := h.form
  generalize xs.length = n at *
  clear h ht
  cases hl : lightB xs with
  | false =>
    rw [hl] at HL
    clear hl
    go_enter Tryd.func4, Tryd.ntmps4
    go_wp2_with (first
      | (go_at_call 8; refine HL.out.mono ?_; rintro e w1 ⟨rfl, rfl⟩)
      | (go_at_call 10; refine (HA.out _ (Below.refl _ _)).mono ?_; rintro e w2 ⟨rfl, hb2⟩; have HB2 := Lib.hid hb2; clear hb2))
    go_ret
    exact ⟨rfl, HB2.out⟩
  | true =>
    rw [hl] at HL
    by_cases hv : v < 0 ∨ 65536 < v
    · have HM := Lib.hid (made_off v hv HX.out)
      clear hl hv
      go_enter Tryd.func4, Tryd.ntmps4
      go_wp2_with fail
      refine HL.out.mono ?_
      rintro e w1 ⟨rfl, rfl⟩
      go_wp2_with fail
      refine HM.out.mono ?_
      rintro e w1 ⟨rfl, hb1⟩
      have HB1 := Lib.hid (hb1.alloc (B := w.heap.size) hb1.size (.cells #[.int .i64 0, .slice none 0 0] 31))
      clear hb1
      go_wp2_with fail
      refine (HA.out _ HB1.out).mono ?_
      rintro e w2 ⟨rfl, hb2⟩
      have HB2 := Lib.hid hb2
      clear hb2
      go_wp2
      go_ret
      exact ⟨rfl, HB2.out⟩
    · have h0 : 0 ≤ v := by omega
      have h1 : v ≤ 65536 := by omega
      have HM := Lib.hid (made_on v h0 h1 HX.out hl)
      have HG := Lib.hid (playA_good h0 h1 hl)
      have HN := Lib.hid (lightB_at hl).1
      generalize playA v xs = s at HM HG
      generalize xs.length = k at HG HN
      obtain ⟨sv, sl⟩ := s
      clear hl hv h0 h1
      go_enter Tryd.func4, Tryd.ntmps4
      go_wp2_with fail
      refine HL.out.mono ?_
      rintro e w1 ⟨rfl, rfl⟩
      go_wp2_with fail
      refine HM.out.mono ?_
      rintro e w1 ⟨f, out, rfl, hF, hS, hb1⟩
      obtain ⟨A, oc, rfl, -, -⟩ := hS.form
      have hbA : Below w1.heap.size w1 (w1.alloc (.cells #[.int .i64 sv, .slice A sl.length oc] 31)) := (Below.refl _ _).alloc (Nat.le_refl _) _
      have hblk := Blk.new w1 31 #[.int .i64 sv, .slice A sl.length oc]
      have hF0 := hF.below hbA
      have hS0 := hS.below hbA
      have hb0 := hb1.trans (hbA.mono hb1.size)
      clear hF hS hb1 hbA
      go_wp2_with fail
      generalize hW0 : w1.alloc (.cells #[.int .i64 sv, .slice A sl.length oc] 31) = W0 at *
      clear hW0
      generalize w1.heap.size = g at *
      have c0 : W0.cell? ⟨g, 0, none⟩ = some (.int .i64 sv) := hblk.cell 0
      have c1 : W0.cell? ⟨g, 1, none⟩ = some (.slice A sl.length oc) := hblk.cell 1
      have hgl := hblk.lt
      have K0 : Hid (∀ W, Below W0.heap.size W0 W → W.cell? ⟨g, 0, none⟩ = some (.int .i64 sv)) := Lib.hid fun W hW => (hW.cell (p := ⟨g, 0, none⟩) hgl).trans c0
      have K1 : Hid (∀ W, Below W0.heap.size W0 W → W.cell? ⟨g, 1, none⟩ = some (.slice A sl.length oc)) := Lib.hid fun W hW => (hW.cell (p := ⟨g, 1, none⟩) hgl).trans c1
      have A1 := Lib.hid (all_Vars hF0)
      have A2 := Lib.hid (all_Len hF0)
      have A3 := Lib.hid (all_Clauses hF0 HG.out HN.out)
      have A4 := Lib.hid (all_Lists hS0)
      have A5 := Lib.hid (all_Size hF0 HG.out HN.out)
      have A6 := Lib.hid (all_rSize hS0 HG.out HN.out)
      have A7 := Lib.hid (all_Print (HT.out.below hb0) hF0 HG.out HN.out)
      have A8 := Lib.hid (all_rPrint hS0 HG.out HN.out)
      have A9 := Lib.hid (alive_all (wr := W0) (HT.out.below hb0))
      have H0 := Lib.hid hb0
      generalize sizeS sl = zs at *
      generalize bs (printT sv sl) = pt at *
      generalize hm : sl.length = m at *
      clear hm hblk hF0 hS0 hb0
      go_region_held3 (fun w' => w'.cell? ⟨g, 0, none⟩ = some (.int .i64 sv) ∧ w'.cell? ⟨g, 1, none⟩ = some (.slice A m oc)) (go_keep) (first
        | (go_at_call 17; refine (A1.out _ (Below.refl _ _).drew).mono ?_; rintro e wa ⟨rfl, hq⟩; have Q1 := Lib.hid hq; have a0 := K0.out _ hq; have a1 := K1.out _ hq; clear hq)
        | (go_at_call 18; refine (A2.out _ Q1.out).mono ?_; rintro e wb ⟨rfl, hq⟩; have Q2 := Lib.hid hq; have b0 := K0.out _ hq; have b1 := K1.out _ hq; clear hq)
        | (go_at_call 20; refine (A3.out _ Q2.out).mono ?_; rintro e wc ⟨uu, rfl, hu, hq⟩; have U3 := Lib.hid hu; have Q3 := Lib.hid hq; have d0 := K0.out _ hq; have d1 := K1.out _ hq; clear hq hu)
        | (go_at_call 19; refine (A4.out _ _ Q3.out U3.out).mono ?_; rintro e wd ⟨rfl, hq⟩; have Q4 := Lib.hid hq; have e0 := K0.out _ hq; have e1 := K1.out _ hq; clear hq)
        | (go_at_call 21; refine (A5.out _ Q4.out).mono ?_; rintro e we ⟨rfl, hq⟩; have Q5 := Lib.hid hq; have f0 := K0.out _ hq; have f1 := K1.out _ hq; clear hq)
        | (go_at_call 22; refine (A6.out _ Q5.out).mono ?_; rintro e wf ⟨rfl, hq⟩; have Q6 := Lib.hid hq; have g0 := K0.out _ hq; have g1 := K1.out _ hq; clear hq)
        | (go_at_call 23; refine (A7.out _ Q6.out).mono ?_; rintro e wg ⟨rfl, hq⟩; have Q7 := Lib.hid hq; have i0 := K0.out _ hq; have i1 := K1.out _ hq; clear hq)
        | (go_at_call 24; refine (A8.out _ Q7.out).mono ?_; rintro e wh ⟨rfl, hq⟩; have Q8 := Lib.hid hq; have j0 := K0.out _ hq; have j1 := K1.out _ hq; clear hq)
        | (go_at_call 10; refine (A9.out _ Q8.out).mono ?_; rintro e wi ⟨rfl, hq⟩; have Q9 := Lib.hid hq; have l0 := K0.out _ hq; have l1 := K1.out _ hq; clear hq))
      go_wp2
      go_ret
      exact ⟨by simp, H0.out.trans (Q9.out.mono H0.out.size)⟩
end Go.Proofs.YtnpmaphedcfnnaaDoor
