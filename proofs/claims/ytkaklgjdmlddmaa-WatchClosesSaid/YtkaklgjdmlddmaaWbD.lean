/-
  The laws of chapter 22: WatchCloses, walked.
-/
import Derived.Test.YtkaklgjdmlddmaaWbC
namespace Go.Proofs.Ytkaklgjdmlddmaa
open Go.ChangeShapes Go.WideShapes Go.ChangeAt Go.RowKit
set_option linter.unusedVariables false
set_option linter.unusedSimpArgs false
attribute [local go_sem ↓] Go.wp_at_zero Go.wp_at_succ
/-- Between two decisions, in the law's world. -/
def CR (w0 : World) (wb t : Nat) (og : List (List Int)) (lv : Value) (fv cv uv : Value) (wr : World) : Prop :=
  ∃ fine could S r out, fv = .bool fine ∧ cv = .bool could ∧ CI og fine could S out ∧ LW w0.heap.size w0 wr r wb t S ∧ LS w0.heap.size wr r lv og ∧ OL w0.heap.size wr r uv out
theorem clo_ {w W : World} {v u : Value} {og : List (List Int)} {st : List Int} {B : Nat} {r : Nat → Nat} (hL : LS B w r v og) (hW : Below w.heap.size w W) (h9 : ∀ k, k < og.length → C9 (og.getD k [])) (hn80 : og.length ≤ 80) (hu : Ints W u st) (hst : Con st) :
    Calls Try.prog 13 #[v, u] W (CloQ W og st) := r22_Closure (hL.intsS.below hW) h9 hn80 hu hst
set_option maxHeartbeats 8000000 in
set_option maxRecDepth 100000 in
theorem closes_ {w : World} {v vd : Value} {xss : List (List Int)} {ds : List Int} (h : IntsS w v xss) (hd : Ints w vd ds) : Calls Try.prog 3 #[v, vd] w fun e w' => e = .returned (.bool true) ∧ Below w.heap.size w w' := by
  have HL1 := Lib.hid (light_ h)
  have HAL := Lib.hid alive_
  obtain ⟨da, dc, rfl, -, hd1, hd2, hdv⟩ := hd
  obtain ⟨dn, hdn⟩ : ∃ dn, dn = ds.length := ⟨_, rfl⟩
  rw [← hdn] at hd1 ⊢
  have hm : dn ≤ 9223372036854775807 := Nat.le_trans hd1 hd2
  have HDN := Lib.hid hdn
  have HDV := Lib.hid hdv
  clear hdn hdv hd1 hd2
  by_cases hbad : lightB xss = false ∨ (20 : Int) < (dn : Int)
  · cases hl : lightB xss with
    | false =>
      rw [hl] at HL1
      clear hl hbad h
      go_enter Try.func3, Try.ntmps3
      go_wp2_with (first | (go_at_call 7; refine (HL1.out).mono ?_; rintro e w' ⟨rfl, rfl⟩) | (go_at_call 8; refine (HAL.out _).mono ?_; rintro e w' ⟨rfl, hb⟩))
      go_ret
      exact ⟨rfl, by assumption⟩
    | true =>
      have h20 : (20 : Int) < (dn : Int) := hbad.resolve_left (by rw [hl]; simp)
      have d20 : decide ((20 : Int) < (dn : Int)) = true := decide_eq_true h20
      rw [hl] at HL1
      clear hl hbad h h20
      go_enter Try.func3, Try.ntmps3
      go_wp2_with (first | (go_at_call 7; refine (HL1.out).mono ?_; rintro e w' ⟨rfl, rfl⟩) | (go_at_call 8; refine (HAL.out _).mono ?_; rintro e w' ⟨rfl, hb⟩))
      go_ret
      exact ⟨rfl, by assumption⟩
  · have hl : lightB xss = true := by
      cases hl : lightB xss with
      | true => rfl
      | false => exact absurd (.inl hl) hbad
    have d20 : decide ((20 : Int) < (dn : Int)) = false := decide_eq_false (fun h => hbad (.inr h))
    have hdn20 : dn ≤ 20 := by have := of_decide_eq_false d20; omega
    rw [hl] at HL1
    have HLB := Lib.hid hl
    have HS := Lib.hid h
    clear hl h hbad
    go_enter Try.func3, Try.ntmps3
    go_wp2_with ((go_at_call 7; refine (HL1.out).mono ?_; rintro e w' ⟨rfl, rfl⟩))
    refine (trail_New 9 (by omega) _).mono ?_
    rintro e w1 ⟨rfl, hT, hb⟩
    obtain ⟨t, ht⟩ : ∃ t, t = w.heap.size + 1 := ⟨_, rfl⟩
    have hfp : ∀ k ∈ [w.heap.size + 1, w.heap.size], w.heap.size ≤ k := by intro k hk; simp at hk; omega
    have HNW := Lib.hid (New_ hT hfp hb.size)
    rw [← ht] at HNW ⊢
    have HB1 := Lib.hid hb
    clear ht hT hb hfp
    go_wp2_with fail
    refine HNW.out.mono ?_
    rintro e w2 ⟨wb, r, rfl, hat, hb2⟩
    have hW := LW.new (Below.refl _ w) HB1.out hat hb2
    have HAD := Lib.hid (added_ HS.out HLB.out hW)
    clear hat hb2 hW
    go_wp2_with fail
    refine HAD.out.mono ?_
    rintro e w3 ⟨r3, S3, lv, rfl, hA, hW, hL⟩
    obtain ⟨og, hog⟩ : ∃ og, og = fines xss := ⟨_, rfl⟩
    rw [← hog] at hA hL
    have hn80 : og.length ≤ 80 := by rw [hog]; have := fines_len xss; have := light_n HLB.out; omega
    have hrun : Calls Try.prog 12 #[.pointer (some ⟨wb, 0, none⟩)] w3 fun e w' => ∃ id fine S' r', e = .returned (.tuple #[.int .i64 id, .bool fine]) ∧ ((0 ≤ S3.bk ∧ fine = false ∧ S' = S3) ∨ (S3.bk < 0 ∧ EInv og og (fun x => x ∈ ([] : List Int)) 0 id fine S')) ∧ LW w.heap.size w w' r' wb t S' ∧ Chg (fun b => w.heap.size ≤ b ∧ r3 b ≠ 0) w3 w' ∧ ∀ b, b < w3.heap.size → r' b = r3 b := by
      rcases (show S3.bk < 0 ∨ 0 ≤ S3.bk by omega) with hb | hb
      · refine (run_ (D := fun x => x ∈ ([] : List Int)) [] hW ((hA.inv.mono (fun _ h => h.elim) (Nat.le_refl _) hA.inv.1.nb).pre) hb (fun x hx => by simp at hx)).mono ?_
        rintro e w' ⟨id, fine, S', r', rfl, ⟨hE, -⟩, q⟩
        exact ⟨id, fine, S', r', rfl, .inr ⟨hb, hE⟩, q⟩
      · refine (Run_broken hW.at_ hb).mono ?_
        rintro e w' ⟨rfl, rfl⟩
        exact ⟨S3.bk, false, S3, r3, rfl, .inl ⟨hb, rfl, rfl⟩, hW, Chg.refl _ _, fun _ _ => rfl⟩
    have HRUN := Lib.hid hrun
    have HA := Lib.hid hA
    have HL := Lib.hid hL
    have HN := Lib.hid hn80
    have H9 := Lib.hid hA.inv.1.og9
    clear hA hL hW hrun hog hn80
    go_wp2_with fail
    refine HRUN.out.mono ?_
    rintro e w4 ⟨id, fine, S4, r4, rfl, hE, hW4, hc4, hr4⟩
    have hL4 := HL.out.chg hc4 (fun b hb => hb) hr4
    have HCL := Lib.hid (clo_ hL4 (Below.refl _ _) H9.out HN.out (ints_nil w4) (⟨fun x hx => by simp at hx, by simp, fun x hx => by simp at hx⟩ : Con []))
    have HE := Lib.hid hE
    have HW4 := Lib.hid hW4
    have HL4 := Lib.hid hL4
    clear hE hW4 hc4 hr4 hL4
    go_wp2_with fail
    refine HCL.out.mono ?_
    rintro e w5 ⟨u, out, could, rfl, hO, hD, hC, hc1, hc0⟩
    have hCR : CR w wb t og lv (.bool fine) (.bool could) u w5 := by
      refine ⟨fine, could, S4, r4, out, rfl, rfl, ?_, HW4.out.below hO.2.1, HL4.out.below hO.2.1, OL.of_own hO HW4.out.hB HW4.out.at_.hi⟩
      rcases HE.out with ⟨hb, rfl, rfl⟩ | ⟨hb, hE⟩
      · exact ⟨(broken_no HA.out hb hC hc1).symm, fun h => by cases h⟩
      · exact agreeC ⟨hE, fun x hx => by simp at hx⟩ hD hC hc1 hc0
    have HCR := Lib.hid hCR
    clear hO hD hC hc1 hc0 hCR
    go_wp2_with fail
    go_loopw [10, 11, 12, 13] (fun fv uv cv i wr => ∃ k : Nat, k ≤ dn ∧ i = .int .i64 k ∧ CR w wb t og lv fv cv uv wr) (fun _ _ _ i _ => dn - (intOf i).toNat)
    case atStart => exact ⟨0, Nat.zero_le _, rfl, HCR.out⟩
    case round =>
      obtain ⟨k, hk, rfl, fine, could, S, r, out, rfl, rfl, hCI, hW, hL, hO⟩ := hrel
      obtain ⟨oa, oc, hou⟩ : ∃ a c, u11 = .slice a out.length c := by
        rcases hO.1.form with ⟨rfl, e0, -⟩ | ⟨g, cap, rfl, -⟩
        · exact ⟨_, _, by rw [e0]⟩
        · exact ⟨_, _, rfl⟩
      obtain ⟨ol, hol⟩ : ∃ ol, ol = out.length := ⟨_, rfl⟩
      rw [← hol] at hou
      subst hou
      have HCI := Lib.hid hCI
      have HW := Lib.hid hW
      have HL := Lib.hid hL
      have HO := Lib.hid hO
      have HOL := Lib.hid hol
      have heq := hCI.eq
      subst heq
      clear hCI hW hL hO hol
      by_cases hlt : (k : Int) < (dn : Int) ∧ fine = true
      · obtain ⟨hlt, rfl⟩ := hlt
        have hkn : k < ds.length := by have := HDN.out; omega
        obtain ⟨b, off, rfl, hcell⟩ := ints_cells HDV.out hkn
        obtain ⟨d, hd⟩ : ∃ d, d = ds.getD k 0 := ⟨_, rfl⟩
        rw [← hd] at hcell
        have q1 := hcell wr HW.out.old
        obtain ⟨hE, hset, hcon⟩ := HCI.out.yes rfl
        have HCELL := Lib.hid hcell
        have HNEXT : Hid (CR w wb t og lv (.bool true) (.bool true) (.slice oa ol oc) wr) := Lib.hid ⟨true, true, S, r, out, rfl, rfl, HCI.out, HW.out, HL.out, HO.out⟩
        have HE := Lib.hid hE
        have HSET := Lib.hid hset
        have HCON := Lib.hid hcon
        clear hkn hd hcell hE hset hcon
        by_cases hd9 : lit9 d
        · obtain ⟨d0, d1, d2⟩ := hd9
          have e0 : (d == 0) = false := by rw [beq_eq_false_iff_ne]; exact d0
          have e1 : decide (d < -9) = false := decide_eq_false (by omega)
          have e2 : decide ((9 : Int) < d) = false := decide_eq_false (by omega)
          have HD9 : Hid (lit9 d) := Lib.hid ⟨d0, d1, d2⟩
          clear d0
          cases hfr : S.t.isFree d with
          | false =>
            have HDE := Lib.hid (decide_no HW.out d hfr)
            clear hfr
            go_wp2_with ((go_at_call 14; refine (HDE.out).mono ?_; rintro e w' ⟨rfl, rfl⟩))
            try rw [Exit.noGoto_exit]
            go_wp2_with fail
            go_roundw
            case rel => exact ⟨k + 1, by omega, by go_num, HNEXT.out⟩
            case measure => simp [intOf]; omega
          | true =>
            have hv0 := (free9 HE.out.inv.1.ti.ms HD9.out).1 hfr
            have hrb := HE.out.inv.1.run
            have HDE := Lib.hid (decide_ HW.out hrb.tb (by have := HE.out.inv.1.ti.ok.lvl; have := hrb.tb.l; omega) d hfr)
            have HV0 := Lib.hid hv0
            clear hfr hv0 hrb
            go_wp2_with fail
            refine HDE.out.mono ?_
            rintro e w6 ⟨rfl, r6, hW6, hc6, hr6⟩
            have hL6 := HL.out.chg hc6 (fun b hb => hb) hr6
            have hO6 := HO.out.chg hc6 (fun b hb => hb) hr6
            have HW6 := Lib.hid hW6
            have HL6 := Lib.hid hL6
            have HO6 := Lib.hid hO6
            clear hW6 hc6 hr6 hL6 hO6 q1
            have hol9 : ol ≤ 9 := by rw [HOL.out]; exact HCON.out.len
            have HOL1 : Hid (out.length = ol) := Lib.hid HOL.out.symm
            have S1 : Hid (∀ W, Below w6.heap.size w6 W → Src W oa 1 ol (out.map iv)) := Lib.hid fun W hW => (ints_src HO6.out.ints).below hW
            have HCQ : Hid (∀ W, Below w6.heap.size w6 W → W.cell? ⟨b, off + k, none⟩ = some (.int .i64 d)) := Lib.hid fun W hW => HCELL.out W (HW6.out.old.trans (hW.mono HW6.out.hB))
            have hcs : Con (out ++ [d]) := HCON.out.snoc HD9.out (by
              refine val_zero (fun hm => ?_) (fun hm => ?_)
              · have := (HE.out.inv.1.ti.val d HD9.out).2 ((HSET.out d).2 hm); have := HV0.out; omega
              · have := (HE.out.inv.1.ti.m1 HD9.out).2 ((HSET.out _).2 hm); have := HV0.out; omega)
            have HCS := Lib.hid hcs
            have HCLO : Hid (∀ W u, Below w6.heap.size w6 W → Ints W u (out ++ [d]) → Calls Try.prog 13 #[lv, u] W (CloQ W og (out ++ [d]))) := Lib.hid fun W u hW hu => clo_ HL6.out hW H9.out HN.out hu HCS.out
            have q6 := HCQ.out w6 (Below.refl _ _)
            clear hcs
            go_wp2_with fail
            go_region_held3 (fun w' => w'.cell? ⟨b, off + k, none⟩ = some (.int .i64 d)) (go_keep) (first
              | (refine step_I (w := w6) rfl (.tmp 83) (.tmp 84) rfl (.slice (some ⟨w6.heap.size, 0, none⟩) 0 0) [] (by simp [Act.eval]) oa ol oc out (by simp [Act.eval]) HOL1.out ?_ ?_ ?_ ?_; (rw [List.length_nil]; omega); (first | exact OwnI.new (heap_new1 (w6.drewN _) _) (below_d1 _ _ _) (Nat.le_refl _) | exact OwnI.new (heap_new3 (w6.drewN _) _ _) (below_d2 _ _ _ _) (Nat.le_refl _)); (first | exact S1.out _ (below_d1 _ _ _) | exact S1.out _ (below_d2 _ _ _ _)); intro v1 wA h1 hc1; have e1 := HCQ.out wA h1.2.1; have H1 := Lib.hid h1; have K1 := Lib.hid hc1; clear h1 hc1)
              | (refine step_I (w := w6) rfl (.tmp 83) (.tmp 84) rfl (.slice (some ⟨w6.heap.size + 1, 0, none⟩) 0 0) [] (by simp [Act.eval]) oa ol oc out (by simp [Act.eval]) HOL1.out ?_ ?_ ?_ ?_; (rw [List.length_nil]; omega); (exact OwnI.new (heap_new2 (w6.drewN _) _ _) (below_d2 _ _ _ _) (by omega)); (exact S1.out _ (below_d2 _ _ _ _)); intro v1 wA h1 hc1; have e1 := HCQ.out wA h1.2.1; have H1 := Lib.hid h1; have K1 := Lib.hid hc1; clear h1 hc1)
              | (refine step_I (w := w6) rfl (.tmp 85) (.tmp 90) rfl v1 ([] ++ out) (by simp [Act.eval]) (some ⟨wA.heap.size, 0, none⟩) 1 1 [d] (by simp [Act.eval]) rfl ?_ ?_ ?_ ?_; (rw [List.nil_append, HOL1.out]; omega); (exact H1.out.below (below_new1 _ _)); (exact Src.one (heap_new1 _ _)); intro v2 wB h2 hc2; have e2 := HCQ.out wB h2.2.1; have H2 := Lib.hid h2; clear h2 hc2)
              | (refine step_I (w := w6) rfl (.tmp 85) (.tmp 90) rfl v1 ([] ++ out) (by simp [Act.eval]) (some ⟨w6.heap.size, 0, none⟩) 1 1 [d] (by simp [Act.eval]) rfl ?_ ?_ ?_ ?_; (rw [List.nil_append, HOL1.out]; omega); (exact H1.out); (exact Src.one (K1.out.at_ (heap_new3 (w6.drewN _) _ _) (by simp [Value.ownBlock]))); intro v2 wB h2 hc2; have e2 := HCQ.out wB h2.2.1; have H2 := Lib.hid h2; clear h2 hc2)
              | (refine step_I (w := w6) rfl (.tmp 85) (.tmp 90) rfl v1 ([] ++ out) (by simp [Act.eval]) (some ⟨w6.heap.size + 1, 0, none⟩) 1 1 [d] (by simp [Act.eval]) rfl ?_ ?_ ?_ ?_; (rw [List.nil_append, HOL1.out]; omega); (exact H1.out); (exact Src.one (K1.out.at_ (heap_new2 (w6.drewN _) _ _) (by simp [Value.ownBlock]))); intro v2 wB h2 hc2; have e2 := HCQ.out wB h2.2.1; have H2 := Lib.hid h2; clear h2 hc2)
              | (go_simp; go_at_call 13; refine (HCLO.out _ _ H2.out.2.1 H2.out.ints).mono ?_; rintro e w9 ⟨u9, out9, b9, rfl, hO9, hD9, hC9, hc1, hc0⟩; have e9 := HCQ.out w9 (H2.out.2.1.trans (hO9.2.1.mono H2.out.2.1.size)); have HO9 := Lib.hid hO9; have HD9' := Lib.hid hD9; have HC9 := Lib.hid hC9; have HC1 := Lib.hid hc1; have HC0 := Lib.hid hc0; clear hO9 hD9 hC9 hc1 hc0))
            all_goals
              have hb9 := H2.out.2.1.trans (HO9.out.2.1.mono H2.out.2.1.size)
              have hW9 := HW6.out.below hb9
              have hL9 := HL6.out.below hb9
              have hO9 : OL w.heap.size w9 r6 u9 out9 := OL.of_own HO9.out (Nat.le_trans HW6.out.hB H2.out.2.1.size) (fun b hb => HW6.out.at_.hi b (Nat.le_trans H2.out.2.1.size hb))
              have hinv := HE.out.inv.decide (D' := fun x => x ∈ out ++ [d]) (HE.out.yes rfl).2 HD9.out HV0.out (fun y hy => List.mem_append_left _ hy) (by simp)
              have HRU := Lib.hid (run_ (out ++ [d]) hW9 hinv.pre HE.out.bk (fun x hx => by
                show x ∈ S.t.l ++ [d]
                rcases List.mem_append.1 hx with hx | hx
                · exact List.mem_append_left _ ((HSET.out x).2 hx)
                · exact List.mem_append_right _ hx))
              have HL9 := Lib.hid hL9
              have HOO := Lib.hid hO9
              clear hb9 hW9 hL9 hO9 hinv
              go_wp2_with fail
              refine HRU.out.mono ?_
              rintro e wZ ⟨id2, fine2, SZ, rZ, rfl, hEZ, hWZ, hcZ, hrZ⟩
              have HNX : Hid (CR w wb t og lv (.bool fine2) (.bool b9) u9 wZ) := Lib.hid ⟨fine2, b9, SZ, rZ, out9, rfl, rfl, agreeC hEZ HD9'.out HC9.out HC1.out HC0.out, hWZ, HL9.out.chg hcZ (fun b hb => hb) hrZ, HOO.out.chg hcZ (fun b hb => hb) hrZ⟩
              clear hEZ hWZ hcZ hrZ
              go_wp2_with fail
              go_roundw
              case rel => exact ⟨k + 1, by omega, by go_num, HNX.out⟩
              case measure => simp [intOf]; omega
        · have hbd : d = 0 ∨ (d ≠ 0 ∧ d < -9) ∨ (d ≠ 0 ∧ ¬ d < -9 ∧ 9 < d) := by unfold lit9 at hd9; omega
          clear hd9
          rcases hbd with h0 | ⟨h0, h1⟩ | ⟨h0, h1, h2⟩
          · have e0 : (d == 0) = true := by rw [beq_iff_eq]; exact h0
            clear h0
            go_wp2_with fail
            try rw [Exit.noGoto_exit]
            go_wp2_with fail
            go_roundw
            case rel => exact ⟨k + 1, by omega, by go_num, HNEXT.out⟩
            case measure => simp [intOf]; omega
          · have e0 : (d == 0) = false := by rw [beq_eq_false_iff_ne]; exact h0
            have e1 : decide (d < -9) = true := decide_eq_true h1
            clear h0 h1
            go_wp2_with fail
            try rw [Exit.noGoto_exit]
            go_wp2_with fail
            go_roundw
            case rel => exact ⟨k + 1, by omega, by go_num, HNEXT.out⟩
            case measure => simp [intOf]; omega
          · have e0 : (d == 0) = false := by rw [beq_eq_false_iff_ne]; exact h0
            have e1 : decide (d < -9) = false := decide_eq_false h1
            have e2 : decide ((9 : Int) < d) = true := decide_eq_true h2
            clear h0 h1 h2
            go_wp2_with fail
            try rw [Exit.noGoto_exit]
            go_wp2_with fail
            go_roundw
            case rel => exact ⟨k + 1, by omega, by go_num, HNEXT.out⟩
            case measure => simp [intOf]; omega
      · cases fine with
        | false =>
          clear hlt
          by_cases hkd : (k : Int) < (dn : Int)
          all_goals
            go_wp2_with fail
            refine (HAL.out _).mono ?_
            rintro e w7 ⟨rfl, hb7⟩
            have HW7 := Lib.hid (HW.out.below hb7)
            clear hb7
            go_wp2_with fail
            go_ret
            exact ⟨rfl, HW7.out.old⟩
        | true =>
          have hkd : ¬ (k : Int) < (dn : Int) := fun h => hlt ⟨h, rfl⟩
          obtain ⟨hE, hset, hcon⟩ := HCI.out.yes rfl
          have HLT := Lib.hid (HW.out.lits (by have := hE.inv.1.ti.len; omega))
          have HSET := Lib.hid hset
          clear hlt hE hset hcon
          go_wp2_with fail
          refine HLT.out.mono ?_
          rintro e w6 ⟨u6, rfl, hcp⟩
          have HSA := Lib.hid (r17_Same hcp.1.ints (HO.out.below hcp.2.2).ints)
          rw [same_of HSET.out] at HSA
          have HW6 := Lib.hid (HW.out.below hcp.2.2)
          clear hcp
          go_wp2_with ((go_at_call 15; refine (HSA.out).mono ?_; rintro e w' ⟨rfl, rfl⟩))
          refine (HAL.out _).mono ?_
          rintro e w7 ⟨rfl, hb7⟩
          have HW7 := Lib.hid (HW6.out.below hb7)
          clear hb7
          go_wp2_with fail
          go_ret
          exact ⟨rfl, HW7.out.old⟩
end Go.Proofs.Ytkaklgjdmlddmaa
