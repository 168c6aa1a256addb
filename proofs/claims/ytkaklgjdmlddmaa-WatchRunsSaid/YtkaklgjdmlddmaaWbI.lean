/-
  The laws of chapter 22: WatchRuns, walked.
-/
import Derived.Test.YtkaklgjdmlddmaaWbE
import Derived.Test.YtkaklgjdmlddmaaWaY
import Derived.Test.YtkaklgjdmlddmaaFrameS
import Derived.Test.YtkaklgjdmlddmaaStructs2
import Derived.Deep.CutBlock
import Derived.Deep.RegionHeld3
namespace Go.Proofs.Ytkaklgjdmlddmaa
open Go.ChangeShapes Go.WideShapes Go.ChangeAt Go.RowKit
set_option linter.unusedVariables false
set_option linter.unusedSimpArgs false
attribute [local go_sem ↓] Go.wp_at_zero Go.wp_at_succ
/-- The acts, as they are read. -/
def ActsR (w : World) (v : Value) (xs : List (Int × Int)) : Prop :=
  ∃ a cap, v = .slice a xs.length cap ∧ xs.length ≤ cap ∧ cap ≤ maxLen ∧ (∀ p ∈ xs, (Lit.int .i64 p.1).wf = true ∧ (Lit.int .i64 p.2).wf = true) ∧ (xs = [] ∨ ∃ b off, a = some ⟨b, off, none⟩ ∧ b < w.heap.size ∧ ∀ j, j < xs.length →
      w.cell? ⟨b, off + j * 2, none⟩ = some (.int .i64 (xs.getD j (0, 0)).1) ∧ w.cell? ⟨b, off + j * 2 + 1, none⟩ = some (.int .i64 (xs.getD j (0, 0)).2))
theorem ActsR.at_ {w : World} {v : Value} {xs : List (Int × Int)} (h : ActsR w v xs) {j : Nat} (hj : j < xs.length) :
    ∃ b off cap, v = .slice (some ⟨b, off, none⟩) xs.length cap ∧ (∀ W, Below w.heap.size w W → W.cell? ⟨b, off + j * 2, none⟩ = some (.int .i64 (xs.getD j (0, 0)).1) ∧ W.cell? ⟨b, off + j * 2 + 1, none⟩ = some (.int .i64 (xs.getD j (0, 0)).2)) ∧ -9223372036854775808 ≤ (xs.getD j (0, 0)).2 ∧ (xs.getD j (0, 0)).2 ≤ 9223372036854775807 := by
  obtain ⟨a, cap, rfl, -, -, hwf, h3⟩ := h
  have hne : xs ≠ [] := fun e => by rw [e] at hj; simp at hj
  obtain ⟨b, off, rfl, hlt, hc⟩ := h3.resolve_left hne
  obtain ⟨q1, q2⟩ := hc j hj
  have hw := (hwf (xs.getD j (0, 0)) (by simp [List.getD, hj])).2
  refine ⟨b, off, cap, rfl, fun W hW => ⟨(hW.cell (p := ⟨b, off + j * 2, none⟩) hlt).trans q1, (hW.cell (p := ⟨b, off + j * 2 + 1, none⟩) hlt).trans q2⟩, ?_⟩
  have e : IntKind.i64.min = -9223372036854775808 := rfl
  simp [Lit.wf] at hw ⊢
  exact ⟨by omega, hw.2⟩
/-- Ahead of a Run, in the law's world. -/
def MidR (w0 : World) (wb t : Nat) (og : List (List Int)) (lv av : Value) (k : Nat) (wr : World) : Prop :=
  ∃ S r lc, MMode og lc k S ∧ lc.length = og.length ∧ LW w0.heap.size w0 wr r wb t S ∧ LS w0.heap.size wr r lv lc ∧ LS w0.heap.size wr r av og
/-- Behind a Run, in the law's world. -/
def HdR (w0 : World) (wb t : Nat) (og : List (List Int)) (lv av : Value) (k : Nat) (idv fv : Value) (wr : World) : Prop :=
  ∃ id fine S r lc, idv = .int .i64 id ∧ fv = .bool fine ∧ HMode og lc k id fine S ∧ lc.length = og.length ∧ LW w0.heap.size w0 wr r wb t S ∧ LS w0.heap.size wr r lv lc ∧ LS w0.heap.size wr r av og
theorem LS.store {B : Nat} {w : World} {r : Nat → Nat} {v u : Value} {xss : List (List Int)} {gl i : Nat} (h : LS B w r v xss) (hne : ∀ g, v.ownBlock = some g → g ≠ gl) (hB : B ≤ gl) : LS B (w.setCell ⟨gl, i, none⟩ u) r v xss := by
  obtain ⟨us, h1, h2, h3, h4⟩ := h
  have hc : Chg (fun b => b = gl) w (w.setCell ⟨gl, i, none⟩ u) := (Chg.refl (fun b => b = gl) w).setCell (p := ⟨gl, i, none⟩) (.inl rfl) _
  exact ⟨us, h1.chg hc (fun g hg e => hne g hg e), h2, h3, fun j hj => ⟨(h4 j hj).1.chg hc (fun g hg e => by have := (h4 j hj).2 g hg; omega), (h4 j hj).2⟩⟩
/-- Behind a clause that went. -/
def RemQ (w0 : World) (wb t : Nat) (og lc : List (List Int)) (k i gl : Nat) (lv av cu : Value) (w' : World) : Prop :=
  ∃ S' r', MMode og (lc.set i []) k S' ∧ isB S' (i : Int) = false ∧ LW w0.heap.size w0 w' r' wb t S' ∧ LS w0.heap.size w' r' lv lc ∧ LS w0.heap.size w' r' av og ∧ r' gl = 0 ∧ w'.cell? ⟨gl, i, none⟩ = some cu ∧ w'.frozen? ⟨gl, i, none⟩ = false ∧ gl < w'.heap.size
theorem RemQ.drewN {w0 : World} {wb t : Nat} {og lc : List (List Int)} {k i gl : Nat} {lv av cu : Value} {w' : World} (h : RemQ w0 wb t og lc k i gl lv av cu w') (q : Nat) : RemQ w0 wb t og lc k i gl lv av cu (w'.drewN q) := by
  obtain ⟨S', r', h1, h2, h3, h4, h5, h6, h7, h8, h9⟩ := h
  have hb : Below w'.heap.size w' (w'.drewN q) := below_drewN (Below.refl _ _) q
  exact ⟨S', r', h1, h2, h3.below hb, h4.below hb, h5.below hb, h6, h7, h8, h9⟩
set_option maxHeartbeats 16000000 in
set_option maxRecDepth 100000 in
theorem runs_ {w : World} {v va : Value} {xss : List (List Int)} {xs : List (Int × Int)} (h : IntsS w v xss) (ha : ActsR w va xs) : Calls Try.prog 6 #[v, va] w fun e w' => e = .returned (.bool true) ∧ Below w.heap.size w w' := by
  have HL1 := Lib.hid (light_ h)
  have HAL := Lib.hid alive_
  have HACT := Lib.hid ha
  obtain ⟨aa, ac, rfl, ha1, ha2, -⟩ := ha
  obtain ⟨n, hn⟩ : ∃ n, n = xs.length := ⟨_, rfl⟩
  rw [← hn] at ha1 ⊢
  have hm : n ≤ 9223372036854775807 := Nat.le_trans ha1 ha2
  have HN := Lib.hid hn
  clear hn ha1 ha2
  by_cases hbad : lightB xss = false ∨ (60 : Int) < (n : Int)
  · cases hl : lightB xss with
    | false =>
      rw [hl] at HL1
      clear hl hbad h
      go_enter Try.func6, Try.ntmps6
      go_wp2_with (first | (go_at_call 7; refine (HL1.out).mono ?_; rintro e w' ⟨rfl, rfl⟩) | (go_at_call 8; refine (HAL.out _).mono ?_; rintro e w' ⟨rfl, hb⟩))
      go_ret
      exact ⟨rfl, by assumption⟩
    | true =>
      have h20 : (60 : Int) < (n : Int) := hbad.resolve_left (by rw [hl]; simp)
      have d20 : decide ((60 : Int) < (n : Int)) = true := decide_eq_true h20
      rw [hl] at HL1
      clear hl hbad h h20
      go_enter Try.func6, Try.ntmps6
      go_wp2_with (first | (go_at_call 7; refine (HL1.out).mono ?_; rintro e w' ⟨rfl, rfl⟩) | (go_at_call 8; refine (HAL.out _).mono ?_; rintro e w' ⟨rfl, hb⟩))
      go_ret
      exact ⟨rfl, by assumption⟩
  · have hl : lightB xss = true := by
      cases hl : lightB xss with
      | true => rfl
      | false => exact absurd (.inl hl) hbad
    have d20 : decide ((60 : Int) < (n : Int)) = false := decide_eq_false (fun h => hbad (.inr h))
    have hn60 : n ≤ 60 := by have := of_decide_eq_false d20; omega
    rw [hl] at HL1
    have HLB := Lib.hid hl
    have HS := Lib.hid h
    clear hl h hbad
    go_enter Try.func6, Try.ntmps6
    go_wp2_with ((go_at_call 7; refine (HL1.out).mono ?_; rintro e w' ⟨rfl, rfl⟩))
    refine (trail_New 9 (by omega) _).mono ?_
    rintro e w1 ⟨rfl, hT, hb⟩
    obtain ⟨t, ht⟩ : ∃ t, t = w.heap.size + 1 := ⟨_, rfl⟩
    have hfp : ∀ k ∈ [w.heap.size + 1, w.heap.size], w.heap.size ≤ k := by intro k hk; simp at hk; omega
    have HNW := Lib.hid (New_ hT hfp hb.size)
    rw [← ht] at HNW ⊢
    have HB1 := Lib.hid hb
    clear ht hT hb hfp
    go_wp2_with fail
    refine HNW.out.mono ?_
    rintro e w2 ⟨wb, r, rfl, hat, hb2⟩
    have hW := LW.new (Below.refl _ w) HB1.out hat hb2
    have HAD := Lib.hid (added_ HS.out HLB.out hW)
    clear hat hb2 hW
    go_wp2_with fail
    refine HAD.out.mono ?_
    rintro e w3 ⟨r3, S3, lv, rfl, hA, hW, hL⟩
    obtain ⟨og, hog⟩ : ∃ og, og = fines xss := ⟨_, rfl⟩
    rw [← hog] at hA hL
    have hn80 : og.length ≤ 80 := by rw [hog]; have := fines_len xss; have := light_n HLB.out; omega
    obtain ⟨m, hm2⟩ : ∃ m, m = og.length := ⟨_, rfl⟩
    obtain ⟨la, lcap, hlv, hlc, -⟩ := hL.intsS.form
    rw [← hm2] at hlv hn80
    subst hlv
    have h9 := hA.inv.1.og9
    have hmm : MMode og og 0 S3 := by
      rcases (show S3.bk < 0 ∨ 0 ≤ S3.bk by omega) with hb | hb
      · exact .inr ⟨hb, (hA.inv.mono (fun _ _ => trivial) (by omega) (by omega)).pre⟩
      · exact .inl ⟨hb, hA, rfl⟩
    have HRUN := Lib.hid (run_any hW hmm)
    have HL := Lib.hid hL
    have HM := Lib.hid hm2
    have H9 := Lib.hid h9
    clear hA hL hW hog hm2 hmm h9 hlc
    go_wp2_with fail
    refine HRUN.out.mono ?_
    rintro e w4 ⟨id, fine, S4, r4, rfl, hE, hW4, hc4, hr4⟩
    have hL4 := HL.out.chg hc4 (fun b hb => hb) hr4
    have HRI := Lib.hid (right_ hW4 (by have := hE.ti.len; omega) hL4.intsS (hE.ri rfl))
    have HE := Lib.hid hE
    have HW4 := Lib.hid hW4
    have HL4 := Lib.hid hL4
    clear hE hW4 hc4 hr4 hL4
    go_wp2_with fail
    refine HRI.out.mono ?_
    rintro e w5 ⟨rfl, hb5⟩
    have hW5 := HW4.out.below hb5
    obtain ⟨us, o1, o2, o3, o4⟩ := HL4.out.below hb5
    have HW5 := Lib.hid hW5
    have O1 := Lib.hid o1
    have O2 := Lib.hid o2
    have O3 := Lib.hid o3
    have O4 := Lib.hid o4
    have HSR : Hid (Src (w5.alloc (.cells #[] 23)) la 1 m us) := Lib.hid (by have := (o1.src).below (below_new1 w5 (.cells #[] 23)); rwa [← HM.out] at this)
    have HUS : Hid (us.length = m) := Lib.hid (by rw [o3, HM.out])
    have HNE : Hid (Row (w5.alloc (.cells #[] 23)) 23 1 (.slice (some ⟨w5.heap.size, 0, none⟩) 0 0) 0 []) := Lib.hid ⟨by simp, .inr ⟨w5.heap.size, 0, #[], rfl, Nat.zero_le _, heap_new1 w5 _, Nat.le_refl _, by simp, by simp, by simp⟩⟩
    clear hb5 hW5 o1 o2 o3 o4
    go_wp2_with (at_builtin; refine wpList_appS rfl _ _ _ rfl 23 (.slice none 0 0) 1 24 Try.underlying22 infoL rfl (by decide) (.slice (some ⟨w5.heap.size, 0, none⟩) 0 0) 0 [] rfl ?ho la m lcap us rfl ?hsr ?h1 ?c1 ?c2 ?_)
    case ho => exact HNE.out
    case hsr => exact HSR.out
    case h1 =>
      intro u hu
      obtain ⟨j, hj, rfl⟩ := List.getElem_of_mem hu
      obtain ⟨a, c, e⟩ := ints_form (O4.out j (by rw [← O3.out]; exact hj)).1
      have e2 : us.getD j undef = us[j] := by simp [List.getD, hj]
      rw [← e2, e]; rfl
    case c1 => unfold maxLen; omega
    case c2 => omega
    intro av w6 hp6
    have hcp := LS.copy O1.out O2.out O3.out O4.out HW5.out.hB HW5.out.at_.hi (by rw [← HM.out]; exact hp6)
    have HHD : Hid (HdR w wb t og (.slice la m lcap) av 1 (.int .i64 id) (.bool fine) w6) := Lib.hid ⟨id, fine, S4, r4, og, rfl, rfl, HE.out, rfl, HW5.out.below hcp.2, LS.below ⟨us, O1.out, O2.out, O3.out, O4.out⟩ hcp.2, hcp.1⟩
    have HDIS : Hid (∀ g, av.ownBlock = some g → (Value.slice la m lcap).ownBlock ≠ some g) := Lib.hid fun g hg e => by
      have h1 := O1.out.lt g e
      rcases hp6.2.2 with e2 | e2
      · rw [e2] at hg
        have : some w5.heap.size = some g := hg
        injection this with e3; omega
      · rw [e2] at hg
        injection hg with e3; simp at e3; omega
    clear hp6 hcp
    go_wp2_with fail
    go_loopw [9, 10, 12, 13, 14] (fun idv fv i _ _ wr => ∃ k : Nat, k ≤ n ∧ i = .int .i64 k ∧ HdR w wb t og (.slice la m lcap) av (k + 1) idv fv wr) (fun _ _ i _ _ _ => n - (intOf i).toNat)
    case atStart => exact ⟨0, Nat.zero_le _, rfl, HHD.out⟩
    case round =>
      obtain ⟨k, hk, rfl, id, fine, S, r, lc, rfl, rfl, hM, hlc, hW, hL, hO⟩ := hrel
      have HMM := Lib.hid hM
      have HLC := Lib.hid hlc
      have HW := Lib.hid hW
      have HLL := Lib.hid hL
      have HOO := Lib.hid hO
      clear hM hlc hW hL hO
      by_cases hlt : (k : Int) < (n : Int)
      · have hkn : k < xs.length := by have := HN.out; omega
        obtain ⟨b, off, acap, he, hcell, hN1, hN2⟩ := HACT.out.at_ hkn
        injection he with e1 e2 e3
        subst e1
        obtain ⟨kd, hkd⟩ : ∃ kd, kd = (xs.getD k (0, 0)).1 := ⟨_, rfl⟩
        obtain ⟨N, hNN⟩ : ∃ N, N = (xs.getD k (0, 0)).2 := ⟨_, rfl⟩
        rw [← hNN] at hN1 hN2
        rw [← hkd, ← hNN] at hcell
        obtain ⟨q1, q2⟩ := hcell wr HW.out.old
        have HCELL := Lib.hid hcell
        have HST : Hid (MidR w wb t og (.slice la m lcap) av (k + 1) wr) := Lib.hid ⟨S, r, lc, HMM.out.stay (by omega), HLC.out, HW.out, HLL.out, HOO.out⟩
        clear hkn hcell hkd hNN e2 e3
        go_upto_block 2 with (fail)
        go_cut [13, 14] (fun _ _ wx => MidR w wb t og (.slice la m lcap) av (k + 1) wx)
        case first =>
          rcases (show kd = 0 ∨ kd = 1 ∨ kd = 2 ∨ (kd ≠ 0 ∧ kd ≠ 1 ∧ kd ≠ 2) by omega) with rfl | rfl | rfl | ⟨k0, k1, k2⟩
          · cases fine with
            | false =>
              go_wp2_with fail
              go_meet
              exact HST.out
            | true =>
              rcases (show N = 0 ∨ (N ≠ 0 ∧ N < -9) ∨ (N ≠ 0 ∧ -9 ≤ N ∧ 9 < N) ∨ lit9 N by unfold lit9; omega) with rfl | ⟨n0, n1⟩ | ⟨n0, n1, n2⟩ | h9
              · go_wp2_with fail
                go_meet
                exact HST.out
              · have b0 : (N != 0) = true := by rw [bne_iff_ne]; exact n0
                have b1 : decide (-9 ≤ N) = false := decide_eq_false (by omega)
                clear n0 n1
                go_wp2_with fail
                go_meet
                exact HST.out
              · have b0 : (N != 0) = true := by rw [bne_iff_ne]; exact n0
                have b1 : decide (-9 ≤ N) = true := decide_eq_true n1
                have b2 : decide (N ≤ 9) = false := decide_eq_false (by omega)
                clear n0 n1 n2
                go_wp2_with fail
                go_meet
                exact HST.out
              · have h9' := h9
                obtain ⟨n0, n1, n2⟩ := h9'
                have b0 : (N != 0) = true := by rw [bne_iff_ne]; exact n0
                have b1 : decide (-9 ≤ N) = true := decide_eq_true n1
                have b2 : decide (N ≤ 9) = true := decide_eq_true n2
                have HN9 := Lib.hid h9
                clear h9 n0
                cases hfr : S.t.isFree N with
                | false =>
                  have HDE := Lib.hid (decide_no HW.out N hfr)
                  clear hfr
                  go_wp2_with ((go_at_call 14; refine (HDE.out).mono ?_; rintro e w' ⟨rfl, rfl⟩))
                  go_meet
                  exact HST.out
                | true =>
                  have htb := HMM.out.ti
                  have hE := HMM.out.fine.2
                  have hrb := hE.inv.1.run
                  have HDE := Lib.hid (decide_ HW.out hrb.tb (by have := htb.ok.lvl; have := htb.len; omega) N hfr)
                  have hmd := HMM.out.decide (by omega) HN9.out hfr
                  have HMD := Lib.hid hmd
                  clear hfr htb hE hrb hmd
                  go_wp2_with fail
                  refine HDE.out.mono ?_
                  rintro e w6 ⟨rfl, r6, hW6, hc6, hr6⟩
                  have HMI : Hid (MidR w wb t og (.slice la m lcap) av (k + 1) w6) := Lib.hid ⟨_, r6, lc, HMD.out, HLC.out, hW6, HLL.out.chg hc6 (fun b hb => hb) hr6, HOO.out.chg hc6 (fun b hb => hb) hr6⟩
                  clear hW6 hc6 hr6
                  go_wp2_with fail
                  go_meet
                  exact HMI.out
          · have HDP := Lib.hid (fun W (hW : Below wr.heap.size wr W) => (HW.out.below hW).depth)
            obtain ⟨dp, hdp⟩ : ∃ dp, dp = S.t.lv.length := ⟨_, rfl⟩
            rw [← hdp] at HDP
            have hdp9 : dp ≤ 9 := by rw [hdp]; have := HMM.out.ti.ok.lvl; have := HMM.out.ti.len; omega
            have w1 : IntKind.i64.wrap ((dp : Int) - 1) = (dp : Int) - 1 := IntWalk.i64_in _ (by omega)
            clear hdp
            go_upto_region 20 with (fail)
            go_quiet ((go_at_call 22; exact Calls.quiet_of_same ((HDP.out _ (by first | exact Below.refl _ _ | exact below_drewN (Below.refl _ _) _)).mono fun e w' ⟨h1, h2⟩ => ⟨h1, h2.symm⟩)))
            obtain ⟨lev, hlev⟩ : ∃ lev : Nat, max (min N ((dp : Int) - 1)) 0 = (lev : Int) := ⟨(max (min N ((dp : Int) - 1)) 0).toNat, (Int.toNat_of_nonneg (by omega)).symm⟩
            rw [hlev]
            have hbq : Below wr.heap.size wr (wr.drewN nq) := below_drewN (Below.refl _ _) _
            have HBK := Lib.hid (back_any (HW.out.below hbq) HMM.out.ti lev)
            have HMB := Lib.hid (HMM.out.back (by omega) lev)
            have HL2 := Lib.hid (HLL.out.below hbq)
            have HO2 := Lib.hid (HOO.out.below hbq)
            clear hlev hbq w1 q1 q2
            go_wp2_with fail
            refine HBK.out.mono ?_
            rintro e w6 ⟨u6, r6, rfl, hW6, hc6, hr6⟩
            have HMI : Hid (MidR w wb t og (.slice la m lcap) av (k + 1) w6) := Lib.hid ⟨_, r6, lc, HMB.out, HLC.out, hW6, HL2.out.chg hc6 (fun b hb => hb) hr6, HO2.out.chg hc6 (fun b hb => hb) hr6⟩
            clear hW6 hc6 hr6
            go_wp2_with fail
            go_meet
            exact HMI.out
          · cases fine with
            | false =>
              go_wp2_with fail
              go_meet
              exact HST.out
            | true =>
              rcases (show N < 0 ∨ (0 ≤ N ∧ (m : Int) ≤ N) ∨ (0 ≤ N ∧ N < (m : Int)) by omega) with h0 | ⟨h0, h1⟩ | ⟨h0, h1⟩
              · have b1 : decide (0 ≤ N) = false := decide_eq_false (by omega)
                clear h0
                go_wp2_with fail
                go_meet
                exact HST.out
              · have b1 : decide (0 ≤ N) = true := decide_eq_true h0
                have b2 : decide (N < (m : Int)) = false := decide_eq_false (by omega)
                clear h0 h1
                go_wp2_with fail
                go_meet
                exact HST.out
              · obtain ⟨i, rfl⟩ : ∃ i : Nat, N = (i : Int) := ⟨N.toNat, by omega⟩
                have hi : i < lc.length := by have := HLC.out; have := HM.out; omega
                have b2 : decide (i < m) = true := decide_eq_true (by omega)
                have HLK := Lib.hid (locked_ HW.out HMM.out.ti (i : Int))
                have HII := Lib.hid hi
                clear h0 hi hN1 hN2
                go_wp2_with fail
                refine HLK.out.mono ?_
                rintro e w6 ⟨bl, rfl, hb6⟩
                have hW6 := HW.out.below hb6
                have hL6 := HLL.out.below hb6
                have hO6 := HOO.out.below hb6
                cases bl with
                | true =>
                  have HMI : Hid (MidR w wb t og (.slice la m lcap) av (k + 1) w6) := Lib.hid ⟨S, r, lc, HMM.out.stay (by omega), HLC.out, hW6, hL6, hO6⟩
                  clear hb6 hW6 hL6 hO6
                  go_wp2_with fail
                  go_meet
                  exact HMI.out
                | false =>
                  obtain ⟨gl, lcap', ca, cc, hv, hg, hcl⟩ := hL6.at_ HII.out
                  injection hv with e1 e2 e3
                  subst e1
                  obtain ⟨cn, hcn⟩ : ∃ cn, cn = (lc.getD i []).length := ⟨_, rfl⟩
                  rw [← hcn] at hcl
                  obtain ⟨z1, z2, z3⟩ := hcl w6 (Chg.refl _ _)
                  obtain ⟨bb, hbb⟩ : ∃ bb, bb = decide (0 < cn) := ⟨_, rfl⟩
                  have hrem : ∀ W, Below w6.heap.size w6 W → Calls Try.prog 18 #[.pointer (some ⟨wb, 0, none⟩), .int .i64 i] W fun e w' => e = .returned (.bool bb) ∧ RemQ w wb t og lc (k + 1) i gl (.slice (some ⟨gl, 0, none⟩) m lcap) av (.slice ca cn cc) w' := fun W hW => by
                    refine (rem_any (hW6.below hW) HMM.out (by omega) HLC.out HII.out).mono ?_
                    rintro e w' ⟨rfl, S', r', hM', hib, hW', hc', hr'⟩
                    have hcc : Chg (fun b => w.heap.size ≤ b ∧ r b ≠ 0) w6 w' := (Chg.of_below (S := fun _ => False) hW).mono (fun _ h => h.elim) |>.trans hc' (fun i hi => .inl hi)
                    obtain ⟨y1, y2, y3⟩ := hcl w' hcc
                    refine ⟨by rw [hbb, hcn], S', r', hM', hib, hW', (hL6.below hW).chg hc' (fun b hb => hb) hr', (hO6.below hW).chg hc' (fun b hb => hb) hr', ?_, y1, y2, y3⟩
                    rw [hr' gl (Nat.lt_of_lt_of_le z3 hW.size)]; exact hg.2
                  have HREM := Lib.hid hrem
                  have HG := Lib.hid hg
                  have HDS : Hid (∀ g, av.ownBlock = some g → g ≠ gl) := Lib.hid fun g hg' e => HDIS.out g hg' (by rw [e]; rfl)
                  have sz1 : (i : Int) < (m : Int) := h1
                  have HBBB := Lib.hid hbb
                  clear hb6 hW6 hL6 hO6 hg hcl hcn hrem e2 e3 q1 q2 hbb h1
                  by_cases hc0 : 0 < cn
                  · have hbt : bb = true := by rw [HBBB.out]; exact decide_eq_true hc0
                    subst hbt
                    have c0 : (0 : Int) < (cn : Int) := by omega
                    go_wp2_with fail
                    go_region_held3 (fun w' => w'.cell? ⟨gl, i, none⟩ = some (.slice ca cn cc)) (go_keep) (first
                      | (go_simp; go_at_call 18; refine (HREM.out _ (by first | exact Below.refl _ _ | exact (Below.refl _ _).drew | exact below_drewN (Below.refl _ _) _)).mono ?_; rintro e wR ⟨rfl, S', r', hM', hib, hW', hL', hO', hg', y1, y2, y3⟩; have HCL := Lib.hid (fun W (hW : Below wR.heap.size wR W) => Clause_no ((hW'.below hW).at_) (i : Int) hib); have HM' := Lib.hid hM'; have HW' := Lib.hid hW'; have HL' := Lib.hid hL'; have HO' := Lib.hid hO'; clear hM' hib hW' hL' hO' hg')
                      | (go_simp; go_at_call 17; refine (HCL.out _ (by first | exact Below.refl _ _ | exact (Below.refl _ _).drew | exact below_drewN (Below.refl _ _) _)).mono ?_; rintro e w' ⟨rfl, rfl⟩))
                    all_goals
                      have HMI : Hid (MidR w wb t og (.slice (some ⟨gl, 0, none⟩) m lcap) av (k + 1) (wR.setCell ⟨gl, i, none⟩ (.slice none 0 0))) := Lib.hid (by
                        have hset := HL'.out.set_nil (by rw [HLC.out, HM.out]) HII.out
                        exact ⟨S', r', lc.set i [], HM'.out, by rw [List.length_set]; exact HLC.out, HW'.out.own hset.2, hset.1, HO'.out.store HDS.out HG.out.1⟩)
                      go_wp2_with fail
                      go_meet
                      exact HMI.out
                  · obtain rfl : cn = 0 := by omega
                    have hbt : bb = false := by rw [HBBB.out]; rfl
                    subst hbt
                    go_wp2_with fail
                    go_region_held3 (fun w' => w'.cell? ⟨gl, i, none⟩ = some (.slice ca 0 cc)) (go_keep) (first
                      | (go_simp; go_at_call 18; refine (HREM.out _ (by first | exact Below.refl _ _ | exact (Below.refl _ _).drew | exact below_drewN (Below.refl _ _) _)).mono ?_; rintro e wR ⟨rfl, S', r', hM', hib, hW', hL', hO', hg', y1, y2, y3⟩; have HCL := Lib.hid (fun W (hW : Below wR.heap.size wR W) => Clause_no ((hW'.below hW).at_) (i : Int) hib); have HM' := Lib.hid hM'; have HW' := Lib.hid hW'; have HL' := Lib.hid hL'; have HO' := Lib.hid hO'; clear hM' hib hW' hL' hO' hg')
                      | (go_simp; go_at_call 17; refine (HCL.out _ (by first | exact Below.refl _ _ | exact (Below.refl _ _).drew | exact below_drewN (Below.refl _ _) _)).mono ?_; rintro e w' ⟨rfl, rfl⟩))
                    all_goals
                      have HMI : Hid (MidR w wb t og (.slice (some ⟨gl, 0, none⟩) m lcap) av (k + 1) (wR.setCell ⟨gl, i, none⟩ (.slice none 0 0))) := Lib.hid (by
                        have hset := HL'.out.set_nil (by rw [HLC.out, HM.out]) HII.out
                        exact ⟨S', r', lc.set i [], HM'.out, by rw [List.length_set]; exact HLC.out, HW'.out.own hset.2, hset.1, HO'.out.store HDS.out HG.out.1⟩)
                      go_wp2_with fail
                      go_meet
                      exact HMI.out
          · have b0 : (kd == 0) = false := by rw [beq_eq_false_iff_ne]; exact k0
            have b1 : (kd == 1) = false := by rw [beq_eq_false_iff_ne]; exact k1
            have b2 : (kd == 2) = false := by rw [beq_eq_false_iff_ne]; exact k2
            clear k0 k1 k2
            go_wp2_with fail
            go_meet
            exact HST.out
        case rest =>
          obtain ⟨S5, r5, lc5, hM5, hlc5, hW5, hL5, hO5⟩ := hcut
          have HRU := Lib.hid (run_any hW5 hM5)
          have HL5 := Lib.hid hL5
          have HO5 := Lib.hid hO5
          have HLC5 := Lib.hid hlc5
          clear hM5 hW5 hL5 hO5 hlc5 q1 q2 hN1 hN2
          go_wp2_with fail
          refine HRU.out.mono ?_
          rintro e w7 ⟨id7, fine7, S7, r7, rfl, hE7, hW7, hc7, hr7⟩
          have hL7 := HL5.out.chg hc7 (fun b hb => hb) hr7
          have hO7 := HO5.out.chg hc7 (fun b hb => hb) hr7
          have HRI7 := Lib.hid (right_ hW7 (by have := hE7.ti.len; omega) hL7.intsS (hE7.ri HLC5.out))
          have HE7 := Lib.hid hE7
          have HW7 := Lib.hid hW7
          have HL7 := Lib.hid hL7
          have HO7 := Lib.hid hO7
          clear hE7 hW7 hc7 hr7 hL7 hO7
          go_wp2_with fail
          refine HRI7.out.mono ?_
          rintro e w8 ⟨rfl, hb8⟩
          have HB8 := Lib.hid hb8
          have HCOP := Lib.hid (copied_ (HW7.out.below hb8) HE7.out.ti)
          clear hb8
          go_wp2_with fail
          refine HCOP.out.mono ?_
          rintro e w9 ⟨cb, ca, cc, vL, rfl, hcop, hb9⟩
          have hb89 := HB8.out.trans (hb9.mono HB8.out.size)
          have HFO := Lib.hid (r22_Follows (hcop.b.cell 1) hcop.its (by unfold itemsOf; rw [List.length_map]; have := HE7.out.ti.len; omega) (HO7.out.intsS.below hb89) H9.out HE7.out.fol)
          have HB9 := Lib.hid hb89
          clear hcop hb9 hb89
          go_wp2_with fail
          refine HFO.out.mono ?_
          rintro e w10 ⟨rfl, hb10⟩
          have HB10 := Lib.hid (HB9.out.trans (hb10.mono HB9.out.size))
          clear hb10
          go_wp2_with fail
          go_roundw
          case rel => exact ⟨k + 1, by omega, by go_num, id7, fine7, S7, r7, lc5, rfl, rfl, HE7.out, HLC5.out, HW7.out.below HB10.out, HL7.out.below HB10.out, HO7.out.below HB10.out⟩
          case measure => simp [intOf]; omega
      · have HW9 := Lib.hid HW.out
        go_wp2_with fail
        refine (HAL.out _).mono ?_
        rintro e w7 ⟨rfl, hb7⟩
        have HW7 := Lib.hid (HW9.out.below hb7)
        clear hb7
        go_wp2_with fail
        go_ret
        exact ⟨rfl, HW7.out.old⟩
end Go.Proofs.Ytkaklgjdmlddmaa
