/-
  Netlists: the document's Sound, walked.
-/
import Derived.Test.YtlahecdpcpejpaaDoorNetH
import Derived.Test.YtlahecdpcpejpaaDoorNetI
namespace Go.Proofs.YtlahecdpcpejpaaDoor
open Go.ChangeShapes Go.WideShapes Go.ChangeAt Go.RowKit
set_option linter.unusedVariables false
set_option linter.unusedSimpArgs false
attribute [local go_sem ↓] Go.wp_at_zero Go.wp_at_succ
theorem limits_vars {d : NetD} (h : limitsN d = false) : ∃ V : Nat, d.vars = V ∧ V ≤ 2000 := by
  unfold limitsN at h
  rw [Bool.or_eq_false_iff, Bool.or_eq_false_iff] at h
  have := of_decide_eq_false h.1.1
  exact ⟨d.vars.toNat, by omega, by omega⟩
set_option maxHeartbeats 8000000 in
set_option maxRecDepth 100000 in
theorem r05_Sound {w : World} {d : NetD} {vi vl vo vb vc vm va : Value} (h : NetP w d vi vl vo vb vc vm va) (hl0 : lightN d = true) :
    Calls Tryd.prog 19 #[netV d vi vl vo vb vc vm va] w (RetF w (soundN d)) := by
  obtain ⟨ans, hans⟩ : ∃ f, f = soundN d := ⟨_, rfl⟩
  rw [← hans]
  obtain ⟨hl, hm⟩ := lightN_iff hl0
  obtain ⟨ai, ci, ni, al, cl, nl, ao, co, no, ab, cb, nb, ac, cc, nc, am, cm, nm, aa, ca, na, rfl, rfl, rfl, rfl, rfl, rfl, rfl, HN, HC⟩ := h.open_ hl
  obtain ⟨-, ⟨l1, l2, l3⟩, -, -, -, ⟨m1, m2, m3⟩, -⟩ := HC
  obtain ⟨wb, hwb⟩ : ∃ wb, wb = w.alloc (.cells #[.int .i64 d.vars, .slice ai ni ci, .slice al nl cl, .slice ao no co, .slice ab nb cb, .slice ac nc cc, .slice am nm cm, .slice aa na ca] 28) := ⟨_, rfl⟩
  obtain ⟨bx, hbx⟩ : ∃ bx, bx = w.heap.size := ⟨_, rfl⟩
  have HB1 : Hid (Below w.heap.size w wb) := Lib.hid (by rw [hwb]; exact below_new1 w _)
  have HBX : Hid (NBox wb bx d (.slice ai ni ci) (.slice al nl cl) (.slice ao no co) (.slice ab nb cb) (.slice ac nc cc) (.slice am nm cm) (.slice aa na ca)) := Lib.hid (by rw [hwb, hbx]; exact NBox.new w _ _ _ _ _ _ _ _)
  have HP := Lib.hid (h.below HB1.out)
  have hlim := r05_limits HP.out hl
  unfold netV at hlim ⊢
  rw [hwb] at hlim
  have HLIM := Lib.hid hlim
  have HW1 := Lib.hid hwb
  have HBE := Lib.hid hbx
  have HA := Lib.hid hans
  have HL := Lib.hid hl
  have HM := Lib.hid hm
  clear h hl hm hl0 hwb hbx hans hlim
  cases hq : limitsN d with
  | true =>
    have HF : Hid (ans = 10) := Lib.hid (by rw [HA.out]; unfold soundN; rw [if_pos hq])
    rw [hq] at HLIM
    clear hq
    go_enter Tryd.func19, Tryd.ntmps19
    go_wp2_with fail
    refine HLIM.out.mono ?_
    rintro e w2 ⟨rfl, hb⟩
    have HB2 := Lib.hid hb
    clear hb
    go_wp2
    go_ret
    exact ⟨by rw [HF.out]; rfl, (HB1.out.trans (by rw [HW1.out]; exact HB2.out.mono (by simp)))⟩
  | false =>
    rw [hq] at HLIM
    have HQ := Lib.hid hq
    clear hq
    go_enter Tryd.func19, Tryd.ntmps19
    go_wp2_with fail
    refine HLIM.out.mono ?_
    rintro e w2 ⟨rfl, hb⟩
    rw [← HW1.out] at hb
    have HB2 := Lib.hid hb
    clear hb
    go_wp2
    rw [← HBE.out]
    clear HLIM
    go_loopw [3] (fun i wr => ∃ k : Nat, k ≤ nm ∧ i = .int .i64 k ∧ (∀ j, j < k → wideN (d.mems.getD j mem0) = false) ∧ Below wb.heap.size wb wr) (fun i _ => nm - (intOf i).toNat)
    case atStart => exact ⟨0, Nat.zero_le _, rfl, fun _ h => absurd h (by omega), HB2.out⟩
    case round =>
      obtain ⟨k, hk, rfl, hrel, hB⟩ := hrel
      have HR := Lib.hid hrel
      have HB := Lib.hid hB
      have c6 := (HBX.out.later hB).c6
      clear hrel hB
      by_cases hlt : (k : Int) < (nm : Int)
      · have hkn : k < d.mems.length := by have := HN.out.mems; omega
        obtain ⟨b, off, cap', he, hmem⟩ := HP.out.mems.at_ hkn
        injection he with e1 e2 e3
        subst e1
        have hlm := (liM_parts (HM.out k hkn)).1
        obtain ⟨mm, hmm⟩ : ∃ mm, mm = d.mems.getD k mem0 := ⟨_, rfl⟩
        rw [← hmm] at hmem hlm
        obtain ⟨u1, u2, y0, y1, y2, y3, y4, hmv⟩ := hmem.val
        obtain ⟨ra, rc, nr, wa, wc, nw, hag, -⟩ := hmv.open_
        injection hag with hag
        simp only [Array.mk.injEq, List.cons.injEq, true_and, and_true] at hag
        obtain ⟨rfl, rfl⟩ := hag
        replace y0 := cell_below y0 HB.out
        replace y1 := cell_below y1 HB.out
        replace y2 := cell_below y2 HB.out
        replace y3 := cell_below y3 HB.out
        replace y4 := cell_below y4 HB.out
        have hw := r05_wide (hmv.below HB.out) hlm
        have HMM := Lib.hid hmm
        have HKN := Lib.hid hkn
        cases hq : wideN mm with
        | true =>
          have HF : Hid (ans = 9) := Lib.hid (by
            rw [HA.out]; unfold soundN; rw [if_neg (by rw [HQ.out]; decide), if_pos]
            exact any_at mem0 hkn (by rw [← hmm]; exact hq))
          rw [hq] at hw
          have HW := Lib.hid hw
          clear hmm hkn hmem hmv hlm hw e2 e3 hq
          go_wp2_with fail
          refine HW.out.mono ?_
          rintro e w3 ⟨rfl, hb⟩
          have HB3 := Lib.hid hb
          clear hb
          go_wp2
          repeat rw [Exit.noGoto_ret]
          go_ret
          exact ⟨by rw [HF.out]; rfl, HB1.out.trans ((HB.out.trans (HB3.out.mono HB.out.size)).mono HB1.out.size)⟩
        | false =>
          rw [hq] at hw
          have HW := Lib.hid hw
          have HQM := Lib.hid hq
          clear hmm hkn hmem hmv hlm hw e2 e3 hq
          go_wp2_with fail
          refine HW.out.mono ?_
          rintro e w3 ⟨rfl, hb⟩
          have HB3 := Lib.hid hb
          clear hb
          go_wp2
          go_roundw
          case rel => exact ⟨k + 1, by omega, by go_num, snoc_no HR.out (by rw [← HMM.out]; exact HQM.out), HB.out.trans (HB3.out.mono HB.out.size)⟩
          case measure => simp [intOf]; omega
      · have HWD : Hid (d.mems.any wideN = false) := Lib.hid (any_non mem0 (n := k) (by have := HN.out.mems; omega) HR.out)
        obtain ⟨wo, rfl⟩ : ∃ wo : World, wo = wr := ⟨_, rfl⟩
        go_wp2
        clear c6
        go_loopw [4] (fun i wr => ∃ k : Nat, k ≤ nl ∧ i = .int .i64 k ∧ (∀ j, j < k → badL (d.lat.getD j tri0) = false) ∧ Below wb.heap.size wb wr) (fun i _ => nl - (intOf i).toNat)
        case atStart => exact ⟨0, Nat.zero_le _, rfl, fun _ h => absurd h (by omega), HB.out⟩
        case round =>
          obtain ⟨k2, hk2, rfl, hrel, hB⟩ := hrel
          have HR2 := Lib.hid hrel
          have HBL := Lib.hid hB
          have c2 := (HBX.out.later hB).c2
          clear hrel hB
          by_cases hlt2 : (k2 : Int) < (nl : Int)
          · have hkn : k2 < d.lat.length := by have := HN.out.lat; omega
            obtain ⟨b, off, cap', he, hone⟩ := HP.out.lat.at_ hkn
            injection he with e1 e2 e3
            subst e1
            obtain ⟨-, -, q0⟩ := hone
            replace q0 := cell_below q0 HBL.out
            obtain ⟨y, hy⟩ : ∃ y, y = d.lat.getD k2 tri0 := ⟨_, rfl⟩
            rw [← hy] at q0
            obtain ⟨z, hz⟩ : ∃ z, z = y.2.2 := ⟨_, rfl⟩
            rw [← hz] at q0
            have HY := Lib.hid hy
            have HZ := Lib.hid hz
            have HKN := Lib.hid hkn
            clear hy hz hkn e2 e3
            go_wp2
            all_goals first
              | (have HF : Hid (ans = 1) := Lib.hid (by
                   have hb : badL y = true := decide_eq_true (by rw [← HZ.out]; omega)
                   rw [HA.out]; unfold soundN
                   rw [if_neg (by rw [HQ.out]; decide), if_neg (by rw [HWD.out]; decide), if_pos (any_at tri0 HKN.out (by rw [← HY.out]; exact hb))])
                 repeat rw [Exit.noGoto_ret]
                 go_ret
                 exact ⟨by rw [HF.out]; rfl, HB1.out.trans (HBL.out.mono HB1.out.size)⟩)
              | (have HT : Hid (badL y = false) := Lib.hid (decide_eq_false (by rw [← HZ.out]; omega))
                 go_roundw
                 case rel => exact ⟨k2 + 1, by omega, by go_num, snoc_no HR2.out (by rw [← HY.out]; exact HT.out), HBL.out⟩
                 case measure => simp [intOf]; omega)
          · have HBAD : Hid (d.lat.any badL = false) := Lib.hid (any_non tri0 (n := k2) (by have := HN.out.lat; omega) HR2.out)
            obtain ⟨V, hV, hV2⟩ := limits_vars HQ.out
            obtain ⟨f, hf⟩ : ∃ f, f = definesN d.vars (definedN d) [] := ⟨_, rfl⟩
            have hdef := r05_defines (HP.out.below HBL.out) HL.out HM.out hV hV2
            unfold netV at hdef
            rw [← hf] at hdef
            have hlit := fun W hW => r05_Literals (w := W) (HP.out.below hW) HL.out HM.out
            unfold netV at hlit
            have HHV := Lib.hid hV
            rw [hV] at hdef hlit
            have hc := fun W hW => HBX.out.later (W := W) hW
            have HCC := Lib.hid hc
            have HF0 := Lib.hid hf
            have HDEF := Lib.hid hdef
            have HLIT := Lib.hid hlit
            obtain ⟨wo2, rfl⟩ : ∃ wo : World, wo = wr := ⟨_, rfl⟩
            obtain ⟨c0, c1, c2, c3, c4, c5, c6, c7⟩ := And.intro (hc _ HBL.out).c0 (And.intro (hc _ HBL.out).c1 (And.intro (hc _ HBL.out).c2 (And.intro (hc _ HBL.out).c3 (And.intro (hc _ HBL.out).c4 (And.intro (hc _ HBL.out).c5 (And.intro (hc _ HBL.out).c6 (hc _ HBL.out).c7))))))
            rw [hV] at c0
            have hne : Hid ((f ≠ 0 → ans = f) ∧ (f = 0 → ans = if (literalsN d).any (badX d.vars) = true then 5 else 0)) := Lib.hid (by
              constructor
              · intro h0
                rw [HA.out]; unfold soundN
                rw [if_neg (by rw [HQ.out]; decide), if_neg (by rw [HWD.out]; decide), if_neg (by rw [HBAD.out]; decide), ← hf, if_pos h0]
              · intro h0
                rw [HA.out]; unfold soundN
                rw [if_neg (by rw [HQ.out]; decide), if_neg (by rw [HWD.out]; decide), if_neg (by rw [HBAD.out]; decide), ← hf, if_neg (by rw [h0]; simp)])
            clear hV hf hdef hlit hc
            by_cases hf0 : f = 0
            · have HANS := Lib.hid (hne.out.2 hf0)
              have hb0 : (f != 0) = false := by rw [bne_eq_false_iff_eq]; exact hf0
              clear hf0
              go_wp2_with fail
              refine HDEF.out.mono ?_
              rintro e w3 ⟨rfl, hb⟩
              have HB3 := Lib.hid (HBL.out.trans (hb.mono HBL.out.size))
              clear hb c0 c1 c2 c3 c4 c5 c6 c7
              obtain ⟨c0, c1, c2, c3, c4, c5, c6, c7⟩ := And.intro (HCC.out _ HB3.out).c0 (And.intro (HCC.out _ HB3.out).c1 (And.intro (HCC.out _ HB3.out).c2 (And.intro (HCC.out _ HB3.out).c3 (And.intro (HCC.out _ HB3.out).c4 (And.intro (HCC.out _ HB3.out).c5 (And.intro (HCC.out _ HB3.out).c6 (HCC.out _ HB3.out).c7))))))
              rw [HHV.out] at c0
              go_wp2_with fail
              refine (HLIT.out w3 HB3.out).mono ?_
              rintro e w4 ⟨u4, rfl, ho⟩
              obtain ⟨A4, cc4, rfl, z1, z2⟩ := ho.form
              have HO := Lib.hid ho
              have HB4 := Lib.hid (HB3.out.trans (ho.2.1.mono HB3.out.size))
              obtain ⟨L, hL⟩ : ∃ L, L = literalsN d := ⟨_, rfl⟩
              rw [← hL] at HANS HO z1 ⊢
              obtain ⟨n, hn⟩ : ∃ n, n = L.length := ⟨_, rfl⟩
              rw [← hn] at z1 ⊢
              have HIN := HO.out.ints
              replace HIN := Lib.hid HIN
              rw [← hn] at HIN
              have HNL := Lib.hid hn
              unfold maxLen at z2
              rw [HHV.out] at HANS
              clear ho hL hn c0 c1 c2 c3 c4 c5 c6 c7
              go_wp2
              go_loopw [7] (fun i wr => ∃ k : Nat, k ≤ n ∧ i = .int .i64 k ∧ (∀ j, j < k → badX V (L.getD j 0) = false) ∧ Below w4.heap.size w4 wr) (fun i _ => n - (intOf i).toNat)
              case atStart => exact ⟨0, Nat.zero_le _, rfl, fun _ h => absurd h (by omega), Below.refl _ _⟩
              case round =>
                obtain ⟨k3, hk3, rfl, hrel, hB⟩ := hrel
                have HR3 := Lib.hid hrel
                have HBX4 := Lib.hid hB
                have HB5 := Lib.hid (HB1.out.trans ((HB4.out.trans (hB.mono HB4.out.size)).mono HB1.out.size))
                have c0 := (HCC.out _ (HB4.out.trans (hB.mono HB4.out.size))).c0
                rw [HHV.out] at c0
                clear hrel
                by_cases hlt3 : (k3 : Int) < (n : Int)
                · have hkn : k3 < L.length := by have := HNL.out; omega
                  obtain ⟨a9, c9, he, -, -, -, h9⟩ := HIN.out
                  have hne : L ≠ [] := fun e => by rw [e] at hkn; simp at hkn
                  obtain ⟨b, off, rfl, hcs⟩ := h9.resolve_left hne
                  injection he with e1 e2 e3
                  subst e1
                  have q := cell_below (hcs k3 hkn) hB
                  have hmul : IntKind.i64.wrap (2 * (V : Int)) = 2 * (V : Int) := IntWalk.i64_in _ (by omega)
                  have hadd : IntKind.i64.wrap (2 * (V : Int) + 1) = 2 * (V : Int) + 1 := IntWalk.i64_in _ (by omega)
                  have HMUL := Lib.hid (And.intro hmul hadd)
                  clear hmul hadd
                  obtain ⟨x, hx⟩ : ∃ x, x = L.getD k3 0 := ⟨_, rfl⟩
                  rw [← hx] at q
                  have HX := Lib.hid hx
                  have HKN := Lib.hid hkn
                  clear hcs h9 hne hkn e2 e3 hx hB
                  have HF5 : Hid (badX V x = true → ans = 5) := Lib.hid (fun h => by
                    rw [HANS.out, if_pos (any_at 0 HKN.out (by rw [← HX.out]; exact h))])
                  by_cases hx0 : x < 0
                  · have HF := Lib.hid (HF5.out (decide_eq_true (.inl hx0)))
                    go_wp2
                    go_quiet (fail)
                    go_wp2
                    repeat rw [Exit.noGoto_ret]
                    go_ret
                    exact ⟨by rw [HF.out]; rfl, below_d HB5.out⟩
                  · by_cases hx1 : 2 * (V : Int) + 1 < x
                    · have HF := Lib.hid (HF5.out (decide_eq_true (.inr hx1)))
                      have hx0' : 0 ≤ x := by omega
                      clear hx0
                      obtain ⟨hmul, hadd⟩ := HMUL.out
                      go_wp2
                      go_quiet (fail)
                      clear hmul hadd
                      go_wp2
                      repeat rw [Exit.noGoto_ret]
                      go_ret
                      exact ⟨by rw [HF.out]; rfl, below_d HB5.out⟩
                    · have HT : Hid (badX V x = false) := Lib.hid (decide_eq_false (by omega))
                      have hx0' : 0 ≤ x := by omega
                      have hx1' : x ≤ 2 * (V : Int) + 1 := by omega
                      clear hx0 hx1
                      obtain ⟨hmul, hadd⟩ := HMUL.out
                      go_wp2
                      go_quiet (fail)
                      clear hmul hadd
                      go_wp2
                      go_roundw
                      case rel => exact ⟨k3 + 1, by omega, by go_num, snoc_no HR3.out (by rw [← HX.out]; exact HT.out), below_d HBX4.out⟩
                      case measure => simp [intOf]; omega
                · have HF : Hid (ans = 0) := Lib.hid (by
                    rw [HANS.out, if_neg]
                    rw [any_non 0 (n := k3) (by have := HNL.out; omega) HR3.out]
                    decide)
                  clear hB
                  go_wp2
                  go_ret
                  exact ⟨by rw [HF.out]; rfl, HB5.out⟩
            · have HANS := Lib.hid (hne.out.1 hf0)
              have hb0 : (f != 0) = true := by rw [bne_iff_ne]; exact hf0
              clear hf0
              go_wp2_with fail
              refine HDEF.out.mono ?_
              rintro e w3 ⟨rfl, hb⟩
              have HB3 := Lib.hid (HB1.out.trans ((HBL.out.trans (hb.mono HBL.out.size)).mono HB1.out.size))
              clear hb c0 c1 c2 c3 c4 c5 c6 c7
              go_wp2
              go_ret
              exact ⟨by rw [HANS.out]; rfl, HB3.out⟩
end Go.Proofs.YtlahecdpcpejpaaDoor
