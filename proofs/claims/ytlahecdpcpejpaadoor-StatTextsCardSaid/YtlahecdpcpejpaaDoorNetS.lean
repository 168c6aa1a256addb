/-
  Package net: Sound, walked.
-/
import Derived.Test.YtlahecdpcpejpaaDoorNetK
import Derived.Test.YtlahecdpcpejpaaDoorNetM
import Derived.Test.YtlahecdpcpejpaaDoorNetO
import Derived.Test.YtlahecdpcpejpaaDoorNetJ
import Derived.Test.YtlahecdpcpejpaaDoorVarL
namespace Go.Proofs.YtlahecdpcpejpaaDoor
open Go.ChangeShapes Go.WideShapes Go.ChangeAt Go.RowKit
set_option linter.unusedVariables false
set_option linter.unusedSimpArgs false
attribute [local go_sem ↓] Go.wp_at_zero Go.wp_at_succ
/-- The cells of the netlist's block. -/
theorem NBox.all {W : World} {g : Nat} {d : NetD} {vi vl vo vb vc vm va : Value} (h : NBox W g d vi vl vo vb vc vm va) :
    W.cell? ⟨g, 0, none⟩ = some (.int .i64 d.vars) ∧ W.cell? ⟨g, 1, none⟩ = some vi ∧ W.cell? ⟨g, 2, none⟩ = some vl ∧ W.cell? ⟨g, 3, none⟩ = some vo ∧ W.cell? ⟨g, 4, none⟩ = some vb ∧ W.cell? ⟨g, 5, none⟩ = some vc ∧ W.cell? ⟨g, 6, none⟩ = some vm ∧ W.cell? ⟨g, 7, none⟩ = some va :=
  ⟨h.c0, h.c1, h.c2, h.c3, h.c4, h.c5, h.c6, h.c7⟩
set_option maxHeartbeats 8000000 in
set_option maxRecDepth 100000 in
theorem net_Sound {w : World} {d : NetD} {vi vl vo vb vc vm va : Value} (h : NetP w d vi vl vo vb vc vm va) (hl0 : lightN d = true) :
    Calls Tryd.prog 58 #[netV d vi vl vo vb vc vm va] w (RetF w (soundN d)) := by
  obtain ⟨ans, hans⟩ : ∃ f, f = soundN d := ⟨_, rfl⟩
  rw [← hans]
  obtain ⟨hl, hm⟩ := lightN_iff hl0
  obtain ⟨ai, ci, ni, al, cl, nl, ao, co, no, ab, cb, nb, ac, cc, nc, am, cm, nm, aa, ca, na, rfl, rfl, rfl, rfl, rfl, rfl, rfl, HN, HC⟩ := h.open_ hl
  obtain ⟨-, ⟨l1, l2, l3⟩, -, -, -, ⟨m1, m2, m3⟩, -⟩ := HC
  obtain ⟨wb, hwb⟩ : ∃ wb, wb = w.alloc (.cells #[.int .i64 d.vars, .slice ai ni ci, .slice al nl cl, .slice ao no co, .slice ab nb cb, .slice ac nc cc, .slice am nm cm, .slice aa na ca] 28) := ⟨_, rfl⟩
  obtain ⟨bx, hbx⟩ : ∃ bx, bx = w.heap.size := ⟨_, rfl⟩
  have HB1 : Hid (Below w.heap.size w wb) := Lib.hid (by rw [hwb]; exact below_new1 w _)
  have HBX : Hid (NBox wb bx d (.slice ai ni ci) (.slice al nl cl) (.slice ao no co) (.slice ab nb cb) (.slice ac nc cc) (.slice am nm cm) (.slice aa na ca)) := Lib.hid (by rw [hwb, hbx]; exact NBox.new w _ _ _ _ _ _ _ _)
  have HP := Lib.hid (h.below HB1.out)
  have hlim := net_limits HP.out hl
  unfold netV at hlim ⊢
  rw [hwb] at hlim
  have HLIM := Lib.hid hlim
  have HW1 := Lib.hid hwb
  have HBE := Lib.hid hbx
  have HA := Lib.hid hans
  have HL := Lib.hid hl
  have HM := Lib.hid hm
  clear h hl hm hl0 hwb hbx hans hlim
  cases hq : limitsN d with
  | true =>
    have HF : Hid (ans = 10) := Lib.hid (by rw [HA.out]; unfold soundN; rw [if_pos hq])
    rw [hq] at HLIM
    clear hq
    go_enter Tryd.func58, Tryd.ntmps58
    go_wp2_with fail
    refine HLIM.out.mono ?_
    rintro e w2 ⟨rfl, hb⟩
    have HB2 := Lib.hid hb
    clear hb
    go_wp2
    go_ret
    exact ⟨by rw [HF.out]; rfl, (HB1.out.trans (by rw [HW1.out]; exact HB2.out.mono (by simp)))⟩
  | false =>
    rw [hq] at HLIM
    have HQ := Lib.hid hq
    clear hq
    go_enter Tryd.func58, Tryd.ntmps58
    go_wp2_with fail
    refine HLIM.out.mono ?_
    rintro e w2 ⟨rfl, hb⟩
    rw [← HW1.out] at hb
    have HB2 := Lib.hid hb
    have c6 := (HBX.out.later hb).c6
    rw [HBE.out] at c6
    have hwa := net_wideAny (HP.out.mems.below stays_mem hb)
    have HWA := Lib.hid hwa
    clear hb HLIM hwa
    go_wp2_with fail
    clear c6
    cases hq : d.mems.any wideN with
    | true =>
      have HF : Hid (ans = 9) := Lib.hid (by rw [HA.out]; unfold soundN; rw [if_neg (by rw [HQ.out]; decide), if_pos hq])
      rw [hq] at HWA
      clear hq
      refine HWA.out.mono ?_
      rintro e w3 ⟨rfl, hb⟩
      have HB3 := Lib.hid (HB1.out.trans ((HB2.out.trans (hb.mono HB2.out.size)).mono HB1.out.size))
      clear hb
      go_wp2
      go_ret
      exact ⟨by rw [HF.out]; rfl, HB3.out⟩
    | false =>
      rw [hq] at HWA
      have HWD := Lib.hid hq
      clear hq
      refine HWA.out.mono ?_
      rintro e w3 ⟨rfl, hb⟩
      have HB3 := Lib.hid (HB2.out.trans (hb.mono HB2.out.size))
      have c2 := (HBX.out.later HB3.out).c2
      rw [HBE.out] at c2
      have hba := net_badAny (HP.out.lat.below stays_tri HB3.out)
      have HBA := Lib.hid hba
      clear hb hba HWA
      go_wp2_with fail
      clear c2
      cases hq : d.lat.any badL with
      | true =>
        have HF : Hid (ans = 1) := Lib.hid (by rw [HA.out]; unfold soundN; rw [if_neg (by rw [HQ.out]; decide), if_neg (by rw [HWD.out]; decide), if_pos hq])
        rw [hq] at HBA
        clear hq
        refine HBA.out.mono ?_
        rintro e w4 ⟨rfl, hb⟩
        have HB4 := Lib.hid (HB1.out.trans ((HB3.out.trans (hb.mono HB3.out.size)).mono HB1.out.size))
        clear hb
        go_wp2
        go_ret
        exact ⟨by rw [HF.out]; rfl, HB4.out⟩
      | false =>
        rw [hq] at HBA
        have HBAD := Lib.hid hq
        clear hq
        refine HBA.out.mono ?_
        rintro e w4 ⟨rfl, hb⟩
        have HB4 := Lib.hid (HB3.out.trans (hb.mono HB3.out.size))
        clear hb HBA
        obtain ⟨V, hV, hV2⟩ := limits_vars HQ.out
        obtain ⟨f, hf⟩ : ∃ f, f = definesN d.vars (definedN d) [] := ⟨_, rfl⟩
        have hdef := net_defines (HP.out.below HB4.out) HL.out HM.out hV hV2
        have hlit := fun W hW => net_Literals (w := W) (HP.out.below hW) HL.out HM.out
        unfold netV at hdef hlit
        rw [← hf] at hdef
        have HHV := Lib.hid hV
        rw [hV] at hdef hlit
        obtain ⟨c0, c1, c2, c3, c4, c5, c6, c7⟩ := (HBX.out.later HB4.out).all
        rw [hV] at c0
        rw [HBE.out] at c0 c1 c2 c3 c4 c5 c6 c7
        have HF0 := Lib.hid hf
        have HDEF := Lib.hid hdef
        have HLIT := Lib.hid hlit
        have hne : Hid ((f ≠ 0 → ans = f) ∧ (f = 0 → ans = if (literalsN d).any (badX d.vars) = true then 5 else 0)) := Lib.hid (by
          constructor
          · intro h0
            rw [HA.out]; unfold soundN
            rw [if_neg (by rw [HQ.out]; decide), if_neg (by rw [HWD.out]; decide), if_neg (by rw [HBAD.out]; decide), ← hf, if_pos h0]
          · intro h0
            rw [HA.out]; unfold soundN
            rw [if_neg (by rw [HQ.out]; decide), if_neg (by rw [HWD.out]; decide), if_neg (by rw [HBAD.out]; decide), ← hf, if_neg (by rw [h0]; simp)])
        clear hV hf hdef hlit
        by_cases hf0 : f = 0
        · have HANS := Lib.hid (hne.out.2 hf0)
          have hb0 : (f != 0) = false := by rw [bne_eq_false_iff_eq]; exact hf0
          clear hf0
          go_wp2_with fail
          refine HDEF.out.mono ?_
          rintro e w5 ⟨rfl, hb⟩
          have HB5 := Lib.hid (HB4.out.trans (hb.mono HB4.out.size))
          clear hb c0 c1 c2 c3 c4 c5 c6 c7
          obtain ⟨c0, c1, c2, c3, c4, c5, c6, c7⟩ := (HBX.out.later HB5.out).all
          rw [HHV.out] at c0
          rw [HBE.out] at c0 c1 c2 c3 c4 c5 c6 c7
          go_wp2_with fail
          refine (HLIT.out w5 HB5.out).mono ?_
          rintro e w6 ⟨u6, rfl, ho⟩
          obtain ⟨A6, cc6, rfl, z1, z2⟩ := ho.form
          have HO := Lib.hid ho
          have HB6 := Lib.hid (HB5.out.trans (ho.2.1.mono HB5.out.size))
          obtain ⟨L, hL⟩ : ∃ L, L = literalsN d := ⟨_, rfl⟩
          rw [← hL] at HANS HO z1 ⊢
          obtain ⟨n, hn⟩ : ∃ n, n = L.length := ⟨_, rfl⟩
          rw [← hn] at z1 ⊢
          have HIN := HO.out.ints
          replace HIN := Lib.hid HIN
          rw [← hn] at HIN
          have HNL := Lib.hid hn
          unfold maxLen at z2
          rw [HHV.out] at HANS
          clear ho hL hn c0 c1 c2 c3 c4 c5 c6 c7
          go_wp2
          go_loopw [5, 25] (fun _ i wr => ∃ k : Nat, k ≤ n ∧ i = .int .i64 k ∧ (∀ j, j < k → badX V (L.getD j 0) = false) ∧ Below w6.heap.size w6 wr) (fun _ i _ => n - (intOf i).toNat)
          case atStart => exact ⟨0, Nat.zero_le _, rfl, fun _ h => absurd h (by omega), Below.refl _ _⟩
          case round =>
            obtain ⟨k3, hk3, rfl, hrel, hB⟩ := hrel
            have HR3 := Lib.hid hrel
            have HBX4 := Lib.hid hB
            have HB7 := Lib.hid (HB1.out.trans ((HB6.out.trans (hB.mono HB6.out.size)).mono HB1.out.size))
            have c0 := (HBX.out.later (HB6.out.trans (hB.mono HB6.out.size))).c0
            rw [HHV.out, HBE.out] at c0
            clear hrel
            by_cases hlt3 : (k3 : Int) < (n : Int)
            · have hkn : k3 < L.length := by have := HNL.out; omega
              obtain ⟨a9, c9, he, -, -, -, h9⟩ := HIN.out
              have hne : L ≠ [] := fun e => by rw [e] at hkn; simp at hkn
              obtain ⟨b, off, rfl, hcs⟩ := h9.resolve_left hne
              injection he with e1 e2 e3
              subst e1
              have q := cell_below (hcs k3 hkn) hB
              obtain ⟨x, hx⟩ : ∃ x, x = L.getD k3 0 := ⟨_, rfl⟩
              rw [← hx] at q
              have HX := Lib.hid hx
              have HKN := Lib.hid hkn
              clear hcs h9 hne hkn e2 e3 hx hB
              have HF5 : Hid (badX V x = true → ans = 5) := Lib.hid (fun h => by
                rw [HANS.out, if_pos (any_at 0 HKN.out (by rw [← HX.out]; exact h))])
              by_cases hx0 : x < 0
              · have HF := Lib.hid (HF5.out (decide_eq_true (.inl hx0)))
                go_wp2
                go_quiet (fail)
                go_wp2
                repeat rw [Exit.noGoto_ret]
                go_ret
                exact ⟨by rw [HF.out]; rfl, below_d HB7.out⟩
              · by_cases hx1 : (V : Int) < x / 2
                · have HF := Lib.hid (HF5.out (decide_eq_true (.inr (by omega))))
                  have hx0' : 0 ≤ x := by omega
                  clear hx0
                  go_wp2
                  go_quiet ((go_at_call 29; exact Calls.quiet_of_same (litsVar_q _ _)))
                  go_wp2
                  repeat rw [Exit.noGoto_ret]
                  go_ret
                  exact ⟨by rw [HF.out]; rfl, below_d HB7.out⟩
                · have HT : Hid (badX V x = false) := Lib.hid (decide_eq_false (by omega))
                  have hx0' : 0 ≤ x := by omega
                  have hx1' : x / 2 ≤ (V : Int) := by omega
                  clear hx0 hx1
                  go_wp2
                  go_quiet ((go_at_call 29; exact Calls.quiet_of_same (litsVar_q _ _)))
                  go_wp2
                  go_roundw
                  case rel => exact ⟨k3 + 1, by omega, by go_num, snoc_no HR3.out (by rw [← HX.out]; exact HT.out), below_d HBX4.out⟩
                  case measure => simp [intOf]; omega
            · have HF : Hid (ans = 0) := Lib.hid (by
                rw [HANS.out, if_neg]
                rw [any_non 0 (n := k3) (by have := HNL.out; omega) HR3.out]
                decide)
              clear hB
              go_wp2
              go_ret
              exact ⟨by rw [HF.out]; rfl, HB7.out⟩
        · have HANS := Lib.hid (hne.out.1 hf0)
          have hb0 : (f != 0) = true := by rw [bne_iff_ne]; exact hf0
          clear hf0
          go_wp2_with fail
          refine HDEF.out.mono ?_
          rintro e w5 ⟨rfl, hb⟩
          have HB5 := Lib.hid (HB1.out.trans ((HB4.out.trans (hb.mono HB4.out.size)).mono HB1.out.size))
          clear hb c0 c1 c2 c3 c4 c5 c6 c7
          go_wp2
          go_ret
          exact ⟨by rw [HANS.out]; rfl, HB5.out⟩
end Go.Proofs.YtlahecdpcpejpaaDoor
