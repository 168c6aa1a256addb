/-
  Trim's laws: the example walked; the document's Right; TrimProofs.
-/
import Derived.Test.YtknpfopepedmmaaTmI
namespace Go.Proofs.Ytknpfopepedmmaa
open Go Go.ChangeShapes Go.WideShapes Go.ChangeAt Go.RowKit Go.Maps
set_option linter.unusedVariables false
set_option linter.unusedSimpArgs false
theorem exO_ok : ∀ d ∈ exO, Lit30s d ∧ d.length ≤ 1000000 := fun d hd => by
  simp [exO] at hd
  rcases hd with e | e | e <;> rw [e]
  · exact ⟨lits_of [1] rfl, by decide⟩
  · exact ⟨lits_of [2] rfl, by decide⟩
  · exact ⟨lits_of [-1] rfl, by decide⟩
theorem intsS_lit3 {w : World} {u1 u2 u3 : Value} {a b c : List Int} (h1 : Ints w u1 a) (h2 : Ints w u2 b) (h3 : Ints w u3 c) : IntsS (w.alloc (.cells #[u1, u2, u3] 28)) (.slice (some ⟨w.heap.size, 0, none⟩) 3 3) [a, b, c] := by
  have hb := below_new1 w (.cells #[u1, u2, u3] 28)
  refine ⟨_, 3, rfl, Nat.le_refl _, by decide, .inr ⟨w.heap.size, 0, rfl, fun j hj => ?_⟩⟩
  have hj : j < 3 := hj
  have : j = 0 ∨ j = 1 ∨ j = 2 := by omega
  rcases this with rfl | rfl | rfl
  · exact ⟨u1, (Blk.new w 28 #[u1, u2, u3]).cell 0, h1.below hb⟩
  · exact ⟨u2, (Blk.new w 28 #[u1, u2, u3]).cell 1, h2.below hb⟩
  · exact ⟨u3, (Blk.new w 28 #[u1, u2, u3]).cell 2, h3.below hb⟩
set_option maxHeartbeats 4000000 in
set_option maxRecDepth 100000 in
theorem alive26 (w : World) : Calls Try.prog 30 #[] w fun e w' => e = .returned (.bool true) ∧ Below w.heap.size w w' := by
  obtain ⟨w1, hw1⟩ : ∃ w1, w1 = w.alloc (.cells #[.int .i64 1] 3) := ⟨_, rfl⟩
  obtain ⟨w2, hw2⟩ : ∃ w2, w2 = w1.alloc (.cells #[.int .i64 2] 3) := ⟨_, rfl⟩
  obtain ⟨w3, hw3⟩ : ∃ w3, w3 = w2.alloc (.cells #[.int .i64 (-1)] 3) := ⟨_, rfl⟩
  have z1 : w1.heap.size = w.heap.size + 1 := by rw [hw1]; simp
  have z2 : w2.heap.size = w.heap.size + 1 + 1 := by rw [hw2]; simp [z1]
  have z3 : w3.heap.size = w.heap.size + 1 + 1 + 1 := by rw [hw3]; simp [z2]
  obtain ⟨w4, hw4⟩ : ∃ w4, w4 = w3.alloc (.cells #[.slice (some ⟨w.heap.size, 0, none⟩) 1 1, .slice (some ⟨w1.heap.size, 0, none⟩) 1 1, .slice (some ⟨w2.heap.size, 0, none⟩) 1 1] 28) := ⟨_, rfl⟩
  have b1 : Below w.heap.size w w1 := by rw [hw1]; exact below_new1 w _
  have b2 : Below w1.heap.size w1 w2 := by rw [hw2]; exact below_new1 w1 _
  have b3 : Below w2.heap.size w2 w3 := by rw [hw3]; exact below_new1 w2 _
  have b4 : Below w3.heap.size w3 w4 := by rw [hw4]; exact below_new1 w3 _
  have i1 : Ints w1 (.slice (some ⟨w.heap.size, 0, none⟩) 1 1) [1] := by rw [hw1]; exact ints_lit w [1] (by decide)
  have i2 : Ints w2 (.slice (some ⟨w1.heap.size, 0, none⟩) 1 1) [2] := by rw [hw2]; exact ints_lit w1 [2] (by decide)
  have i3 : Ints w3 (.slice (some ⟨w2.heap.size, 0, none⟩) 1 1) [-1] := by rw [hw3]; exact ints_lit w2 [-1] (by decide)
  have hv : IntsS w4 (.slice (some ⟨w3.heap.size, 0, none⟩) 3 3) exO := by rw [hw4]; exact intsS_lit3 ((i1.below b2).below b3) (i2.below b3) i3
  have HB4 : Hid (Below w.heap.size w w4) := Lib.hid (((b1.trans (b2.mono b1.size)).trans (b3.mono (by omega))).trans (b4.mono (by omega)))
  have HPR := Lib.hid (trim_Proof hv (s := .slice none 0 0) (xs := []) ⟨none, 0, rfl, Nat.le_refl _, by decide, .inl rfl⟩ (u := .slice none 0 0) (goal := []) (ints_nil _) exO_ok (fun x hx => by simp at hx) (by decide) (by decide) (fun x hx => by simp at hx) (by decide))
  rw [z3] at HPR
  have HW4 : Hid (w4 = (((w.alloc (.cells #[.int .i64 1] 3)).alloc (.cells #[.int .i64 2] 3)).alloc (.cells #[.int .i64 (-1)] 3)).alloc (.cells #[.slice (some ⟨w.heap.size, 0, none⟩) 1 1, .slice (some ⟨w.heap.size + 1, 0, none⟩) 1 1, .slice (some ⟨w.heap.size + 1 + 1, 0, none⟩) 1 1] 28)) := Lib.hid (by rw [hw4, hw3, z1, z2, hw2, hw1])
  clear hv b1 b2 b3 b4 i1 i2 i3 z1 z2 z3 hw1 hw2 hw3 hw4
  go_enter Try.func30, Try.ntmps30
  go_wp2_with fail
  rw [← HW4.out]
  refine HPR.out.mono ?_
  rintro e w5 ⟨uv, sv, rfl, hb5, hy, -⟩
  obtain ⟨hi, hst, hfin⟩ := hy exC
  rw [exC]
  obtain ⟨eu, ek⟩ := exP hfin
  rw [eu] at hi
  rw [ek] at hst
  obtain ⟨ia, ic, hiv, -, -⟩ := hi.form2
  obtain ⟨ka, kc, hsv, -, -⟩ := hst.form
  have hiv : uv = .slice ia 2 ic := hiv
  have hsv : sv = .slice ka 0 kc := hsv
  subst hiv hsv
  obtain ⟨rb, hrb⟩ : ∃ rb, rb = w5.heap.size := ⟨_, rfl⟩
  obtain ⟨wB, hwB⟩ : ∃ wB, wB = w5.alloc (.cells #[.slice ia 2 ic, .slice ka 0 kc, .int .i64 (-1)] 60) := ⟨_, rfl⟩
  have hbB : Below w5.heap.size w5 wB := by rw [hwB]; exact below_new1 w5 _
  have hBk : Blk wB rb 60 #[.slice ia 2 ic, .slice ka 0 kc, .int .i64 (-1)] := by rw [hwB, hrb]; exact Blk.new _ _ _
  obtain ⟨wC, hwC⟩ : ∃ wC, wC = wB.alloc (.cells #[.int .i64 0, .int .i64 2] 3) := ⟨_, rfl⟩
  have hbC : Below wB.heap.size wB wC := by rw [hwC]; exact below_new1 wB _
  have hzB : wB.heap.size = rb + 1 := by rw [hwB, hrb]; simp
  have hSM := r01_Same ((hi.below hbB).below hbC) (u := .slice (some ⟨rb + 1, 0, none⟩) 2 2) (ys := [0, 2]) (by rw [hwC, ← hzB]; exact ints_lit wB [0, 2] (by decide))
  rw [show sameB (natI [0, 2]) [0, 2] = true from rfl] at hSM
  have HSM := Lib.hid hSM
  have HBK := Lib.hid (hBk.below hbC hBk.lt)
  have hB5 := HB4.out.trans (hb5.mono HB4.out.size)
  have hBB := hB5.trans (hbB.mono hB5.size)
  have HBC := Lib.hid (hBB.trans (hbC.mono hBB.size))
  have c0 : wB.cell? ⟨rb, 0, none⟩ = some (.slice ia 2 ic) := hBk.cell 0
  have c1 : wB.cell? ⟨rb, 1, none⟩ = some (.slice ka 0 kc) := hBk.cell 1
  have c2 : wB.cell? ⟨rb, 2, none⟩ = some (.int .i64 (-1)) := hBk.cell 2
  clear hy hi hst hfin eu ek hb5 hbB hBk hbC hSM hB5 hBB HPR HW4 hzB
  go_wp2_with fail
  rw [← hrb, ← hwB, ← hwC]
  clear hrb hwB hwC c0 c1 c2
  refine HSM.out.mono ?_
  rintro e w6 ⟨rfl, hq⟩
  have c1 : w6.cell? ⟨rb, 1, none⟩ = some (.slice ka 0 kc) := (HBK.out.below hq.below HBK.out.lt).cell 1
  have H6 := Lib.hid (HBC.out.trans (hq.below.mono HBC.out.size))
  clear hq
  go_wp2
  go_ret
  exact ⟨rfl, H6.out⟩
/-! ### Right -/
set_option maxHeartbeats 4000000 in
set_option maxRecDepth 100000 in
theorem r26_Right {w : World} {v s u iv_ kv : Value} {og : List (List Int)} {xs ks : List Stp} {goal : List Int} {R ps : List Nat} (h : IntsS w v og) (hs : StpS w s xs) (hu : Ints w u goal) (hi : Ints w iv_ (natI R)) (hk : StpS w kv ks) (ho : ∀ d ∈ og, Lit30s d) (hl : og.length ≤ 100) (hl2 : xs.length ≤ 100) (hg : Lit30s goal) (hgl : goal.length ≤ 1000000) (hR : ∀ j ∈ R, j < og.length) (hup : R.Pairwise (· < ·)) (hr : RiseP xs ks ps) (hkx : ∀ x ∈ ks, okX x) (hkl : ks.length ≤ 1000) (hc : chkD (pick_ og R) ks goal = -1) :
    Calls Try.prog 32 #[v, s, u, iv_, kv] w fun e w' => e = .returned (.bool true) ∧ Below w.heap.size w w' := by
  have HSM := Lib.hid (r26_Some h.t (by omega) hi hR hup)
  have HPT : Hid (∀ W, Below w.heap.size w W → Calls Try.prog 63 #[kv, s] W fun e w' => e = .returned (.bool true) ∧ Below W.heap.size W w') := Lib.hid fun W hW => r26_Part (hk.below hW) (hs.below hW) hr (by omega)
  have HCK : Hid (∀ W v1, Below w.heap.size w W → IntsS W v1 (pick_ og R) → Calls Try.prog 24 #[v1, kv, u] W fun e w' => e = .returned (.int .i64 (-1)) ∧ Below W.heap.size W w') := Lib.hid fun W v1 hW h1 => by
    have := r25_Check h1 (hk.below hW) (hu.below hW) (fun d hd => ho d (pick_sub hR d hd)) hkx (by rw [pick_len]; have := up_len hup hR; omega) hkl hg hgl
    rw [hc] at this
    exact this
  obtain ⟨A, cap, hve, -, -⟩ := h.form
  obtain ⟨sa, sc, hse, -, -⟩ := hs.form
  obtain ⟨ua, uc, hue, -, -⟩ := hu.form2
  obtain ⟨ia, ic, hie, -, -⟩ := hi.form2
  obtain ⟨ka, kc, hke, -, -⟩ := hk.form
  generalize og.length = ml at hve
  generalize xs.length = nl at hse
  generalize goal.length = gl at hue
  generalize (natI R).length = il at hie
  generalize ks.length = kl at hke
  subst hve hse hue hie hke
  clear h hs hu hi hk ho hl hl2 hg hgl hR hup hr hkx hkl hc
  go_enter Try.func32, Try.ntmps32
  go_wp2_with fail
  refine HSM.out.mono ?_
  rintro e w1 ⟨v1, rfl, h1, hb1⟩
  have HB1 := Lib.hid hb1
  have HS1 := Lib.hid h1.t.s
  obtain ⟨na, nc, nus, hne, -, -, -⟩ := h1.t
  generalize (pick_ og R).length = pl at hne
  subst hne
  have HPT1 := Lib.hid (HPT.out w1 hb1)
  clear h1 hb1
  go_wp2_with fail
  refine HPT1.out.mono ?_
  rintro e w2 ⟨rfl, hb2⟩
  have HB2 := Lib.hid (HB1.out.trans (hb2.mono HB1.out.size))
  have HCK1 := Lib.hid (HCK.out w2 _ HB2.out (HS1.out.below hb2))
  clear hb2
  go_wp2_with fail
  refine HCK1.out.mono ?_
  rintro e w3 ⟨rfl, hb3⟩
  have HB3 := Lib.hid (HB2.out.trans (hb3.mono HB2.out.size))
  clear hb3
  go_wp2
  go_ret
  exact ⟨rfl, HB3.out⟩
/-! ### TrimProofs -/
set_option maxHeartbeats 8000000 in
set_option maxRecDepth 100000 in
theorem claw_tproofs {w : World} {v s u : Value} {og : List (List Int)} {xs : List Stp} {goal : List Int} (h : IntsS w v og) (hs : StpS w s xs) (hu : Ints w u goal) :
    Calls Try.prog 8 #[v, s, u] w fun e w' => e = .returned (.bool true) ∧ Below w.heap.size w w' := by
  have HLG := Lib.hid (light_ h hs hu)
  obtain ⟨A, cap, hve, -, -⟩ := h.form
  obtain ⟨sa, sc, hse, -, -⟩ := hs.form
  obtain ⟨ua, uc, hue, -, -⟩ := hu.form2
  have HV := Lib.hid h
  have HS := Lib.hid hs
  have HU := Lib.hid hu
  obtain ⟨f1, hf1⟩ : ∃ f, f = lightB og xs goal := ⟨_, rfl⟩
  rw [← hf1] at HLG
  have HH1 := Lib.hid hf1
  generalize og.length = ml at hve
  generalize xs.length = nl at hse
  generalize goal.length = gl at hue
  subst hve hse hue
  clear h hs hu hf1
  go_enter Try.func8, Try.ntmps8
  go_wp2_with fail
  refine HLG.out.mono ?_
  rintro e w1 ⟨rfl, hb1⟩
  have HB1 := Lib.hid hb1
  clear hb1
  cases f1 with
  | false =>
    have HA := Lib.hid (alive26 w1)
    go_wp2_with fail
    refine HA.out.mono ?_
    rintro e w2 ⟨rfl, hb2⟩
    have H2 := Lib.hid (HB1.out.trans (hb2.mono HB1.out.size))
    clear hb2
    go_wp2
    go_ret
    exact ⟨rfl, H2.out⟩
  | true =>
    obtain ⟨o1, x1, o2, x2, g1, g2⟩ := light_yes HH1.out.symm
    have HOK : Hid ((∀ d ∈ og, Lit30s d ∧ d.length ≤ 1000000) ∧ (∀ x ∈ xs, okX x) ∧ og.length ≤ 100 ∧ xs.length ≤ 100 ∧ Lit30s goal ∧ goal.length ≤ 1000000) := Lib.hid ⟨o1, x1, o2, x2, g1, g2⟩
    have HPR := Lib.hid (trim_Proof (HV.out.below HB1.out) (HS.out.below HB1.out) (HU.out.below HB1.out) o1 x1 o2 x2 g1 g2)
    have HCK : Hid (∀ W, Below w.heap.size w W → Calls Try.prog 24 #[.slice A ml cap, .slice sa nl sc, .slice ua gl uc] W fun e w' => e = .returned (.int .i64 (chkD og xs goal)) ∧ Below W.heap.size W w') := Lib.hid fun W hW => r25_Check (HV.out.below hW) (HS.out.below hW) (HU.out.below hW) (fun d hd => (o1 d hd).1) x1 (by omega) (by omega) g1 g2
    clear o1 x1 o2 x2 g1 g2
    go_wp2_with fail
    refine HPR.out.mono ?_
    rintro e w2 ⟨uv, sv, rfl, hb2, hy, hno⟩
    have HB2 := Lib.hid (HB1.out.trans (hb2.mono HB1.out.size))
    obtain ⟨rb, hrb⟩ : ∃ rb, rb = w2.heap.size := ⟨_, rfl⟩
    by_cases hc : chkD og xs goal = -1
    · obtain ⟨hi, hst, hfin⟩ := hy hc
      rw [hc] at HCK ⊢
      have HC := Lib.hid hc
      obtain ⟨ia, ic, hiv, -, -⟩ := hi.form2
      obtain ⟨ka, kc, hsv, -, -⟩ := hst.form
      have HI := Lib.hid hi
      have HST := Lib.hid hst
      have HFIN := Lib.hid hfin
      generalize (natI (usedP og xs goal)).length = il at hiv
      generalize (keptP og xs goal).length = kl at hsv
      subst hiv hsv
      obtain ⟨wB, hwB⟩ : ∃ wB, wB = w2.alloc (.cells #[.slice ia il ic, .slice ka kl kc, .int .i64 (-1)] 60) := ⟨_, rfl⟩
      have hbB : Below w2.heap.size w2 wB := by rw [hwB]; exact below_new1 w2 _
      have hBk : Blk wB rb 60 #[.slice ia il ic, .slice ka kl kc, .int .i64 (-1)] := by rw [hwB, hrb]; exact Blk.new _ _ _
      have HBK := Lib.hid hBk
      have c2 : wB.cell? ⟨rb, 2, none⟩ = some (.int .i64 (-1)) := hBk.cell 2
      have HBB := Lib.hid (HB2.out.trans (hbB.mono HB2.out.size))
      have HB2B := Lib.hid hbB
      clear hy hno hc hi hst hfin hb2 hbB hBk
      go_wp2_with fail
      rw [← hrb, ← hwB]
      clear hwB hrb
      go_wp2
      go_region_held3 (fun w' => w'.cell? ⟨rb, 2, none⟩ = some (.int .i64 (-1))) (go_keep) (first
        | (go_at_call 24; refine (HCK.out _ (by first | exact HBB.out.drew | exact HBB.out)).mono ?_; rintro e w3 ⟨rfl, hb3⟩; have hb3 : Below wB.heap.size wB w3 := (by first | exact ((Below.refl _ wB).drew).trans hb3 | exact hb3); have HB3 := Lib.hid hb3; have c2 : w3.cell? ⟨rb, 2, none⟩ = some (.int .i64 (-1)) := (HBK.out.below hb3 HBK.out.lt).cell 2; clear hb3))
      clear c2
      have c0 : w3.cell? ⟨rb, 0, none⟩ = some (.slice ia il ic) := (HBK.out.below HB3.out HBK.out.lt).cell 0
      have c1 : w3.cell? ⟨rb, 1, none⟩ = some (.slice ka kl kc) := (HBK.out.below HB3.out HBK.out.lt).cell 1
      have c2 : w3.cell? ⟨rb, 2, none⟩ = some (.int .i64 (-1)) := (HBK.out.below HB3.out HBK.out.lt).cell 2
      have HW3 := Lib.hid (HBB.out.trans (HB3.out.mono HBB.out.size))
      obtain ⟨o1, x1, o2, x2, g1, g2⟩ := HOK.out
      obtain ⟨k1, k2⟩ := kept_ok HFIN.out x1
      have HRT := Lib.hid (r26_Right (HV.out.below HW3.out) (HS.out.below HW3.out) (HU.out.below HW3.out) ((HI.out.below HB2B.out).below HB3.out) ((HST.out.below HB2B.out).below HB3.out) (fun d hd => (o1 d hd).1) o2 x2 g1 g2 usedP_lt usedP_up (kept_rise HFIN.out) k1 (by omega) (trim_base HFIN.out fun i hi => pick_mem hi))
      clear o1 x1 o2 x2 g1 g2 k1 k2
      go_wp2_with fail
      refine HRT.out.mono ?_
      rintro e w4 ⟨rfl, hb4⟩
      have HW4 := Lib.hid (HW3.out.trans (hb4.mono HW3.out.size))
      have HA := Lib.hid (alive26 w4)
      clear hb4 c0 c1 c2
      go_wp2_with fail
      refine HA.out.mono ?_
      rintro e w5 ⟨rfl, hb5⟩
      have HW5 := Lib.hid (HW4.out.trans (hb5.mono HW4.out.size))
      clear hb5
      go_wp2
      go_ret
      exact ⟨rfl, HW5.out⟩
    · obtain ⟨rfl, rfl⟩ := hno hc
      obtain ⟨z, hz⟩ := chkD_nat hc
      rw [hz] at HCK ⊢
      obtain ⟨wB, hwB⟩ : ∃ wB, wB = w2.alloc (.cells #[.slice none 0 0, .slice none 0 0, .int .i64 (z : Nat)] 60) := ⟨_, rfl⟩
      have hbB : Below w2.heap.size w2 wB := by rw [hwB]; exact below_new1 w2 _
      have hBk : Blk wB rb 60 #[.slice none 0 0, .slice none 0 0, .int .i64 (z : Nat)] := by rw [hwB, hrb]; exact Blk.new _ _ _
      have HBK := Lib.hid hBk
      have c2 : wB.cell? ⟨rb, 2, none⟩ = some (.int .i64 (z : Nat)) := hBk.cell 2
      have HBB := Lib.hid (HB2.out.trans (hbB.mono HB2.out.size))
      clear hy hno hc hz hb2 hbB hBk
      go_wp2_with fail
      rw [← hrb, ← hwB]
      clear hwB hrb
      go_wp2
      go_region_held3 (fun w' => w'.cell? ⟨rb, 2, none⟩ = some (.int .i64 (z : Nat))) (go_keep) (first
        | (go_at_call 24; refine (HCK.out _ (by first | exact HBB.out.drew | exact HBB.out)).mono ?_; rintro e w3 ⟨rfl, hb3⟩; have hb3 : Below wB.heap.size wB w3 := (by first | exact ((Below.refl _ wB).drew).trans hb3 | exact hb3); have HB3 := Lib.hid hb3; have c2 : w3.cell? ⟨rb, 2, none⟩ = some (.int .i64 (z : Nat)) := (HBK.out.below hb3 HBK.out.lt).cell 2; clear hb3))
      clear c2
      have c0 : w3.cell? ⟨rb, 0, none⟩ = some (.slice none 0 0) := (HBK.out.below HB3.out HBK.out.lt).cell 0
      have c1 : w3.cell? ⟨rb, 1, none⟩ = some (.slice none 0 0) := (HBK.out.below HB3.out HBK.out.lt).cell 1
      have c2 : w3.cell? ⟨rb, 2, none⟩ = some (.int .i64 (z : Nat)) := (HBK.out.below HB3.out HBK.out.lt).cell 2
      have HW3 := Lib.hid (HBB.out.trans (HB3.out.mono HBB.out.size))
      have HA := Lib.hid (alive26 w3)
      have hzz : ((z : Int) != -1) = true := by rw [bne_iff_ne]; omega
      go_wp2_with fail
      refine HA.out.mono ?_
      rintro e w5 ⟨rfl, hb5⟩
      have HW5 := Lib.hid (HW3.out.trans (hb5.mono HW3.out.size))
      clear hb5 c0 c1 c2
      go_wp2
      go_ret
      exact ⟨rfl, HW5.out⟩
end Go.Proofs.Ytknpfopepedmmaa
