/-
  Chapter 22: the document's Closure, walked.
-/
import Derived.Test.YtkaklgjdmlddmaaWbA
import Derived.Test.YtkaklgjdmlddmaaWaX
namespace Go.Proofs.Ytkaklgjdmlddmaa
open Go.ChangeShapes Go.WideShapes Go.ChangeAt Go.RowKit
set_option linter.unusedVariables false
set_option linter.unusedSimpArgs false
attribute [local go_sem ↓] Go.wp_at_zero Go.wp_at_succ
theorem ints_src {w : World} {A : Option Addr} {n cap : Nat} {xs : List Int} (h : Ints w (.slice A n cap) xs) : Src w A 1 n (xs.map iv) := by
  obtain ⟨a, c, e, -, -, -, h3⟩ := h
  injection e with e1 e2 e3
  subst e1 e2
  refine ⟨by simp, fun h0 => ?_⟩
  have hne : xs ≠ [] := fun e => by rw [e] at h0; simp at h0
  obtain ⟨b, off, rfl, hc⟩ := h3.resolve_left hne
  refine ⟨b, off, rfl, fun j u hu => ?_⟩
  have hj : j < xs.length := by have := (List.getElem?_eq_some_iff.1 hu).1; simpa using this
  rw [hc j hj]
  simp [hj, iv] at hu
  rw [← hu]; simp [List.getD, hj]
/-- What Closure tells. -/
def CloQ (w : World) (og : List (List Int)) (st : List Int) (e : Ending) (w' : World) : Prop :=
  ∃ u out b, e = .returned (.tuple #[u, .bool b]) ∧ OwnI w w' u out ∧ Der og st out ∧ Con out ∧ (b = true → Closed og out) ∧ (b = false → ∃ k, k < og.length ∧ falR (og.getD k []) out = true)
def ClR (w : World) (og : List (List Int)) (st out0 : List Int) (k : Nat) (u more : Value) (wr : World) : Prop :=
  ∃ out b, more = .bool b ∧ OwnI w wr u out ∧ Der og st out ∧ Con out ∧ ((b = true ∧ out0.length < out.length) ∨ (b = false ∧ out = out0 ∧ ∀ j, j < k → falR (og.getD j []) out = false ∧ telR (og.getD j []) out = 0))
set_option maxHeartbeats 4000000 in
set_option maxRecDepth 100000 in
theorem r22_Closure {w : World} {v u : Value} {og : List (List Int)} {st : List Int} (hv : IntsS w v og) (h9 : ∀ k, k < og.length → C9 (og.getD k [])) (hn80 : og.length ≤ 80) (hu : Ints w u st) (hst : Con st) :
    Calls Try.prog 13 #[v, u] w (CloQ w og st) := by
  obtain ⟨a, cap, rfl, hc1, hc2⟩ := hv.form
  obtain ⟨ua, uc, rfl⟩ := ints_form hu
  obtain ⟨n, hn⟩ : ∃ n, n = og.length := ⟨_, rfl⟩
  obtain ⟨m, hm⟩ : ∃ m, m = st.length := ⟨_, rfl⟩
  rw [← hn] at hc1 hn80 ⊢
  rw [← hm] at hu ⊢
  have hm9 : m ≤ 9 := by rw [hm]; exact hst.len
  have HN := Lib.hid hn
  have HM := Lib.hid hm
  have HS := Lib.hid hv
  have H9 := Lib.hid h9
  have HST := Lib.hid hst
  have HSRC := Lib.hid ((ints_src hu).below (below_new1 w (.cells #[] 3)))
  have HNEW : Hid (OwnI w (w.alloc (.cells #[] 3)) (.slice (some ⟨w.heap.size, 0, none⟩) 0 0) []) := Lib.hid (OwnI.new (heap_new1 w _) (below_new1 w _) (Nat.le_refl _))
  clear hv hn hm hc1 hc2 h9 hu hst
  go_enter Try.func13, Try.ntmps13
  go_wp2_with (at_builtin; refine wpList_I (w := w) rfl _ _ rfl _ [] rfl ua m uc st rfl HM.out.symm (by simp; omega) HNEW.out HSRC.out ?_; intro v3 w3 h3; have H3 := Lib.hid h3; clear h3)
  go_loopg [4, 5, 6, 7, 8, 9] 30 (fun gk _ _ u more _ _ wr => ∃ out b, more = .bool b ∧ OwnI w wr u out ∧ Der og st out ∧ Con out ∧ (b = false → Closed og out) ∧ 2 * (10 - out.length) + (if b then 1 else 0) ≤ gk)
  case atStart => exact ⟨st, true, rfl, by have := H3.out; rwa [List.nil_append] at this, Der.refl _ _, HST.out, (fun h => by cases h), by simp; omega⟩
  case round =>
    obtain ⟨out0, b0, rfl, hO, hD, hC, hcl, hgk⟩ := hrel
    cases b0 with
    | false =>
      have HF : Hid (CloQ w og st (.returned (.tuple #[u6, .bool true])) wr) := Lib.hid ⟨u6, out0, true, rfl, hO, hD, hC, fun _ => hcl rfl, fun h => by cases h⟩
      clear hO hD hC hcl hgk
      go_wp2_with fail
      go_ret2
      exact HF.out
    | true =>
      have HC0 := Lib.hid hC
      have HI : Hid (ClR w og st out0 0 u6 (.bool false) wr) := Lib.hid ⟨out0, false, rfl, hO, hD, hC, .inr ⟨rfl, rfl, fun j hj => absurd hj (by omega)⟩⟩
      have hgk' : 2 * (10 - out0.length) + 1 ≤ gk := by simpa using hgk
      have HGK := Lib.hid hgk'
      obtain ⟨wo, rfl⟩ : ∃ wo : World, wo = wr := ⟨_, rfl⟩
      clear hO hD hC hcl hgk hgk'
      go_wp2_with fail
      go_loopw [4, 5, 6, 7, 8, 9] (fun _ _ u more i _ wr => ∃ k : Nat, k ≤ n ∧ i = .int .i64 k ∧ ClR w og st out0 k u more wr) (fun _ _ _ _ i _ _ => n - (intOf i).toNat)
      case atStart => exact ⟨0, Nat.zero_le _, rfl, HI.out⟩
      case round =>
        obtain ⟨k, hk, rfl, out, b, rfl, hO, hD, hC, hst⟩ := hrel
        by_cases hlt : (k : Int) < (n : Int)
        · have hkn : k < og.length := by have := HN.out; omega
          obtain ⟨bb, off, cap', cu, he, hcell, hint⟩ := HS.out.at_ hkn
          injection he with e1 e2 e3
          subst e1
          have hq := (hO.2.1.cell (p := ⟨bb, off + k, none⟩) (World.block_lt_of_cell? w _ hcell)).trans hcell
          obtain ⟨c, hc⟩ : ∃ c, c = og.getD k [] := ⟨_, rfl⟩
          rw [← hc] at hint
          have h9 := H9.out k hkn
          rw [← hc] at h9
          have hint2 := hint.below hO.2.1
          have hfa := r22_False hint2 hO.ints h9.li
          have hte := r22_Tells hint2 hO.ints h9.li
          obtain ⟨ca, cc, rfl⟩ := ints_form hint
          obtain ⟨cn, hcn⟩ : ∃ cn, cn = c.length := ⟨_, rfl⟩
          rw [← hcn] at hq hfa hte
          obtain ⟨oa, oc, hou, ho1, ho2⟩ := hO.form
          obtain ⟨ol, hol⟩ : ∃ ol, ol = out.length := ⟨_, rfl⟩
          rw [← hol] at hou
          subst hou
          obtain ⟨p, hp⟩ : ∃ p, p = falR c out := ⟨_, rfl⟩
          obtain ⟨x, hx⟩ : ∃ x, x = telR c out := ⟨_, rfl⟩
          rw [← hp] at hfa
          rw [← hx] at hte
          have hlen9 : ol ≤ 9 := by rw [hol]; exact hC.len
          have HFA := Lib.hid hfa
          have HTE := Lib.hid hte
          have HP := Lib.hid hp
          have HX := Lib.hid hx
          have HHO := Lib.hid hO
          have HHD := Lib.hid hD
          have HHC := Lib.hid hC
          have HHS := Lib.hid hst
          have HC := Lib.hid hc
          have HK := Lib.hid hkn
          have HOL := Lib.hid hol
          have HH9 := Lib.hid h9
          clear hfa hte hp hx hO hD hC hst hc hkn hol h9 hcell hint hint2 hcn e2 e3 ho1 ho2
          cases p with
          | true =>
            have HF : Hid (CloQ w og st (.returned (.tuple #[.slice oa ol oc, .bool false])) wr) := Lib.hid ⟨_, out, false, rfl, HHO.out, HHD.out, HHC.out, (fun h => by cases h), fun _ => ⟨k, HK.out, by rw [← HC.out]; exact HP.out.symm⟩⟩
            go_wp2_with ((go_at_call 35; refine (HFA.out).mono ?_; rintro e w' ⟨rfl, rfl⟩))
            try rw [Exit.noGoto_ret]
            go_ret2
            exact HF.out
          | false =>
            by_cases hx0 : x = 0
            · have b0 : (x != 0) = false := by rw [bne_eq_false_iff_eq]; exact hx0
              have HX0 := Lib.hid hx0
              clear hx0
              go_wp2_with (first | (go_at_call 35; refine (HFA.out).mono ?_; rintro e w' ⟨rfl, rfl⟩) | (go_at_call 36; refine (HTE.out).mono ?_; rintro e w' ⟨rfl, rfl⟩))
              go_roundw
              case rel =>
                refine ⟨k + 1, by omega, by go_num, out, b, rfl, HHO.out, HHD.out, HHC.out, ?_⟩
                rcases HHS.out with h | ⟨h1, h2, h3⟩
                · exact .inl h
                · refine .inr ⟨h1, h2, fun j hj => ?_⟩
                  rcases Nat.lt_or_ge j k with h | h
                  · exact h3 j h
                  · rw [show j = k by omega, ← HC.out]
                    exact ⟨HP.out.symm, HX.out.symm.trans HX0.out⟩
              case measure => simp [intOf]; omega
            · have b0 : (x != 0) = true := by rw [bne_iff_ne]; exact hx0
              have hne : telR c out ≠ 0 := by rw [← HX.out]; exact hx0
              have ht := tel_ne (fun y hy => (HH9.out.li y hy).1) hne
              have hcon := HHC.out.snoc (x := x) (by rw [HX.out]; exact HH9.out.li _ ht.1) (by rw [HX.out]; exact ht.2.1)
              have hder := HHD.out.snoc HK.out (by rw [← HC.out]; exact hne)
              rw [← HC.out, ← HX.out] at hder
              have HCON := Lib.hid hcon
              have HDER := Lib.hid hder
              clear hx0 hne ht hcon hder
              go_wp2_with (first | (go_at_call 35; refine (HFA.out).mono ?_; rintro e w' ⟨rfl, rfl⟩) | (go_at_call 36; refine (HTE.out).mono ?_; rintro e w' ⟨rfl, rfl⟩) | (at_builtin; refine wpList_I (w := w) rfl _ _ rfl _ out rfl (some ⟨wr.heap.size, 0, none⟩) 1 1 [x] rfl rfl (by have := HOL.out; omega) (by have h := HHO.out.below (below_new1 wr (.cells #[.int .i64 x] 3)); have e := HOL.out; rw [e]; rw [e] at h; exact h) (Src.one (heap_new1 _ _)) ?_; intro v4 w4 h4; have H4 := Lib.hid h4; clear h4))
              go_roundw
              case rel =>
                refine ⟨k + 1, by omega, by go_num, out ++ [x], true, rfl, H4.out, HDER.out, HCON.out, .inl ⟨rfl, ?_⟩⟩
                rw [List.length_append, List.length_singleton]
                rcases HHS.out with ⟨-, h⟩ | ⟨-, h, -⟩
                · omega
                · rw [h]; omega
              case measure => simp [intOf]; omega
        · obtain rfl : k = n := by omega
          have HO2 := Lib.hid hO
          have HD2 := Lib.hid hD
          have HC2 := Lib.hid hC
          have HS2 := Lib.hid hst
          have hl9 : out.length ≤ 9 := hC.len
          clear hO hD hC hst
          go_wp2_with fail
          go_roundg (2 * (10 - out.length) + (if b then 1 else 0))
          case measure =>
            have := HGK.out
            rcases HS2.out with ⟨rfl, h⟩ | ⟨rfl, h, -⟩
            · simp; omega
            · rw [h]; simp; omega
          case rel =>
            refine ⟨out, b, rfl, HO2.out, HD2.out, HC2.out, fun hb => ?_, Nat.le_refl _⟩
            rcases HS2.out with ⟨h, -⟩ | ⟨-, -, h⟩
            · rw [hb] at h; cases h
            · intro j hj; exact h j (by have := HN.out; omega)
end Go.Proofs.Ytkaklgjdmlddmaa
