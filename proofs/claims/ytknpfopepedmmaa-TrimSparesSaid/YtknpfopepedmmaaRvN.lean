/-
  The document's answer of chapter 22, walked: Value, False, Tells (of the texts of chapter 22, at literals of chapter 25); its Closure.
-/
import Derived.Test.YtknpfopepedmmaaEqI
import Derived.Deep.RegionWith
import Derived.Deep.RegionHeld3
import Derived.Deep.LoopGhost
import Derived.Test.YtknpfopepedmmaaRvF
namespace Go.Proofs.Ytknpfopepedmmaa
open Go.ChangeShapes Go.WideShapes Go.ChangeAt Go.RowKit
set_option linter.unusedVariables false
set_option linter.unusedSimpArgs false
attribute [local go_sem ↓] Go.wp_at_zero Go.wp_at_succ
theorem ints_form {w : World} {v : Value} {xs : List Int} (h : Ints w v xs) : ∃ a c, v = .slice a xs.length c := by
  obtain ⟨a, c, e, -⟩ := h
  exact ⟨a, c, e⟩
theorem Lit30s.at_ {c : List Int} (h : Lit30s c) {j : Nat} (hj : j < c.length) : lit30 (c.getD j 0) := h _ (by simp [List.getD, hj])
theorem r22_Value {w : World} {v : Value} {l : List Int} (h : Ints w v l) (x : Int) (hx : lit30 x) : Calls Try.prog 85 #[.int .i64 x, v] w fun e w' => e = .returned (.int .i64 (valR x l)) ∧ w = w' := by
  have h1 := r17_Has h x
  have h2 := r17_Has h (-x)
  obtain ⟨p, hp⟩ : ∃ p, p = l.contains x := ⟨_, rfl⟩
  obtain ⟨q, hq⟩ : ∃ q, q = l.contains (-x) := ⟨_, rfl⟩
  have e : valR x l = if p then 1 else if q then -1 else 0 := by unfold valR; rw [hp, hq]
  rw [← hp] at h1
  rw [← hq] at h2
  have E := Lib.hid e
  have H1 := Lib.hid h1
  have H2 := Lib.hid h2
  obtain ⟨x0, x1, x2⟩ := hx
  clear h1 h2 e hp hq h x0
  cases p
  · cases q
    · go_enter Try.func85, Try.ntmps85
      go_wp2_with fail
      refine H1.out.mono ?_
      rintro e w1 ⟨rfl, rfl⟩
      go_wp2_with ((go_at_call 72; refine (H2.out).mono ?_; rintro e w' ⟨rfl, rfl⟩))
      go_ret
      exact ⟨by rw [E.out]; rfl, rfl⟩
    · go_enter Try.func85, Try.ntmps85
      go_wp2_with fail
      refine H1.out.mono ?_
      rintro e w1 ⟨rfl, rfl⟩
      go_wp2_with ((go_at_call 72; refine (H2.out).mono ?_; rintro e w' ⟨rfl, rfl⟩))
      go_ret
      exact ⟨by rw [E.out]; rfl, rfl⟩
  · go_enter Try.func85, Try.ntmps85
    go_wp2_with fail
    refine H1.out.mono ?_
    rintro e w1 ⟨rfl, rfl⟩
    go_wp2_with fail
    go_ret
    exact ⟨by rw [E.out]; rfl, rfl⟩
set_option maxHeartbeats 1000000 in
theorem r22_False {w : World} {u v : Value} {c l : List Int} (hu : Ints w u c) (hi : Ints w v l) (h9 : Lit30s c) :
    Calls Try.prog 74 #[u, v] w fun e w' => e = .returned (.bool (falR c l)) ∧ w = w' := by
  obtain ⟨a, cap, rfl, -, hc1, hc2, hv⟩ := hu
  obtain ⟨ans, hans⟩ : ∃ b, b = falR c l := ⟨_, rfl⟩
  rw [← hans]
  obtain ⟨n, hn⟩ : ∃ n, n = c.length := ⟨_, rfl⟩
  rw [← hn] at hc1 ⊢
  have hm : n ≤ 9223372036854775807 := Nat.le_trans hc1 hc2
  have HA := Lib.hid hans
  have HN := Lib.hid hn
  have HV := Lib.hid hv
  have H9 := Lib.hid h9
  have HVA := Lib.hid (fun x hx => r22_Value hi x hx)
  clear hv hn hc1 hc2 hans h9 hi
  go_enter Try.func74, Try.ntmps74
  go_wp2
  go_loopw [5] (fun i wr => ∃ k : Nat, k ≤ n ∧ i = .int .i64 k ∧ (∀ j, j < k → decide (valR (c.getD j 0) l < 0) = true) ∧ wr = w) (fun i _ => n - (intOf i).toNat)
  case atStart => exact ⟨0, Nat.zero_le _, rfl, fun _ h => absurd h (by omega), rfl⟩
  case round =>
    obtain ⟨k, hk, rfl, hrel, rfl⟩ := hrel
    have HR := Lib.hid hrel
    clear hrel
    by_cases hlt : (k : Int) < (n : Int)
    · have hkn : k < c.length := by have := HN.out; omega
      obtain ⟨b, off, rfl, hcell⟩ := ints_cells HV.out hkn
      have q1 := hcell wr (Below.refl _ _)
      obtain ⟨y, hy⟩ : ∃ y, y = c.getD k 0 := ⟨_, rfl⟩
      obtain ⟨z, hz⟩ : ∃ z, z = valR y l := ⟨_, rfl⟩
      have hva := HVA.out y (by rw [hy]; exact H9.out.at_ hkn)
      rw [← hz] at hva
      rw [← hy] at q1
      have HY := Lib.hid hy
      have HZ := Lib.hid hz
      have HK := Lib.hid hkn
      have HC := Lib.hid hva
      clear hcell hkn hy hz hva
      by_cases hb : 0 ≤ z
      · have HF : Hid (ans = false) := Lib.hid (by
          rw [HA.out]; exact all_no' HK.out (by rw [← HY.out, ← HZ.out]; exact decide_eq_false (by omega)))
        go_wp2_with ((go_at_call 85; refine (HC.out).mono ?_; rintro e w' ⟨rfl, rfl⟩))
        go_ret
        exact ⟨by rw [HF.out]; rfl, rfl⟩
      · have hb' : z < 0 := by omega
        go_wp2_with ((go_at_call 85; refine (HC.out).mono ?_; rintro e w' ⟨rfl, rfl⟩))
        go_roundw
        case rel =>
          refine ⟨k + 1, by omega, by go_num, fun j hj => ?_, trivial⟩
          rcases Nat.lt_or_ge j k with h | h
          · exact HR.out j h
          · rw [show j = k by omega, ← HY.out, ← HZ.out]; exact decide_eq_true hb'
        case measure => simp [intOf]; omega
    · have HF : Hid (ans = true) := Lib.hid (by rw [HA.out]; exact all_yes' (n := k) (by have := HN.out; omega) HR.out)
      go_wp2
      go_ret
      exact ⟨by rw [HF.out]; rfl, rfl⟩
set_option maxHeartbeats 2000000 in
theorem r22_Tells {w : World} {u v : Value} {c l : List Int} (hu : Ints w u c) (hi : Ints w v l) (h9 : Lit30s c) :
    Calls Try.prog 75 #[u, v] w fun e w' => e = .returned (.int .i64 (telR c l)) ∧ w = w' := by
  obtain ⟨a, cap, rfl, -, hc1, hc2, hv⟩ := hu
  obtain ⟨ans, hans⟩ : ∃ b, b = telR c l := ⟨_, rfl⟩
  rw [← hans]
  obtain ⟨n, hn⟩ : ∃ n, n = c.length := ⟨_, rfl⟩
  rw [← hn] at hc1 ⊢
  have hm : n ≤ 9223372036854775807 := Nat.le_trans hc1 hc2
  have HA := Lib.hid hans
  have HN := Lib.hid hn
  have HV := Lib.hid hv
  have H9 := Lib.hid h9
  have HVA := Lib.hid (fun x hx => r22_Value hi x hx)
  clear hv hn hc1 hc2 hans h9 hi
  go_enter Try.func75, Try.ntmps75
  go_wp2
  go_loopw [5, 6] (fun lv i wr => ∃ k : Nat, ∃ m : Int, k ≤ n ∧ i = .int .i64 k ∧ lv = .int .i64 m ∧ telG l (c.drop k) m = ans ∧ wr = w) (fun _ i _ => n - (intOf i).toNat)
  case atStart => exact ⟨0, 0, Nat.zero_le _, rfl, rfl, by rw [List.drop_zero, HA.out]; rfl, rfl⟩
  case round =>
    obtain ⟨k, m, hk, rfl, rfl, hrel, rfl⟩ := hrel
    by_cases hlt : (k : Int) < (n : Int)
    · have hkn : k < c.length := by have := HN.out; omega
      obtain ⟨b, off, rfl, hcell⟩ := ints_cells HV.out hkn
      have q1 := hcell wr (Below.refl _ _)
      obtain ⟨y, hy⟩ : ∃ y, y = c.getD k 0 := ⟨_, rfl⟩
      obtain ⟨z, hz⟩ : ∃ z, z = valR y l := ⟨_, rfl⟩
      have hva := HVA.out y (by rw [hy]; exact H9.out.at_ hkn)
      rw [← hz] at hva
      rw [← hy] at q1
      have hd : c.drop k = y :: c.drop (k + 1) := by rw [hy, List.drop_eq_getElem_cons hkn]; simp [List.getD, hkn]
      rw [hd] at hrel
      replace hrel : (if z = 1 then 0 else if z = 0 then (if m ≠ 0 ∧ m ≠ y then 0 else telG l (c.drop (k + 1)) y) else telG l (c.drop (k + 1)) m) = ans := by rw [hz]; exact hrel
      have hzc := valR_cases y l
      rw [← hz] at hzc
      have HC := Lib.hid hva
      clear hcell hkn hy hz hva hd
      rcases hzc with rfl | rfl | rfl
      · rw [if_pos rfl] at hrel
        have HF := Lib.hid hrel
        clear hrel
        go_wp2_with ((go_at_call 85; refine (HC.out).mono ?_; rintro e w' ⟨rfl, rfl⟩))
        go_ret
        exact ⟨by rw [← HF.out]; rfl, rfl⟩
      · rw [if_neg (by omega), if_pos rfl] at hrel
        by_cases hm0 : m = 0
        · rw [if_neg (by omega)] at hrel
          subst hm0
          have HF := Lib.hid hrel
          clear hrel
          go_wp2_with ((go_at_call 85; refine (HC.out).mono ?_; rintro e w' ⟨rfl, rfl⟩))
          go_roundw
          case rel => exact ⟨k + 1, y, by omega, by go_num, rfl, HF.out, trivial⟩
          case measure => simp [intOf]; omega
        · have b0 : (m != 0) = true := by rw [bne_iff_ne]; exact hm0
          by_cases hmy : m = y
          · rw [if_neg (fun h => h.2 hmy)] at hrel
            have b1 : (m != y) = false := by rw [bne_eq_false_iff_eq]; exact hmy
            have HF := Lib.hid hrel
            clear hrel hmy hm0
            go_wp2_with ((go_at_call 85; refine (HC.out).mono ?_; rintro e w' ⟨rfl, rfl⟩))
            go_roundw
            case rel => exact ⟨k + 1, y, by omega, by go_num, rfl, HF.out, trivial⟩
            case measure => simp [intOf]; omega
          · rw [if_pos ⟨hm0, hmy⟩] at hrel
            have b1 : (m != y) = true := by rw [bne_iff_ne]; exact hmy
            have HF := Lib.hid hrel
            clear hrel hmy hm0
            go_wp2_with ((go_at_call 85; refine (HC.out).mono ?_; rintro e w' ⟨rfl, rfl⟩))
            go_ret
            exact ⟨by rw [← HF.out]; rfl, rfl⟩
      · rw [if_neg (by omega), if_neg (by omega)] at hrel
        have HF := Lib.hid hrel
        clear hrel
        go_wp2_with ((go_at_call 85; refine (HC.out).mono ?_; rintro e w' ⟨rfl, rfl⟩))
        go_roundw
        case rel => exact ⟨k + 1, m, by omega, by go_num, rfl, HF.out, trivial⟩
        case measure => simp [intOf]; omega
    · have HF : Hid (m = ans) := Lib.hid (by
        rw [List.drop_eq_nil_of_le (by have := HN.out; omega)] at hrel
        exact hrel)
      clear hrel
      go_wp2
      go_ret
      exact ⟨by rw [HF.out]; rfl, rfl⟩
theorem ints_src {w : World} {A : Option Addr} {n cap : Nat} {xs : List Int} (h : Ints w (.slice A n cap) xs) : Src w A 1 n (xs.map iv) := by
  obtain ⟨a, c, e, -, -, -, h3⟩ := h
  injection e with e1 e2 e3
  subst e1 e2
  refine ⟨by simp, fun h0 => ?_⟩
  have hne : xs ≠ [] := fun e => by rw [e] at h0; simp at h0
  obtain ⟨b, off, rfl, hc⟩ := h3.resolve_left hne
  refine ⟨b, off, rfl, fun j u hu => ?_⟩
  have hj : j < xs.length := by have := (List.getElem?_eq_some_iff.1 hu).1; simpa using this
  rw [hc j hj]
  simp [hj, iv] at hu
  rw [← hu]; simp [List.getD, hj]
/-- All of this follows: whatever is closed and has the ones has the others. -/
def Der (og : List (List Int)) (st out : List Int) : Prop := (∀ x ∈ st, x ∈ out) ∧ ∀ T, Con T → (∀ x ∈ st, x ∈ T) → ClosedM og T → ∀ x ∈ out, x ∈ T
theorem Der.refl (og : List (List Int)) (st : List Int) : Der og st st := ⟨fun _ h => h, fun T _ h _ => h⟩
theorem getD_memL {og : List (List Int)} {k : Nat} (hk : k < og.length) : og.getD k [] ∈ og := by rw [List.getD_eq_getElem?_getD, List.getElem?_eq_getElem hk]; exact List.getElem_mem hk
theorem Der.snoc {og : List (List Int)} {st out : List Int} (h : Der og st out) {k : Nat} (hk : k < og.length) (h0 : ∀ y ∈ og.getD k [], y ≠ 0) (hx : telR (og.getD k []) out ≠ 0) : Der og st (out ++ [telR (og.getD k []) out]) :=
  ⟨fun x hm => List.mem_append.2 (.inl (h.1 x hm)), fun T t1 t2 t3 x hm => by
    rcases List.mem_append.1 hm with hm | hm
    · exact h.2 T t1 t2 t3 x hm
    · rw [List.mem_singleton.1 hm]
      obtain ⟨a1, a2, a3⟩ := tel_ne h0 hx
      exact told_core h0 t1 (t3 _ (getD_memL hk)) a1 fun y hy hne => h.2 T t1 t2 t3 _ (val_m1 (a3 y hy hne)).2⟩
/-- What Closure tells. -/
def CloQ (w : World) (og : List (List Int)) (st : List Int) (e : Ending) (w' : World) : Prop :=
  ∃ u b, e = .returned (.tuple #[u, .bool b]) ∧ (b = true ↔ OpenM og st) ∧ Below w.heap.size w w'
theorem clo_yes {w w' : World} {og : List (List Int)} {st out : List Int} {u : Value} (hO : OwnI w w' u out) (hD : Der og st out) (hC : Con out) (hcl : ∀ k, k < og.length → falR (og.getD k []) out = false ∧ telR (og.getD k []) out = 0) : CloQ w og st (.returned (.tuple #[u, .bool true])) w' :=
  ⟨u, true, rfl, ⟨fun _ => ⟨out, hC, hD.1, fun c hc => by
    obtain ⟨i, hi, e⟩ := List.getElem_of_mem hc
    have := hcl i hi
    rw [List.getD_eq_getElem?_getD, List.getElem?_eq_getElem hi] at this
    rw [← e]; exact this⟩, fun _ => rfl⟩, hO.2.1⟩
theorem clo_no {w w' : World} {og : List (List Int)} {st out : List Int} {u : Value} (hO : OwnI w w' u out) (hD : Der og st out) {k : Nat} (hk : k < og.length) (hf : falR (og.getD k []) out = true) : CloQ w og st (.returned (.tuple #[u, .bool false])) w' :=
  ⟨u, false, rfl, ⟨fun h => (by cases h), fun ⟨T, t1, t2, t3⟩ => absurd (fun y hy => hD.2 T t1 t2 t3 _ (fal_iff.1 hf y hy).2) (not_false t1 (t3 _ (getD_memL hk)))⟩, hO.2.1⟩
def ClR (w : World) (og : List (List Int)) (st out0 : List Int) (k : Nat) (u more : Value) (wr : World) : Prop :=
  ∃ out b, more = .bool b ∧ OwnI w wr u out ∧ Der og st out ∧ Con out ∧ ((b = true ∧ out0.length < out.length) ∨ (b = false ∧ out = out0 ∧ ∀ j, j < k → falR (og.getD j []) out = false ∧ telR (og.getD j []) out = 0))
set_option maxHeartbeats 4000000 in
set_option maxRecDepth 100000 in
theorem r22_Closure {w : World} {v u : Value} {og : List (List Int)} {st : List Int} (hv : IntsS w v og) (h9 : ∀ k, k < og.length → Lit30s (og.getD k [])) (hn80 : og.length ≤ 1000000) (hu : Ints w u st) (hst : Con st) :
    Calls Try.prog 54 #[v, u] w (CloQ w og st) := by
  obtain ⟨a, cap, rfl, hc1, hc2⟩ := hv.form
  obtain ⟨ua, uc, rfl⟩ := ints_form hu
  obtain ⟨n, hn⟩ : ∃ n, n = og.length := ⟨_, rfl⟩
  obtain ⟨m, hm⟩ : ∃ m, m = st.length := ⟨_, rfl⟩
  rw [← hn] at hc1 hn80 ⊢
  rw [← hm] at hu ⊢
  have hm9 : m ≤ 1073741824 := by rw [hm]; exact hst.len
  have HN := Lib.hid hn
  have HM := Lib.hid hm
  have HS := Lib.hid hv
  have H9 := Lib.hid h9
  have HST := Lib.hid hst
  have HSRC := Lib.hid ((ints_src hu).below (below_new1 w (.cells #[] 3)))
  have HNEW : Hid (OwnI w (w.alloc (.cells #[] 3)) (.slice (some ⟨w.heap.size, 0, none⟩) 0 0) []) := Lib.hid (OwnI.new (heap_new1 w _) (below_new1 w _) (Nat.le_refl _))
  clear hv hn hm hc1 hc2 h9 hu hst
  go_enter Try.func54, Try.ntmps54
  go_wp2_with (at_builtin; refine wpList_I (w := w) rfl _ _ rfl _ [] rfl ua m uc st rfl HM.out.symm (by simp; omega) HNEW.out HSRC.out ?_; intro v3 w3 h3; have H3 := Lib.hid h3; clear h3)
  go_loopg [4, 5, 6, 7, 8, 9] 2147483651 (fun gk _ _ u more _ _ wr => ∃ out b, more = .bool b ∧ OwnI w wr u out ∧ Der og st out ∧ Con out ∧ (b = false → ∀ k, k < og.length → falR (og.getD k []) out = false ∧ telR (og.getD k []) out = 0) ∧ 2 * (1073741825 - out.length) + (if b then 1 else 0) ≤ gk)
  case atStart => exact ⟨st, true, rfl, by have := H3.out; rwa [List.nil_append] at this, Der.refl _ _, HST.out, (fun h => by cases h), by simp; omega⟩
  case round =>
    obtain ⟨out0, b0, rfl, hO, hD, hC, hcl, hgk⟩ := hrel
    cases b0 with
    | false =>
      have HF : Hid (CloQ w og st (.returned (.tuple #[u6, .bool true])) wr) := Lib.hid (clo_yes hO hD hC (hcl rfl))
      clear hO hD hC hcl hgk
      go_wp2_with fail
      go_ret2
      exact HF.out
    | true =>
      have HC0 := Lib.hid hC
      have HI : Hid (ClR w og st out0 0 u6 (.bool false) wr) := Lib.hid ⟨out0, false, rfl, hO, hD, hC, .inr ⟨rfl, rfl, fun j hj => absurd hj (by omega)⟩⟩
      have hgk' : 2 * (1073741825 - out0.length) + 1 ≤ gk := by simpa using hgk
      have HGK := Lib.hid hgk'
      obtain ⟨wo, rfl⟩ : ∃ wo : World, wo = wr := ⟨_, rfl⟩
      clear hO hD hC hcl hgk hgk'
      go_wp2_with fail
      go_loopw [4, 5, 6, 7, 8, 9] (fun _ _ u more i _ wr => ∃ k : Nat, k ≤ n ∧ i = .int .i64 k ∧ ClR w og st out0 k u more wr) (fun _ _ _ _ i _ _ => n - (intOf i).toNat)
      case atStart => exact ⟨0, Nat.zero_le _, rfl, HI.out⟩
      case round =>
        obtain ⟨k, hk, rfl, out, b, rfl, hO, hD, hC, hst⟩ := hrel
        by_cases hlt : (k : Int) < (n : Int)
        · have hkn : k < og.length := by have := HN.out; omega
          obtain ⟨bb, off, cap', cu, he, hcell, hint⟩ := HS.out.at_ hkn
          injection he with e1 e2 e3
          subst e1
          have hq := (hO.2.1.cell (p := ⟨bb, off + k, none⟩) (World.block_lt_of_cell? w _ hcell)).trans hcell
          obtain ⟨c, hc⟩ : ∃ c, c = og.getD k [] := ⟨_, rfl⟩
          rw [← hc] at hint
          have h9 := H9.out k hkn
          rw [← hc] at h9
          have hint2 := hint.below hO.2.1
          have hfa := r22_False hint2 hO.ints h9
          have hte := r22_Tells hint2 hO.ints h9
          obtain ⟨ca, cc, rfl⟩ := ints_form hint
          obtain ⟨cn, hcn⟩ : ∃ cn, cn = c.length := ⟨_, rfl⟩
          rw [← hcn] at hq hfa hte
          obtain ⟨oa, oc, hou, ho1, ho2⟩ := hO.form
          obtain ⟨ol, hol⟩ : ∃ ol, ol = out.length := ⟨_, rfl⟩
          rw [← hol] at hou
          subst hou
          obtain ⟨p, hp⟩ : ∃ p, p = falR c out := ⟨_, rfl⟩
          obtain ⟨x, hx⟩ : ∃ x, x = telR c out := ⟨_, rfl⟩
          rw [← hp] at hfa
          rw [← hx] at hte
          have hlen9 : ol ≤ 1073741824 := by rw [hol]; exact hC.len
          have HFA := Lib.hid hfa
          have HTE := Lib.hid hte
          have HP := Lib.hid hp
          have HX := Lib.hid hx
          have HHO := Lib.hid hO
          have HHD := Lib.hid hD
          have HHC := Lib.hid hC
          have HHS := Lib.hid hst
          have HC := Lib.hid hc
          have HK := Lib.hid hkn
          have HOL := Lib.hid hol
          have HH9 := Lib.hid h9
          clear hfa hte hp hx hO hD hC hst hc hkn hol h9 hcell hint hint2 hcn e2 e3 ho1 ho2
          cases p with
          | true =>
            have HF : Hid (CloQ w og st (.returned (.tuple #[.slice oa ol oc, .bool false])) wr) := Lib.hid (clo_no HHO.out HHD.out HK.out (by rw [← HC.out]; exact HP.out.symm))
            go_wp2_with ((go_at_call 74; refine (HFA.out).mono ?_; rintro e w' ⟨rfl, rfl⟩))
            try rw [Exit.noGoto_ret]
            go_ret2
            exact HF.out
          | false =>
            by_cases hx0 : x = 0
            · have b0 : (x != 0) = false := by rw [bne_eq_false_iff_eq]; exact hx0
              have HX0 := Lib.hid hx0
              clear hx0
              go_wp2_with (first | (go_at_call 74; refine (HFA.out).mono ?_; rintro e w' ⟨rfl, rfl⟩) | (go_at_call 75; refine (HTE.out).mono ?_; rintro e w' ⟨rfl, rfl⟩))
              go_roundw
              case rel =>
                refine ⟨k + 1, by omega, by go_num, out, b, rfl, HHO.out, HHD.out, HHC.out, ?_⟩
                rcases HHS.out with h | ⟨h1, h2, h3⟩
                · exact .inl h
                · refine .inr ⟨h1, h2, fun j hj => ?_⟩
                  rcases Nat.lt_or_ge j k with h | h
                  · exact h3 j h
                  · rw [show j = k by omega, ← HC.out]
                    exact ⟨HP.out.symm, HX.out.symm.trans HX0.out⟩
              case measure => simp [intOf]; omega
            · have b0 : (x != 0) = true := by rw [bne_iff_ne]; exact hx0
              have hne : telR c out ≠ 0 := by rw [← HX.out]; exact hx0
              have ht := tel_ne (fun y hy => (HH9.out y hy).1) hne
              have hcon := HHC.out.snoc (x := x) (by rw [HX.out]; exact HH9.out _ ht.1) (by rw [HX.out]; exact ht.2.1)
              have hder := HHD.out.snoc HK.out (by rw [← HC.out]; exact fun y hy => (HH9.out y hy).1) (by rw [← HC.out]; exact hne)
              rw [← HC.out, ← HX.out] at hder
              have HCON := Lib.hid hcon
              have HDER := Lib.hid hder
              clear hx0 hne ht hcon hder
              go_wp2_with (first | (go_at_call 74; refine (HFA.out).mono ?_; rintro e w' ⟨rfl, rfl⟩) | (go_at_call 75; refine (HTE.out).mono ?_; rintro e w' ⟨rfl, rfl⟩) | (at_builtin; refine wpList_I (w := w) rfl _ _ rfl _ out rfl (some ⟨wr.heap.size, 0, none⟩) 1 1 [x] rfl rfl (by have := HOL.out; omega) (by have h := HHO.out.below (below_new1 wr (.cells #[.int .i64 x] 3)); have e := HOL.out; rw [e]; rw [e] at h; exact h) (Src.one (heap_new1 _ _)) ?_; intro v4 w4 h4; have H4 := Lib.hid h4; clear h4))
              go_roundw
              case rel =>
                refine ⟨k + 1, by omega, by go_num, out ++ [x], true, rfl, H4.out, HDER.out, HCON.out, .inl ⟨rfl, ?_⟩⟩
                rw [List.length_append, List.length_singleton]
                rcases HHS.out with ⟨-, h⟩ | ⟨-, h, -⟩
                · omega
                · rw [h]; omega
              case measure => simp [intOf]; omega
        · obtain rfl : k = n := by omega
          have HO2 := Lib.hid hO
          have HD2 := Lib.hid hD
          have HC2 := Lib.hid hC
          have HS2 := Lib.hid hst
          have hl9 : out.length ≤ 1073741824 := hC.len
          clear hO hD hC hst
          go_wp2_with fail
          go_roundg (2 * (1073741825 - out.length) + (if b then 1 else 0))
          case measure =>
            have := HGK.out
            rcases HS2.out with ⟨rfl, h⟩ | ⟨rfl, h, -⟩
            · simp; omega
            · rw [h]; simp; omega
          case rel =>
            refine ⟨out, b, rfl, HO2.out, HD2.out, HC2.out, fun hb => ?_, Nat.le_refl _⟩
            rcases HS2.out with ⟨h, -⟩ | ⟨-, -, h⟩
            · rw [hb] at h; cases h
            · intro j hj; exact h j (by have := HN.out; omega)
end Go.Proofs.Ytknpfopepedmmaa
/-
  The document's answer of chapter 23, walked: Negated, Implied.
-/
namespace Go.Proofs.Ytknpfopepedmmaa
open Go.ChangeShapes Go.WideShapes Go.ChangeAt Go.RowKit
set_option linter.unusedVariables false
set_option linter.unusedSimpArgs false
def negC (c : List Int) : List Int := c.map fun y => -y
set_option maxHeartbeats 1000000 in
theorem r23_Negated {w : World} {v : Value} {c : List Int} (h : Ints w v c) (h30 : Lit30s c) (hlen : c.length ≤ 1000000) :
    Calls Try.prog 53 #[v] w fun e w' => ∃ u, e = .returned u ∧ OwnI w w' u (negC c) := by
  obtain ⟨a, cap, hv, hc1, hc2⟩ := h.form2
  obtain ⟨n, hn⟩ : ∃ n, n = c.length := ⟨_, rfl⟩
  rw [← hn] at hv hlen
  subst hv
  have HV := Lib.hid h
  have HN := Lib.hid hn
  have H30 := Lib.hid h30
  clear h hn h30 hc1 hc2
  go_enter Try.func53, Try.ntmps53
  go_wp2
  go_loopw [3, 4] (fun out i wr => ∃ k : Nat, k ≤ n ∧ i = .int .i64 (k : Nat) ∧ OwnI w wr out (negC (c.take k))) (fun _ i _ => n - (intOf i).toNat)
  case atStart => exact ⟨0, Nat.zero_le _, rfl, OwnI.start w⟩
  case round =>
    obtain ⟨k, hk, rfl, hO⟩ := hrel
    have HO := Lib.hid hO
    by_cases hlt : (k : Int) < (n : Int)
    · have hkn : k < c.length := by have := HN.out; omega
      obtain ⟨b, off, cap2, hv, q1⟩ := (HV.out.below hO.2.1).at2 hkn
      injection hv with e1 e2 e3
      subst e1
      obtain ⟨x, hx⟩ : ∃ x, x = c.getD k 0 := ⟨_, rfl⟩
      rw [← hx] at q1
      have hx30 : lit30 x := by rw [hx]; exact H30.out.at_ hkn
      have hw : IntKind.i64.wrap (-x) = -x := IntWalk.i64_in _ (by obtain ⟨a, b, c⟩ := hx30; omega)
      have hs : negC (c.take (k + 1)) = negC (c.take k) ++ [-x] := by
        unfold negC
        rw [List.take_succ_eq_append_getElem hkn, List.map_append, hx, List.getD_eq_getElem?_getD, List.getElem?_eq_getElem hkn]; rfl
      have HS := Lib.hid hs
      obtain ⟨out, hout⟩ : ∃ out, out = negC (c.take k) := ⟨_, rfl⟩
      rw [← hout] at HO HS
      have hol : out.length = k := by rw [hout]; unfold negC; rw [List.length_map, List.length_take]; omega
      have HOL := Lib.hid hol
      clear e2 e3 hO hx hx30 hs hout hol hkn
      go_wp2_with (at_builtin; refine wpList_I (w := w) rfl _ _ rfl _ out rfl (some ⟨wr.heap.size, 0, none⟩) 1 1 [-x] rfl rfl (by have := HOL.out; omega) (HO.out.below (below_new1 wr (.cells #[.int .i64 (-x)] 3))) (Src.one (heap_new1 _ _)) ?_; intro v4 w4 h4; have H4 := Lib.hid h4; clear h4)
      go_roundw
      case rel => exact ⟨k + 1, by omega, by go_num, by rw [HS.out]; exact H4.out⟩
      case measure => simp [intOf]; omega
    · have HF : Hid (negC (c.take k) = negC c) := Lib.hid (by rw [List.take_of_length_le (by have := HN.out; omega)])
      clear hO
      go_wp2
      go_ret
      exact ⟨_, rfl, by rw [← HF.out]; exact HO.out⟩
/-- Can clauses be closed with a clause's literals the other way? -/
def OpenN (og : List (List Int)) (c : List Int) : Prop := ∃ T, Con T ∧ (∀ y ∈ c, -y ∈ T) ∧ ClosedM og T
theorem mem_negC {c : List Int} {x : Int} : x ∈ negC c ↔ -x ∈ c := by
  unfold negC
  rw [List.mem_map]
  exact ⟨fun ⟨y, hy, e⟩ => by rw [← e, Int.neg_neg]; exact hy, fun h => ⟨-x, h, by omega⟩⟩
theorem lits_negC {c : List Int} (h : Lit30s c) : Lit30s (negC c) := fun x hx => by
  obtain ⟨a, b, d⟩ := h _ (mem_negC.1 hx)
  exact ⟨by omega, by omega, by omega⟩
theorem unfine_openN {og : List (List Int)} {c : List Int} (h : fineC c = false) : ¬ OpenN og c := fun ⟨T, t1, t2, _⟩ => by
  unfold fineC at h
  obtain ⟨a, ha, hn⟩ := List.all_eq_false.1 h
  have hn : -a ∈ c := by simpa using hn
  have h1 := t2 a ha
  have h2 := t2 (-a) hn
  rw [Int.neg_neg] at h2
  exact t1.co a h2 h1
theorem openN_norm {og : List (List Int)} {c : List Int} : OpenM og (normC (negC c)) ↔ OpenN og c := by
  constructor
  · rintro ⟨T, t1, t2, t3⟩
    exact ⟨T, t1, fun y hy => t2 _ ((mem_normC _ _).2 (mem_negC.2 (by rw [Int.neg_neg]; exact hy))), t3⟩
  · rintro ⟨T, t1, t2, t3⟩
    exact ⟨T, t1, fun x hx => by have := t2 _ (mem_negC.1 ((mem_normC _ _).1 hx)); rwa [Int.neg_neg] at this, t3⟩
theorem con_norm {c : List Int} (h : Lit30s c) (hf : fineC c = true) : Con (normC (negC c)) :=
  ⟨fun x hx => lits_negC h x ((mem_normC _ _).1 hx), (strict_normC _).imp fun {a b} h e => by rw [e] at h; omega, fun x hx hn => by
    have h1 := mem_negC.1 ((mem_normC _ _).1 hx)
    have h2 := mem_negC.1 ((mem_normC _ _).1 hn)
    exact fine_co hf _ h1 h2⟩
theorem clause30 {c : List Int} (h : Lit30s c) : ClauseL c := fun x hx => by
  obtain ⟨a, b, d⟩ := h x hx
  exact ⟨a, by omega, by omega⟩
set_option maxHeartbeats 2000000 in
set_option maxRecDepth 100000 in
theorem r23_Implied {w : World} {v u : Value} {og : List (List Int)} {c : List Int} (hv : IntsS w v og) (h9 : ∀ d ∈ og, Lit30s d) (hn80 : og.length ≤ 1000000) (hu : Ints w u c) (h30 : Lit30s c) (hlen : c.length ≤ 1000000) :
    Calls Try.prog 19 #[v, u] w fun e w' => ∃ b, e = .returned (.bool b) ∧ (b = true ↔ ¬ OpenN og c) ∧ Below w.heap.size w w' := by
  have HNG := Lib.hid (r23_Negated hu h30 hlen)
  obtain ⟨a, cap, hve, -, -⟩ := hv.form
  obtain ⟨n, hn⟩ : ∃ n, n = og.length := ⟨_, rfl⟩
  obtain ⟨ua, uc, hue, -, -⟩ := hu.form2
  obtain ⟨m, hm⟩ : ∃ m, m = c.length := ⟨_, rfl⟩
  have HV := Lib.hid hv
  have H9 := Lib.hid h9
  have H80 := Lib.hid hn80
  have HU := Lib.hid hu
  have H30 := Lib.hid h30
  have HL := Lib.hid hlen
  obtain ⟨fc, hfc⟩ : ∃ fc, fc = fineC c := ⟨_, rfl⟩
  have HFC := Lib.hid hfc
  rw [← hn] at hve
  rw [← hm] at hue
  subst hve hue
  clear hv h9 hn80 hu h30 hlen hn hm hfc
  go_enter Try.func19, Try.ntmps19
  go_wp2_with fail
  refine HNG.out.mono ?_
  rintro e w1 ⟨u1, rfl, h1⟩
  have HN1 := Lib.hid (r17_Norm h1.ints (clause30 (lits_negC H30.out)) (by unfold negC; rw [List.length_map]; exact HL.out))
  have HB1 := Lib.hid h1.2.1
  obtain ⟨xa, xc, hx, -, -⟩ := h1.ints.form2
  obtain ⟨xl, hxl⟩ : ∃ xl, xl = (negC c).length := ⟨_, rfl⟩
  rw [← hxl] at hx
  subst hx
  clear h1 hxl
  go_wp2_with fail
  refine HN1.out.mono ?_
  rintro e w2 ⟨u2, rfl, h2⟩
  have h2 : OwnI w1 w2 u2 (normC (negC c)) := h2
  have hb2 := HB1.out.trans (h2.2.1.mono HB1.out.size)
  have HN2 := Lib.hid (r17_Norm (HU.out.below hb2) (clause30 H30.out) HL.out)
  rw [← HFC.out] at HN2
  have HO2 := Lib.hid h2
  have HB2 := Lib.hid hb2
  obtain ⟨ya, yc, hy, -, -⟩ := h2.ints.form2
  obtain ⟨yl, hyl⟩ : ∃ yl, yl = (normC (negC c)).length := ⟨_, rfl⟩
  rw [← hyl] at hy
  subst hy
  generalize fineC (negC c) = fz at *
  clear h2 hb2 hyl
  go_wp2_with fail
  refine HN2.out.mono ?_
  rintro e w3 ⟨u3, rfl, h3⟩
  have h3 : OwnI w2 w3 u3 (normC c) := h3
  have HB3 := Lib.hid (HB2.out.trans (h3.2.1.mono HB2.out.size))
  have HO3 := Lib.hid (HO2.out.below h3.2.1)
  obtain ⟨za, zc, hz, -, -⟩ := h3.ints.form2
  generalize (normC c).length = zl at hz
  subst hz
  clear h3
  cases fc with
  | false =>
    have HF : Hid (¬ OpenN og c) := Lib.hid (unfine_openN HFC.out.symm)
    go_wp2
    go_ret
    exact ⟨true, rfl, ⟨fun _ => HF.out, fun _ => rfl⟩, HB3.out⟩
  | true =>
    have HCL := Lib.hid (r22_Closure (HV.out.below HB3.out) (fun k hk => H9.out _ (getD_memL hk)) H80.out HO3.out.ints (con_norm H30.out HFC.out.symm))
    go_wp2_with fail
    refine HCL.out.mono ?_
    rintro e w4 ⟨u4, b, rfl, hb, hb4⟩
    have HF : Hid ((!b) = true ↔ ¬ OpenN og c) := Lib.hid (by rw [← openN_norm, ← hb]; cases b <;> simp)
    have HB4 := Lib.hid (HB3.out.trans (hb4.mono HB3.out.size))
    clear hb hb4
    go_wp2
    go_ret
    exact ⟨_, rfl, HF.out, HB4.out⟩
end Go.Proofs.Ytknpfopepedmmaa
