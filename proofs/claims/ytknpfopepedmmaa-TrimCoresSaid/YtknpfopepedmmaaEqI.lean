/-
  The same numbers: the document's, package slices' Equal (of the texts of chapter 37, at numbers that are read). General.
-/
import Derived.Test.YtknpfopepedmmaaRuC
import Derived.Test.YtknpfopepedmmaaRuK
namespace Go.Proofs.Ytknpfopepedmmaa
open Go.ChangeShapes Go.WideShapes Go.ChangeAt Go.RowKit
set_option linter.unusedVariables false
set_option linter.unusedSimpArgs false
theorem Ints.form2 {w : World} {v : Value} {xs : List Int} (h : Ints w v xs) : ∃ a cap, v = .slice a xs.length cap ∧ xs.length ≤ cap ∧ cap ≤ maxLen := by
  obtain ⟨a, cap, e, -, h1, h2, -⟩ := h
  exact ⟨a, cap, e, h1, h2⟩
theorem Ints.at2 {w : World} {v : Value} {xs : List Int} (h : Ints w v xs) {k : Nat} (hk : k < xs.length) : ∃ b off cap, v = .slice (some ⟨b, off, none⟩) xs.length cap ∧ w.cell? ⟨b, off + k, none⟩ = some (.int .i64 (xs.getD k 0)) := by
  obtain ⟨a, cap, e, -, -, -, h3⟩ := h
  obtain ⟨b, off, h4, h5⟩ := h3.resolve_left (fun e => by rw [e] at hk; simp at hk)
  exact ⟨b, off, cap, by rw [e, h4], h5 k hk⟩
theorem ext_D {α : Type} (d : α) {xs ys : List α} (hl : xs.length = ys.length) (h : ∀ j, j < xs.length → xs.getD j d = ys.getD j d) : xs = ys := by
  apply List.ext_getElem hl
  intro i h1 h2
  have := h i h1
  simpa [List.getD, h1, h2] using this
/-- Before round k of a comparison. -/
def SameK {α : Type} (d : α) (xs ys : List α) (k : Nat) : Prop := ∀ j, j < k → xs.getD j d = ys.getD j d
theorem SameK.step {α : Type} {d : α} {xs ys : List α} {k : Nat} (h : SameK d xs ys k) (he : xs.getD k d = ys.getD k d) : SameK d xs ys (k + 1) := fun j hj => by
  rcases Nat.lt_or_ge j k with h1 | h1
  · exact h j h1
  · rw [show j = k by omega]; exact he
def SamR {α : Type} (d : α) (xs ys : List α) (k : Nat) (w wr : World) : Prop := SameK d xs ys k ∧ Quiet w wr
theorem eq_I_len {w : World} {v u : Value} {xs ys : List (Int)} (h : Ints w v xs) (g : Ints w u ys) (hn : xs.length ≠ ys.length) : Calls Try.prog 41 #[v, u] w fun e w' => e = .returned (.bool (decide (xs = ys))) ∧ w = w' := by
  obtain ⟨a, cap, rfl, -, -⟩ := h.form2
  obtain ⟨b, cap2, rfl, -, -⟩ := g.form2
  have hs : decide (xs = ys) = false := decide_eq_false fun e => hn (by rw [e])
  have hb : ((xs.length : Int) != (ys.length : Int)) = true := by rw [bne_iff_ne]; omega
  rw [hs]
  clear h g hn hs
  go_enter Try.func41, Try.ntmps41
  go_wp2
  go_ret
  exact ⟨rfl, rfl⟩
set_option maxHeartbeats 1000000 in
theorem eq_I {w : World} {v u : Value} {xs ys : List (Int)} (h : Ints w v xs) (g : Ints w u ys) : Calls Try.prog 41 #[v, u] w fun e w' => e = .returned (.bool (decide (xs = ys))) ∧ Quiet w w' := by
  by_cases hl : xs.length = ys.length
  · obtain ⟨a, cap, hv, hc1, hc2⟩ := h.form2
    obtain ⟨b, cap2, hu, -, -⟩ := g.form2
    subst hv hu
    obtain ⟨n, hn⟩ : ∃ n, n = xs.length := ⟨_, rfl⟩
    obtain ⟨ans, hans⟩ : ∃ ans, ans = decide (xs = ys) := ⟨_, rfl⟩
    have hm : n ≤ 9223372036854775807 := by rw [hn]; exact Nat.le_trans hc1 hc2
    rw [← hl, ← hn, ← hans]
    have HN := Lib.hid hn
    have HL := Lib.hid hl
    have HA := Lib.hid hans
    have H := Lib.hid h
    have G := Lib.hid g
    clear hc1 hc2 hn hans hl h g
    go_enter Try.func41, Try.ntmps41
    go_wp2
    go_loopw [13] (fun i wr => ∃ k : Nat, k ≤ n ∧ i = .int .i64 k ∧ SamR 0 xs ys k w wr) (fun i _ => n - (intOf i).toNat)
    case atStart => exact ⟨0, Nat.zero_le _, rfl, fun _ h => absurd h (by omega), 0, rfl⟩
    case round =>
      obtain ⟨k, hk, rfl, hsr⟩ := hrel
      obtain ⟨hsk, hq⟩ := hsr
      have HQ := Lib.hid hq
      by_cases hlt : (k : Int) < (n : Int)
      · have hkx : k < xs.length := by have := HN.out; omega
        have hky : k < ys.length := by have := HL.out; omega
        obtain ⟨b1, o1, p1, he1, hx⟩ := H.out.at2 hkx
        obtain ⟨b2, o2, p2, he2, hy⟩ := G.out.at2 hky
        injection he1 with e1 e2 e3
        subst e1
        injection he2 with e4 e5 e6
        subst e4
        have hx := cellB hx hq.below
        have hy := cellB hy hq.below
        have HS := Lib.hid hsk
        have HNO : Hid (xs.getD k 0 ≠ ys.getD k 0 → ans = false) := Lib.hid fun h => by rw [HA.out]; exact decide_eq_false fun e => h (by rw [e])
        have HYES : Hid (xs.getD k 0 = ys.getD k 0 → SameK 0 xs ys (k + 1)) := Lib.hid fun h => HS.out.step h
        generalize xs.getD k 0 = x at hx hy HNO HYES
        generalize ys.getD k 0 = y at hx hy HNO HYES
        clear e2 e3 e5 e6 hsk hq
        by_cases hxy : x = y
        · subst hxy
          have HY := Lib.hid (HYES.out rfl)
          have hb : (x != x) = false := by simp
          clear HYES HNO
          go_wp2
          go_quiet (fail)
          go_wp2
          go_roundw
          case rel => exact ⟨k + 1, by omega, by go_num, HY.out, by obtain ⟨m, hm⟩ := HQ.out; subst hm; exact ⟨_, World.drewN_drewN _ _ _⟩⟩
          case measure => simp [intOf]; omega
        · have HX := Lib.hid (HNO.out hxy)
          have hb : (x != y) = true := by rw [bne_iff_ne]; exact hxy
          have hb' : (x == y) = false := by rw [beq_eq_false_iff_ne]; exact hxy
          clear HYES HNO hxy
          go_wp2
          go_quiet (fail)
          go_wp2
          go_ret
          refine ⟨by rw [HX.out]; rfl, ?_⟩
          obtain ⟨m, hm⟩ := HQ.out
          subst hm
          exact ⟨_, World.drewN_drewN _ _ _⟩
      · have hkn : k = n := by omega
        have HX : Hid (ans = true) := Lib.hid (by rw [HA.out]; exact decide_eq_true (ext_D 0 HL.out (fun j hj => hsk j (by have := HN.out; omega))))
        clear hsk hq hkn
        go_wp2
        go_ret
        exact ⟨by rw [HX.out]; rfl, HQ.out⟩
  · exact (eq_I_len h g hl).mono fun e w' ⟨h1, h2⟩ => ⟨h1, 0, h2.symm⟩
end Go.Proofs.Ytknpfopepedmmaa
/-
  The document's Fine of chapter 25, walked.
-/
namespace Go.Proofs.Ytknpfopepedmmaa
open Go Go.ChangeShapes Go.WideShapes Go.ChangeAt Go.RowKit Go.Maps
set_option linter.unusedVariables false
set_option linter.unusedSimpArgs false
def litB (x : Int) : Bool := !(decide (x = 0) || decide (x < -1073741824) || decide (1073741824 < x))
def okC (c : List Int) : Bool := decide (c.length ≤ 30) && c.all litB
def fineR (xss : List (List Int)) : Bool := decide (xss.length ≤ 100) && xss.all okC
theorem litB_iff {x : Int} : litB x = true ↔ lit30 x := by
  unfold litB lit30
  simp only [Bool.not_eq_true', Bool.or_eq_false_iff, decide_eq_false_iff_not]
  omega
theorem okC_lits {c : List Int} (h : okC c = true) : Lit30s c ∧ c.length ≤ 30 := by
  unfold okC at h
  rw [Bool.and_eq_true, decide_eq_true_eq, List.all_eq_true] at h
  exact ⟨fun x hx => litB_iff.1 (h.2 x hx), h.1⟩
theorem all_no {α : Type} {f : α → Bool} {l : List α} {d : α} {k : Nat} (hk : k < l.length) (h : f (l.getD k d) = false) : l.all f = false := by
  rw [List.all_eq_false]
  refine ⟨l[k], List.getElem_mem hk, ?_⟩
  rw [List.getD_eq_getElem?_getD, List.getElem?_eq_getElem hk] at h
  simpa using h
theorem all_yes {α : Type} {f : α → Bool} {l : List α} {d : α} (h : ∀ j, j < l.length → f (l.getD j d) = true) : l.all f = true := by
  rw [List.all_eq_true]
  intro x hx
  obtain ⟨i, hi, e⟩ := List.getElem_of_mem hx
  have := h i hi
  rw [List.getD_eq_getElem?_getD, List.getElem?_eq_getElem hi] at this
  rw [← e]; exact this
set_option maxHeartbeats 2000000 in
set_option maxRecDepth 100000 in
theorem r25_Fine {w : World} {v : Value} {xss : List (List Int)} (h : IntsS w v xss) :
    Calls Try.prog 13 #[v] w fun e w' => e = .returned (.bool (fineR xss)) ∧ w' = w := by
  obtain ⟨a, cap, hv, k1, k2⟩ := h.form
  obtain ⟨ans, hans⟩ : ∃ b, b = fineR xss := ⟨_, rfl⟩
  rw [← hans]
  obtain ⟨n, hn⟩ : ∃ n, n = xss.length := ⟨_, rfl⟩
  rw [← hn] at hv k1
  subst hv
  have hm : n ≤ 9223372036854775807 := Nat.le_trans k1 k2
  have HS := Lib.hid h
  have HN := Lib.hid hn
  have HA := Lib.hid hans
  clear h hn hans k1 k2
  by_cases h100 : (100 : Int) < (n : Int)
  · have HF : Hid (ans = false) := Lib.hid (by
      rw [HA.out]; unfold fineR
      rw [decide_eq_false (by have := HN.out; omega)]; rfl)
    go_enter Try.func13, Try.ntmps13
    go_wp2
    go_ret
    exact ⟨by rw [HF.out]; rfl, rfl⟩
  · have HF1 : Hid (ans = xss.all okC) := Lib.hid (by
      rw [HA.out]; unfold fineR
      rw [decide_eq_true (by have := HN.out; omega)]; rfl)
    go_enter Try.func13, Try.ntmps13
    go_wp2
    go_loopw [3] (fun i wr => ∃ k : Nat, k ≤ n ∧ i = .int .i64 (k : Nat) ∧ (∀ j, j < k → okC (xss.getD j []) = true) ∧ wr = w) (fun i _ => n - (intOf i).toNat)
    case atStart => exact ⟨0, Nat.zero_le _, rfl, fun _ h => absurd h (by omega), rfl⟩
    case round =>
      obtain ⟨k, hk, rfl, hrel, rfl⟩ := hrel
      have HR := Lib.hid hrel
      clear hrel
      by_cases hlt : (k : Int) < (n : Int)
      · have hkn : k < xss.length := by have := HN.out; omega
        obtain ⟨b, off, cap2, u, hv, q0, hu⟩ := HS.out.at_ hkn
        injection hv with e1 e2 e3
        subst e1
        obtain ⟨ua, uc, hue, u1, u2⟩ := hu.form2
        obtain ⟨c, hc⟩ : ∃ c, c = xss.getD k [] := ⟨_, rfl⟩
        rw [← hc] at hue hu u1
        obtain ⟨m, hm2⟩ : ∃ m, m = c.length := ⟨_, rfl⟩
        rw [← hm2] at hue u1
        have hm9 : m ≤ 9223372036854775807 := Nat.le_trans u1 u2
        subst hue
        have HC := Lib.hid hc
        have HU := Lib.hid hu
        have HM := Lib.hid hm2
        have HKN := Lib.hid hkn
        clear e2 e3 hu hc hm2 u1 u2 hkn
        by_cases h30 : (30 : Int) < (m : Int)
        · have HF : Hid (ans = false) := Lib.hid (by
            rw [HF1.out]
            refine all_no (d := []) HKN.out ?_
            rw [← HC.out]; unfold okC
            rw [decide_eq_false (by have := HM.out; omega)]; rfl)
          go_wp2
          go_ret
          exact ⟨by rw [HF.out]; rfl, rfl⟩
        · have HG1 : Hid (okC c = c.all litB) := Lib.hid (by
            unfold okC
            rw [decide_eq_true (by have := HM.out; omega)]; rfl)
          go_wp2
          go_loopw [4] (fun i wy => ∃ t : Nat, t ≤ m ∧ i = .int .i64 (t : Nat) ∧ (∀ j, j < t → litB (c.getD j 0) = true) ∧ wy = wr) (fun i _ => m - (intOf i).toNat)
          case atStart => exact ⟨0, Nat.zero_le _, rfl, fun _ h => absurd h (by omega), rfl⟩
          case round =>
            obtain ⟨t, ht, rfl, hrel, rfl⟩ := hrel
            have HR2 := Lib.hid hrel
            clear hrel
            by_cases hlt2 : (t : Int) < (m : Int)
            · have htn : t < c.length := by have := HM.out; omega
              obtain ⟨b2, off2, cap4, hv, q1⟩ := HU.out.at2 htn
              injection hv with e1 e2 e3
              subst e1
              obtain ⟨x, hx⟩ : ∃ x, x = c.getD t 0 := ⟨_, rfl⟩
              rw [← hx] at q1
              have HX := Lib.hid hx
              have HTN := Lib.hid htn
              clear e2 e3 hx htn
              cases hb : litB x with
              | false =>
                have HF : Hid (ans = false) := Lib.hid (by
                  rw [HF1.out]
                  refine all_no (d := []) HKN.out ?_
                  rw [← HC.out, HG1.out]
                  exact all_no (d := 0) HTN.out (by rw [← HX.out]; exact hb))
                have hbb : x = 0 ∨ (x ≠ 0 ∧ x < -1073741824) ∨ (x ≠ 0 ∧ ¬ x < -1073741824 ∧ 1073741824 < x) := by
                  unfold litB at hb
                  simp only [Bool.not_eq_false', Bool.or_eq_true, decide_eq_true_eq] at hb
                  omega
                clear hb
                rcases hbb with e | ⟨e1, e2⟩ | ⟨e1, e2, e3⟩
                all_goals
                  try subst e
                  try (have e9 : (x == 0) = false := by rw [beq_eq_false_iff_ne]; exact e1)
                  go_wp2
                  go_ret
                  exact ⟨by rw [HF.out]; rfl, rfl⟩
              | true =>
                obtain ⟨l1, l2, l3⟩ := litB_iff.1 hb
                have HG : Hid (∀ j, j < t + 1 → litB (c.getD j 0) = true) := Lib.hid fun j hj => by
                  by_cases e : j = t
                  · rw [e, ← HX.out]; exact hb
                  · exact HR2.out j (by omega)
                have e9 : (x == 0) = false := by rw [beq_eq_false_iff_ne]; exact l1
                have e8 : ¬ x < -1073741824 := by omega
                have e7 : ¬ 1073741824 < x := by omega
                clear hb
                go_wp2
                go_roundw
                case rel => exact ⟨t + 1, by omega, by go_num, HG.out, by first | rfl | trivial⟩
                case measure => simp [intOf]; omega
            · have HT : Hid (t = m) := Lib.hid (by omega)
              have HG : Hid (∀ j, j < k + 1 → okC (xss.getD j []) = true) := Lib.hid fun j hj => by
                by_cases e : j = k
                · rw [e, ← HC.out, HG1.out]
                  exact all_yes (d := 0) (fun i hi => HR2.out i (by have := HT.out; have := HM.out; omega))
                · exact HR.out j (by omega)
              go_wp2
              go_roundw
              case rel => exact ⟨k + 1, by omega, by go_num, HG.out, by first | rfl | trivial⟩
              case measure => simp [intOf]; omega
      · have HF : Hid (ans = true) := Lib.hid (by
          rw [HF1.out]
          exact all_yes (d := []) (fun j hj => HR.out j (by have := HN.out; omega)))
        go_wp2
        go_ret
        exact ⟨by rw [HF.out]; rfl, rfl⟩
end Go.Proofs.Ytknpfopepedmmaa
