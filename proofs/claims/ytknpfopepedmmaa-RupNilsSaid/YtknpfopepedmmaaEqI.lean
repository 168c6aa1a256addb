/-
  The same numbers: the document's, package slices' Equal (of the texts of chapter 37, at numbers that are read). General.
-/
import Derived.Test.YtknpfopepedmmaaRuC
import Derived.Test.YtknpfopepedmmaaRuP
namespace Go.Proofs.Ytknpfopepedmmaa
open Go.ChangeShapes Go.WideShapes Go.ChangeAt Go.RowKit
set_option linter.unusedVariables false
set_option linter.unusedSimpArgs false
theorem Ints.form2 {w : World} {v : Value} {xs : List Int} (h : Ints w v xs) : ∃ a cap, v = .slice a xs.length cap ∧ xs.length ≤ cap ∧ cap ≤ maxLen := by
  obtain ⟨a, cap, e, -, h1, h2, -⟩ := h
  exact ⟨a, cap, e, h1, h2⟩
theorem Ints.at2 {w : World} {v : Value} {xs : List Int} (h : Ints w v xs) {k : Nat} (hk : k < xs.length) : ∃ b off cap, v = .slice (some ⟨b, off, none⟩) xs.length cap ∧ w.cell? ⟨b, off + k, none⟩ = some (.int .i64 (xs.getD k 0)) := by
  obtain ⟨a, cap, e, -, -, -, h3⟩ := h
  obtain ⟨b, off, h4, h5⟩ := h3.resolve_left (fun e => by rw [e] at hk; simp at hk)
  exact ⟨b, off, cap, by rw [e, h4], h5 k hk⟩
theorem ext_D {α : Type} (d : α) {xs ys : List α} (hl : xs.length = ys.length) (h : ∀ j, j < xs.length → xs.getD j d = ys.getD j d) : xs = ys := by
  apply List.ext_getElem hl
  intro i h1 h2
  have := h i h1
  simpa [List.getD, h1, h2] using this
/-- Before round k of a comparison. -/
def SameK {α : Type} (d : α) (xs ys : List α) (k : Nat) : Prop := ∀ j, j < k → xs.getD j d = ys.getD j d
theorem SameK.step {α : Type} {d : α} {xs ys : List α} {k : Nat} (h : SameK d xs ys k) (he : xs.getD k d = ys.getD k d) : SameK d xs ys (k + 1) := fun j hj => by
  rcases Nat.lt_or_ge j k with h1 | h1
  · exact h j h1
  · rw [show j = k by omega]; exact he
def SamR {α : Type} (d : α) (xs ys : List α) (k : Nat) (w wr : World) : Prop := SameK d xs ys k ∧ Quiet w wr
theorem eq_I_len {w : World} {v u : Value} {xs ys : List (Int)} (h : Ints w v xs) (g : Ints w u ys) (hn : xs.length ≠ ys.length) : Calls Try.prog 41 #[v, u] w fun e w' => e = .returned (.bool (decide (xs = ys))) ∧ w = w' := by
  obtain ⟨a, cap, rfl, -, -⟩ := h.form2
  obtain ⟨b, cap2, rfl, -, -⟩ := g.form2
  have hs : decide (xs = ys) = false := decide_eq_false fun e => hn (by rw [e])
  have hb : ((xs.length : Int) != (ys.length : Int)) = true := by rw [bne_iff_ne]; omega
  rw [hs]
  clear h g hn hs
  go_enter Try.func41, Try.ntmps41
  go_wp2
  go_ret
  exact ⟨rfl, rfl⟩
set_option maxHeartbeats 1000000 in
theorem eq_I {w : World} {v u : Value} {xs ys : List (Int)} (h : Ints w v xs) (g : Ints w u ys) : Calls Try.prog 41 #[v, u] w fun e w' => e = .returned (.bool (decide (xs = ys))) ∧ Quiet w w' := by
  by_cases hl : xs.length = ys.length
  · obtain ⟨a, cap, hv, hc1, hc2⟩ := h.form2
    obtain ⟨b, cap2, hu, -, -⟩ := g.form2
    subst hv hu
    obtain ⟨n, hn⟩ : ∃ n, n = xs.length := ⟨_, rfl⟩
    obtain ⟨ans, hans⟩ : ∃ ans, ans = decide (xs = ys) := ⟨_, rfl⟩
    have hm : n ≤ 9223372036854775807 := by rw [hn]; exact Nat.le_trans hc1 hc2
    rw [← hl, ← hn, ← hans]
    have HN := Lib.hid hn
    have HL := Lib.hid hl
    have HA := Lib.hid hans
    have H := Lib.hid h
    have G := Lib.hid g
    clear hc1 hc2 hn hans hl h g
    go_enter Try.func41, Try.ntmps41
    go_wp2
    go_loopw [13] (fun i wr => ∃ k : Nat, k ≤ n ∧ i = .int .i64 k ∧ SamR 0 xs ys k w wr) (fun i _ => n - (intOf i).toNat)
    case atStart => exact ⟨0, Nat.zero_le _, rfl, fun _ h => absurd h (by omega), 0, rfl⟩
    case round =>
      obtain ⟨k, hk, rfl, hsr⟩ := hrel
      obtain ⟨hsk, hq⟩ := hsr
      have HQ := Lib.hid hq
      by_cases hlt : (k : Int) < (n : Int)
      · have hkx : k < xs.length := by have := HN.out; omega
        have hky : k < ys.length := by have := HL.out; omega
        obtain ⟨b1, o1, p1, he1, hx⟩ := H.out.at2 hkx
        obtain ⟨b2, o2, p2, he2, hy⟩ := G.out.at2 hky
        injection he1 with e1 e2 e3
        subst e1
        injection he2 with e4 e5 e6
        subst e4
        have hx := cellB hx hq.below
        have hy := cellB hy hq.below
        have HS := Lib.hid hsk
        have HNO : Hid (xs.getD k 0 ≠ ys.getD k 0 → ans = false) := Lib.hid fun h => by rw [HA.out]; exact decide_eq_false fun e => h (by rw [e])
        have HYES : Hid (xs.getD k 0 = ys.getD k 0 → SameK 0 xs ys (k + 1)) := Lib.hid fun h => HS.out.step h
        generalize xs.getD k 0 = x at hx hy HNO HYES
        generalize ys.getD k 0 = y at hx hy HNO HYES
        clear e2 e3 e5 e6 hsk hq
        by_cases hxy : x = y
        · subst hxy
          have HY := Lib.hid (HYES.out rfl)
          have hb : (x != x) = false := by simp
          clear HYES HNO
          go_wp2
          go_quiet (fail)
          go_wp2
          go_roundw
          case rel => exact ⟨k + 1, by omega, by go_num, HY.out, by obtain ⟨m, hm⟩ := HQ.out; subst hm; exact ⟨_, World.drewN_drewN _ _ _⟩⟩
          case measure => simp [intOf]; omega
        · have HX := Lib.hid (HNO.out hxy)
          have hb : (x != y) = true := by rw [bne_iff_ne]; exact hxy
          have hb' : (x == y) = false := by rw [beq_eq_false_iff_ne]; exact hxy
          clear HYES HNO hxy
          go_wp2
          go_quiet (fail)
          go_wp2
          go_ret
          refine ⟨by rw [HX.out]; rfl, ?_⟩
          obtain ⟨m, hm⟩ := HQ.out
          subst hm
          exact ⟨_, World.drewN_drewN _ _ _⟩
      · have hkn : k = n := by omega
        have HX : Hid (ans = true) := Lib.hid (by rw [HA.out]; exact decide_eq_true (ext_D 0 HL.out (fun j hj => hsk j (by have := HN.out; omega))))
        clear hsk hq hkn
        go_wp2
        go_ret
        exact ⟨by rw [HX.out]; rfl, HQ.out⟩
  · exact (eq_I_len h g hl).mono fun e w' ⟨h1, h2⟩ => ⟨h1, 0, h2.symm⟩
end Go.Proofs.Ytknpfopepedmmaa
