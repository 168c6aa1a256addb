/-
  Slices of numbers that are read: copies, and whether two are the same.
-/
import Derived.Test.YtghlgegfokjgbaaClone
import Derived.Deep.QuietTactic
import Derived.BigQuiet
import Derived.Lib.LazyBuf
namespace Go.Proofs.Ytghlgegfokjgbaa
open Go.ChangeShapes Go.WideShapes Go.ChangeAt Go.RowKit
set_option linter.unusedVariables false

def sameB (xs ys : List Int) : Bool := decide (xs = ys)
theorem sameB_self (xs : List Int) : sameB xs xs = true := decide_eq_true rfl
theorem take_ext {xs ys : List Int} (hl : xs.length = ys.length) (h : ∀ j, j < xs.length → xs.getD j 0 = ys.getD j 0) : xs = ys := by
  apply List.ext_getElem hl
  intro i h1 h2
  have := h i h1
  simpa [List.getD, h1, h2] using this
def SameRel (xs ys : List Int) (k : Nat) (w wr : World) : Prop := (∀ j, j < k → xs.getD j 0 = ys.getD j 0) ∧ ∃ n, wr = w.drewN n
theorem r01_Same_len {w : World} {v u : Value} {xs ys : List Int} (h : Ints w v xs) (g : Ints w u ys) (hn : xs.length ≠ ys.length) :
    Calls Try.prog 17 #[v, u] w fun e w' => e = .returned (.bool (sameB xs ys)) ∧ w = w' := by
  obtain ⟨a, cap, rfl, -, -, -, -⟩ := h
  obtain ⟨b, cap2, rfl, -, -, -, -⟩ := g
  have hs : sameB xs ys = false := decide_eq_false fun e => hn (by rw [e])
  rw [hs]
  have hb : ((xs.length : Int) != (ys.length : Int)) = true := by rw [bne_iff_ne]; omega
  clear hs hn
  go_enter Try.func17, Try.ntmps17
  go_wp2
  go_ret
  exact ⟨rfl, rfl⟩
theorem SameRel.step {xs ys : List Int} {k : Nat} {w wr wr' : World} (h : SameRel xs ys k w wr) (he : xs.getD k 0 = ys.getD k 0) (hw : ∃ n, wr' = wr.drewN n) : SameRel xs ys (k + 1) w wr' := by
  obtain ⟨h1, n, rfl⟩ := h
  obtain ⟨m, rfl⟩ := hw
  refine ⟨fun j hj => ?_, n + m, by rw [World.drewN_drewN]⟩
  rcases Nat.lt_or_ge j k with h | h
  · exact h1 j h
  · obtain rfl : j = k := by omega
    exact he
set_option maxHeartbeats 400000 in
theorem r01_Same {w : World} {v u : Value} {xs ys : List Int} (h : Ints w v xs) (g : Ints w u ys) :
    Calls Try.prog 17 #[v, u] w fun e w' => e = .returned (.bool (sameB xs ys)) ∧ Quiet w w' := by
  by_cases hn : xs.length = ys.length
  · obtain ⟨a, cap, rfl, -, hc1, hc2, hv⟩ := h
    obtain ⟨b, cap2, rfl, -, -, -, hu⟩ := g
    have hm : xs.length ≤ 9223372036854775807 := Nat.le_trans hc1 hc2
    have HX := Lib.hid hv
    have HU := Lib.hid hu
    obtain ⟨n, hnn⟩ : ∃ n, n = xs.length := ⟨_, rfl⟩
    rw [← hn, ← hnn]
    rw [← hnn] at hm
    have HN := Lib.hid hnn
    have HL := Lib.hid hn
    clear hv hu hn hnn hc1 hc2
    go_enter Try.func17, Try.ntmps17
    go_wp2
    go_loopw [5] (fun i wr => ∃ k : Nat, k ≤ n ∧ i = .int .i64 k ∧ SameRel xs ys k w wr) (fun i _ => n - (intOf i).toNat)
    case atStart => exact ⟨0, Nat.zero_le _, rfl, fun _ h => absurd h (by omega), 0, rfl⟩
    case round =>
      obtain ⟨k, hk, rfl, hrel⟩ := hrel
      by_cases hlt : (k : Int) < (n : Int)
      · have hne : xs ≠ [] := fun e => by have := HN.out; rw [e] at this; simp at this; omega
        have hne' : ys ≠ [] := fun e => by have := HN.out; rw [HL.out, e] at this; simp at this; omega
        obtain ⟨b1, o1, rfl, hx⟩ := HX.out.resolve_left hne
        obtain ⟨b2, o2, rfl, hy⟩ := HU.out.resolve_left hne'
        have hkx := hx k (by have := HN.out; omega)
        have hky := hy k (by have := HN.out; have := HL.out; omega)
        obtain ⟨x, hxe⟩ : ∃ x, x = xs.getD k 0 := ⟨_, rfl⟩
        obtain ⟨y, hye⟩ : ∃ y, y = ys.getD k 0 := ⟨_, rfl⟩
        rw [← hxe] at hkx
        rw [← hye] at hky
        have hq : ∃ m, wr = w.drewN m := hrel.2
        have h1 : wr.cell? ⟨b1, o1 + k, none⟩ = some (.int .i64 x) := by obtain ⟨m, rfl⟩ := hq; exact hkx
        have h2 : wr.cell? ⟨b2, o2 + k, none⟩ = some (.int .i64 y) := by obtain ⟨m, rfl⟩ := hq; exact hky
        have HR := Lib.hid hrel
        have HXE := Lib.hid hxe
        have HYE := Lib.hid hye
        clear hx hy hkx hky hq hrel hxe hye hne hne'
        by_cases hxy : x = y
        · have hb : (x != y) = false := by rw [bne_eq_false_iff_eq]; exact hxy
          have HXY := Lib.hid hxy
          clear hxy
          go_wp2
          go_quiet (fail)
          go_wp2
          go_roundw
          case rel => exact ⟨k + 1, by omega, by go_num, HR.out.step (by rw [← HXE.out, ← HYE.out]; exact HXY.out) ⟨_, rfl⟩⟩
          case measure => simp [intOf]; omega
        · have hb : (x != y) = true := by rw [bne_iff_ne]; exact hxy
          have hs : sameB xs ys = false := decide_eq_false fun e => hxy (by rw [HXE.out, HYE.out, e])
          have HS := Lib.hid hs
          have hq : ∃ m, wr = w.drewN m := HR.out.2
          have HQ := Lib.hid hq
          clear hxy hq hs
          go_wp2
          go_quiet (fail)
          go_wp2
          go_ret
          refine ⟨by rw [HS.out]; rfl, ?_⟩
          obtain ⟨m, rfl⟩ := HQ.out
          exact ⟨_, World.drewN_drewN _ _ _⟩
      · have hs : sameB xs ys = true := decide_eq_true (take_ext HL.out (fun j hj => hrel.1 j (by have := HN.out; omega)))
        have HS := Lib.hid hs
        have HQ := Lib.hid hrel.2
        clear hs hrel
        go_wp2
        go_ret
        exact ⟨by rw [HS.out]; rfl, HQ.out⟩
  · exact (r01_Same_len h g hn).mono fun e w' ⟨h1, h2⟩ => ⟨h1, 0, h2.symm⟩
end Go.Proofs.Ytghlgegfokjgbaa
