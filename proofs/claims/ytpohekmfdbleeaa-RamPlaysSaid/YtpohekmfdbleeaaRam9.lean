/-
  The reference's answers: the same cells, a read, words that fit, which cells are right.
-/
import Derived.Test.YtpohekmfdbleeaaRam8
namespace Go.Proofs.Ytpohekmfdbleeaa
open Go.ChangeShapes Go.WideShapes Go.ChangeAt Go.RowKit Go.Maps
set_option linter.unusedVariables false
def sameC (xs ys : CS) : Bool := decide (xs = ys)
theorem sameC_self (xs : CS) : sameC xs xs = true := decide_eq_true rfl
theorem ext_C {xs ys : CS} (hl : xs.length = ys.length) (h : ∀ j, j < xs.length → xs.getD j (0, 0) = ys.getD j (0, 0)) : xs = ys := by
  apply List.ext_getElem hl
  intro i h1 h2
  have := h i h1
  simpa [List.getD, h1, h2] using this
def SameRelC (xs ys : CS) (k : Nat) (w wr : World) : Prop := (∀ j, j < k → xs.getD j (0, 0) = ys.getD j (0, 0)) ∧ ∃ n, wr = w.drewN n
def Quiet (w w' : World) : Prop := ∃ n, w' = w.drewN n
theorem Quiet.below {w w' : World} (h : Quiet w w') : Below w.heap.size w w' := by obtain ⟨n, rfl⟩ := h; exact below_drewN (Below.refl _ _) n
theorem SameRelC.step {xs ys : CS} {k : Nat} {w wr wr' : World} (h : SameRelC xs ys k w wr) (he : xs.getD k (0, 0) = ys.getD k (0, 0)) (hw : ∃ n, wr' = wr.drewN n) : SameRelC xs ys (k + 1) w wr' := by
  obtain ⟨h1, n, rfl⟩ := h
  obtain ⟨m, rfl⟩ := hw
  refine ⟨fun j hj => ?_, n + m, by rw [World.drewN_drewN]⟩
  rcases Nat.lt_or_ge j k with h | h
  · exact h1 j h
  · obtain rfl : j = k := by omega
    exact he
theorem r11_Same_len {w : World} {v u : Value} {xs ys : CS} (h : Pairs w v xs) (g : Pairs w u ys) (hn : xs.length ≠ ys.length) :
    Calls Try.prog 11 #[v, u] w fun e w' => e = .returned (.bool (sameC xs ys)) ∧ w = w' := by
  obtain ⟨a, cap, rfl, -, -, -, -⟩ := h
  obtain ⟨b, cap2, rfl, -, -, -, -⟩ := g
  have hs : sameC xs ys = false := decide_eq_false fun e => hn (by rw [e])
  rw [hs]
  have hb : ((xs.length : Int) != (ys.length : Int)) = true := by rw [bne_iff_ne]; omega
  clear hs hn
  go_enter Try.func11, Try.ntmps11
  go_wp2
  go_ret
  exact ⟨rfl, rfl⟩
set_option maxHeartbeats 1000000 in
theorem r11_Same {w : World} {v u : Value} {xs ys : CS} (h : Pairs w v xs) (g : Pairs w u ys) :
    Calls Try.prog 11 #[v, u] w fun e w' => e = .returned (.bool (sameC xs ys)) ∧ Quiet w w' := by
  by_cases hn : xs.length = ys.length
  · obtain ⟨a, cap, rfl, hc1, hc2, -, hv⟩ := h
    obtain ⟨b, cap2, rfl, -, -, -, hu⟩ := g
    have hm : xs.length ≤ 9223372036854775807 := Nat.le_trans hc1 hc2
    have HX := Lib.hid hv
    have HU := Lib.hid hu
    obtain ⟨n, hnn⟩ : ∃ n, n = xs.length := ⟨_, rfl⟩
    rw [← hn, ← hnn]
    rw [← hnn] at hm
    have HN := Lib.hid hnn
    have HL := Lib.hid hn
    clear hv hu hn hnn hc1 hc2
    go_enter Try.func11, Try.ntmps11
    go_wp2
    go_loopw [5] (fun i wr => ∃ k : Nat, k ≤ n ∧ i = .int .i64 k ∧ SameRelC xs ys k w wr) (fun i _ => n - (intOf i).toNat)
    case atStart => exact ⟨0, Nat.zero_le _, rfl, fun _ h => absurd h (by omega), 0, rfl⟩
    case round =>
      obtain ⟨k, hk, rfl, hrel⟩ := hrel
      by_cases hlt : (k : Int) < (n : Int)
      · have hne : xs ≠ [] := fun e => by have := HN.out; rw [e] at this; simp at this; omega
        have hne' : ys ≠ [] := fun e => by have := HN.out; rw [HL.out, e] at this; simp at this; omega
        obtain ⟨b1, o1, rfl, -, hx⟩ := HX.out.resolve_left hne
        obtain ⟨b2, o2, rfl, -, hy⟩ := HU.out.resolve_left hne'
        obtain ⟨hkx, hkx'⟩ := hx k (by have := HN.out; omega)
        obtain ⟨hky, hky'⟩ := hy k (by have := HN.out; have := HL.out; omega)
        obtain ⟨x, hxe⟩ : ∃ x, x = (xs.getD k (0, 0)).1 := ⟨_, rfl⟩
        obtain ⟨x', hxe'⟩ : ∃ x, x = (xs.getD k (0, 0)).2 := ⟨_, rfl⟩
        obtain ⟨y, hye⟩ : ∃ y, y = (ys.getD k (0, 0)).1 := ⟨_, rfl⟩
        obtain ⟨y', hye'⟩ : ∃ y, y = (ys.getD k (0, 0)).2 := ⟨_, rfl⟩
        rw [← hxe] at hkx
        rw [← hxe'] at hkx'
        rw [← hye] at hky
        rw [← hye'] at hky'
        have hq : ∃ m, wr = w.drewN m := hrel.2
        have h1 : wr.cell? ⟨b1, o1 + k * 2, none⟩ = some (.int .u64 x) := by obtain ⟨m, rfl⟩ := hq; exact hkx
        have h1' : wr.cell? ⟨b1, o1 + k * 2 + 1, none⟩ = some (.int .u64 x') := by obtain ⟨m, rfl⟩ := hq; exact hkx'
        have h2 : wr.cell? ⟨b2, o2 + k * 2, none⟩ = some (.int .u64 y) := by obtain ⟨m, rfl⟩ := hq; exact hky
        have h2' : wr.cell? ⟨b2, o2 + k * 2 + 1, none⟩ = some (.int .u64 y') := by obtain ⟨m, rfl⟩ := hq; exact hky'
        have HE : Hid (xs.getD k (0, 0) = ys.getD k (0, 0) ↔ (x = y ∧ x' = y')) := Lib.hid (by rw [hxe, hxe', hye, hye', Prod.ext_iff])
        have HR := Lib.hid hrel
        clear hx hy hkx hky hkx' hky' hq hrel hxe hye hxe' hye' hne hne'
        by_cases hxy : x = y
        · subst hxy
          by_cases hxy' : x' = y'
          · subst hxy'
            have HE2 := Lib.hid (HE.out.2 ⟨rfl, rfl⟩)
            clear HE
            go_wp2
            go_quiet (fail)
            go_wp2
            go_roundw
            case rel => exact ⟨k + 1, by omega, by go_num, HR.out.step HE2.out ⟨_, rfl⟩⟩
            case measure => simp [intOf]; omega
          · have hs : sameC xs ys = false := decide_eq_false fun e => hxy' (HE.out.1 (by rw [e])).2
            have HS := Lib.hid hs
            have hq : ∃ m, wr = w.drewN m := HR.out.2
            have HQ := Lib.hid hq
            have hb : (x' == y') = false := by rw [beq_eq_false_iff_ne]; exact hxy'
            have hb' : (x' != y') = true := by rw [bne_iff_ne]; exact hxy'
            clear hxy' HE
            clear hq hs
            go_wp2
            go_quiet (fail)
            go_wp2
            go_ret
            refine ⟨by rw [HS.out]; rfl, ?_⟩
            obtain ⟨m, rfl⟩ := HQ.out
            exact ⟨_, World.drewN_drewN _ _ _⟩
        · have hs : sameC xs ys = false := decide_eq_false fun e => hxy (HE.out.1 (by rw [e])).1
          have HS := Lib.hid hs
          have hq : ∃ m, wr = w.drewN m := HR.out.2
          have HQ := Lib.hid hq
          have hb : (x == y) = false := by rw [beq_eq_false_iff_ne]; exact hxy
          have hb' : (x != y) = true := by rw [bne_iff_ne]; exact hxy
          clear hxy HE
          clear hq hs
          go_wp2
          go_quiet (fail)
          go_wp2
          go_ret
          refine ⟨by rw [HS.out]; rfl, ?_⟩
          obtain ⟨m, rfl⟩ := HQ.out
          exact ⟨_, World.drewN_drewN _ _ _⟩
      · have hs : sameC xs ys = true := decide_eq_true (ext_C HL.out (fun j hj => hrel.1 j (by have := HN.out; omega)))
        have HS := Lib.hid hs
        have HQ := Lib.hid hrel.2
        clear hs hrel
        go_wp2
        go_ret
        exact ⟨by rw [HS.out]; rfl, HQ.out⟩
  · exact (r11_Same_len h g hn).mono fun e w' ⟨h1, h2⟩ => ⟨h1, 0, h2.symm⟩
end Go.Proofs.Ytpohekmfdbleeaa
