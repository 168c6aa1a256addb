/-
  The reference's answers: words that fit, a read, which cells are right.
-/
import Derived.Test.YtpohekmfdbleeaaRam9
namespace Go.Proofs.Ytpohekmfdbleeaa
open Go.ChangeShapes Go.WideShapes Go.ChangeAt Go.RowKit Go.Maps
set_option linter.unusedVariables false
def halves (x : Int) : Nat → Int
  | 0 => x
  | k + 1 => halves x k / 2
theorem halves_pow (x : Int) (h : 0 ≤ x) : ∀ k, halves x k = x / 2 ^ k
  | 0 => by simp [halves]
  | k + 1 => by
    unfold halves
    rw [halves_pow x h k, Int.ediv_ediv_of_nonneg (by have := Int.pow_pos (n := 2) (m := k) (by omega); omega), Int.pow_succ]
theorem halves_range (x : Int) (h0 : 0 ≤ x) (h1 : x < 18446744073709551616) : ∀ k, 0 ≤ halves x k ∧ halves x k < 18446744073709551616
  | 0 => ⟨h0, h1⟩
  | k + 1 => by
    have := halves_range x h0 h1 k
    unfold halves
    omega
set_option maxHeartbeats 1000000 in
theorem r10_Fits (x n : Int) (h0 : 0 ≤ x) (h1 : x < 18446744073709551616) (w : World) : Calls Try.prog 17 #[.int .u64 x, .int .i64 n] w fun e w' => e = .returned (.bool (fitsB x n)) ∧ w = w' := by
  have hk := withN_le n
  obtain ⟨m, hm⟩ : ∃ m, m = withN n := ⟨_, rfl⟩
  rw [← hm] at hk
  have hmn : (m : Int) = max (min n 64) 0 := by rw [hm]; unfold withN; omega
  have HF : Hid (fitsB x n = decide (halves x m = 0)) := Lib.hid (by unfold fitsB; rw [halves_pow x h0, hm])
  have HM := Lib.hid hmn
  have HR := Lib.hid (halves_range x h0 h1)
  clear hm hmn
  go_enter Try.func17, Try.ntmps17
  go_wp2
  go_loopw [0, 5] (fun a i wr => ∃ k : Nat, k ≤ m ∧ i = .int .i64 k ∧ a = .int .u64 (halves x k) ∧ wr = w) (fun _ i _ => m - (intOf i).toNat)
  case atStart => exact ⟨0, Nat.zero_le _, rfl, rfl, rfl⟩
  case round =>
    obtain ⟨k, hk', rfl, rfl, rfl⟩ := hrel
    obtain ⟨z0, z1⟩ := HR.out k
    have HK : Hid (halves x k / 2 = halves x (k + 1)) := Lib.hid rfl
    obtain ⟨y, hy⟩ : ∃ y, y = halves x k := ⟨_, rfl⟩
    rw [← hy] at z0 z1 HK ⊢
    have HY := Lib.hid hy
    clear hy
    by_cases hlt : k < m
    · have c1 : decide ((k : Int) < n) = true := decide_eq_true (by have := HM.out; omega)
      have c2 : decide ((k : Int) < 64) = true := decide_eq_true (by omega)
      go_wp2
      go_roundw
      case rel => exact ⟨k + 1, by omega, by go_num, by rw [HK.out], trivial⟩
      case measure => simp [intOf]; omega
    · have hkm : k = m := by omega
      have HA : Hid (fitsB x n = (y == 0)) := Lib.hid (by rw [HF.out, HY.out, hkm]; by_cases h : halves x m = 0 <;> simp [h])
      by_cases hkn : (k : Int) < n
      · have c1 : decide ((k : Int) < n) = true := decide_eq_true hkn
        have c2 : decide ((k : Int) < 64) = false := decide_eq_false (by have := HM.out; omega)
        clear hkm
        go_wp2
        go_ret
        exact ⟨by rw [HA.out]; rfl, rfl⟩
      · have c1 : decide ((k : Int) < n) = false := decide_eq_false hkn
        clear hkm
        go_wp2
        go_ret
        exact ⟨by rw [HA.out]; rfl, rfl⟩

/-- Reads that are the world's own: the cells of a slice, wherever the world has grown. -/
theorem Pairs.at {w : World} {a : Option Addr} {cap : Nat} {cs : CS} (hv : cs = [] ∨ ∃ b off, a = some ⟨b, off, none⟩ ∧ b < w.heap.size ∧
    ∀ j, j < cs.length → w.cell? ⟨b, off + j * 2, none⟩ = some (.int .u64 (cs.getD j (0, 0)).1) ∧ w.cell? ⟨b, off + j * 2 + 1, none⟩ = some (.int .u64 (cs.getD j (0, 0)).2)) {j : Nat} (hj : j < cs.length) :
    ∃ b off, a = some ⟨b, off, none⟩ ∧ w.cell? ⟨b, off + j * 2, none⟩ = some (.int .u64 (cs.getD j (0, 0)).1) ∧ w.cell? ⟨b, off + j * 2 + 1, none⟩ = some (.int .u64 (cs.getD j (0, 0)).2) := by
  have hne : cs ≠ [] := fun e => by rw [e] at hj; simp at hj
  obtain ⟨b, off, h1, -, h2⟩ := hv.resolve_left hne
  exact ⟨b, off, h1, h2 j hj⟩
theorem get_none {cs : CS} {x : Int} (h : ∀ j, j < cs.length → (cs.getD j (0, 0)).1 ≠ x) : getC cs x = 0 := by
  have : cs.find? (fun p => p.1 == x) = none := by
    rw [List.find?_eq_none]
    intro p hp
    obtain ⟨j, hj, rfl⟩ := List.getElem_of_mem hp
    have := h j hj
    simpa [List.getD, hj] using this
  unfold getC
  rw [this]
theorem get_at {cs : CS} {x : Int} : ∀ {k : Nat}, k < cs.length → (∀ j, j < k → (cs.getD j (0, 0)).1 ≠ x) → (cs.getD k (0, 0)).1 = x → getC cs x = (cs.getD k (0, 0)).2 := by
  induction cs with
  | nil => intro k hk; simp at hk
  | cons y r ih =>
    intro k hk h he
    cases k with
    | zero =>
      have e : (y.1 == x) = true := by simpa using he
      unfold getC
      simp [e]
    | succ k =>
      have e : (y.1 == x) = false := by have := h 0 (by omega); simpa using this
      have := ih (k := k) (by simpa using hk) (fun j hj => by have := h (j + 1) (by omega); simpa using this) (by simpa using he)
      unfold getC at this ⊢
      simp only [List.find?_cons, e]
      simpa using this
set_option maxHeartbeats 1000000 in
theorem r11_Read {w : World} {v : Value} {cs : CS} (h : Pairs w v cs) (x : Int) : Calls Try.prog 15 #[v, .int .u64 x] w fun e w' => e = .returned (.int .u64 (getC cs x)) ∧ w = w' := by
  obtain ⟨a, cap, rfl, hc1, hc2, -, hv⟩ := h
  obtain ⟨n, hn⟩ : ∃ n, n = cs.length := ⟨_, rfl⟩
  rw [← hn] at hc1 ⊢
  have hm : n ≤ 9223372036854775807 := Nat.le_trans hc1 hc2
  have HN := Lib.hid hn
  have HV := Lib.hid hv
  clear hv hn hc1 hc2
  go_enter Try.func15, Try.ntmps15
  go_wp2
  go_loopw [5] (fun i wr => ∃ k : Nat, k ≤ n ∧ i = .int .i64 k ∧ (∀ j, j < k → (cs.getD j (0, 0)).1 ≠ x) ∧ wr = w) (fun i _ => n - (intOf i).toNat)
  case atStart => exact ⟨0, Nat.zero_le _, rfl, fun _ h => absurd h (by omega), rfl⟩
  case round =>
    obtain ⟨k, hk, rfl, hrel, rfl⟩ := hrel
    by_cases hlt : (k : Int) < (n : Int)
    · obtain ⟨b, off, rfl, q1, q2⟩ := Pairs.at (cap := cap) HV.out (j := k) (by have := HN.out; omega)
      obtain ⟨y, hy⟩ : ∃ y, y = (cs.getD k (0, 0)).1 := ⟨_, rfl⟩
      obtain ⟨u, hu⟩ : ∃ y, y = (cs.getD k (0, 0)).2 := ⟨_, rfl⟩
      rw [← hy] at q1
      rw [← hu] at q2
      have HR := Lib.hid hrel
      have HY := Lib.hid hy
      have HU := Lib.hid hu
      clear hrel hy hu
      by_cases hyx : y = x
      · have hb : (y == x) = true := by rw [beq_iff_eq]; exact hyx
        have HA : Hid (getC cs x = u) := Lib.hid (by rw [HU.out]; exact get_at (by have := HN.out; omega) HR.out (by rw [← HY.out]; exact hyx))
        clear hyx
        go_wp2
        go_ret
        exact ⟨by rw [HA.out]; rfl, rfl⟩
      · have hb : (y == x) = false := by rw [beq_eq_false_iff_ne]; exact hyx
        have HX := Lib.hid hyx
        clear hyx
        go_wp2
        go_roundw
        case rel =>
          refine ⟨k + 1, by omega, by go_num, fun j hj => ?_, trivial⟩
          rcases Nat.lt_or_ge j k with h | h
          · exact HR.out j h
          · rw [show j = k by omega, ← HY.out]; exact HX.out
        case measure => simp [intOf]; omega
    · have HA : Hid (getC cs x = 0) := Lib.hid (get_none (fun j hj => hrel j (by have := HN.out; omega)))
      clear hrel
      go_wp2
      go_ret
      exact ⟨by rw [HA.out]; rfl, rfl⟩
end Go.Proofs.Ytpohekmfdbleeaa
