/-
  Chapter 40: slices.Max at numbers, walked; counts in a made block.
-/
import Derived.Test.YtlahecdpcpejpaaDoorFkA
import Derived.Test.YtlahecdpcpejpaaDoorIntsB
import Derived.Test.YtlahecdpcpejpaaDoorCells
import Derived.Test.YtlahecdpcpejpaaDoorSame
namespace Go.Proofs.YtlahecdpcpejpaaDoor
open Go Go.ChangeShapes Go.WideShapes Go.ChangeAt Go.RowKit
set_option linter.unusedVariables false
set_option linter.unusedSimpArgs false
theorem Ints.form2 {w : World} {v : Value} {xs : List Int} (h : Ints w v xs) : ∃ a cap, v = .slice a xs.length cap ∧ xs.length ≤ cap ∧ cap ≤ maxLen := by
  obtain ⟨a, cap, e, -, h1, h2, -⟩ := h
  exact ⟨a, cap, e, h1, h2⟩
theorem Ints.at2 {w : World} {v : Value} {xs : List Int} (h : Ints w v xs) {k : Nat} (hk : k < xs.length) : ∃ b off cap, v = .slice (some ⟨b, off, none⟩) xs.length cap ∧ w.cell? ⟨b, off + k, none⟩ = some (.int .i64 (xs.getD k 0)) := by
  obtain ⟨a, cap, e, -, -, -, h3⟩ := h
  obtain ⟨b, off, h4, h5⟩ := h3.resolve_left (fun e => by rw [e] at hk; simp at hk)
  exact ⟨b, off, cap, by rw [e, h4], h5 k hk⟩
/-- The greatest of the first numbers. -/
def mxK (xs : List Int) : Nat → Int
  | 0 => xs.getD 0 0
  | k + 1 => max (mxK xs k) (xs.getD (k + 1) 0)
def mx0 (xs : List Int) : Nat → Int
  | 0 => 0
  | k + 1 => max (mx0 xs k) (xs.getD k 0)
def mxI (xs : List Int) : Int := mxK xs (xs.length - 1)
theorem mx0_eq {xs : List Int} (h0 : 0 ≤ xs.getD 0 0) : ∀ k, mx0 xs (k + 1) = mxK xs k
  | 0 => by
    show max (0 : Int) (xs.getD 0 0) = xs.getD 0 0
    omega
  | k + 1 => by
    show max (mx0 xs (k + 1)) (xs.getD (k + 1) 0) = max (mxK xs k) (xs.getD (k + 1) 0)
    rw [mx0_eq h0 k]
theorem mxK_ge {xs : List Int} : ∀ {k i : Nat}, i ≤ k → xs.getD i 0 ≤ mxK xs k
  | 0, i, h => by rw [show i = 0 by omega]; exact Int.le_refl _
  | k + 1, i, h => by
    rcases Nat.lt_or_ge i (k + 1) with h1 | h1
    · exact Int.le_trans (mxK_ge (k := k) (by omega)) (Int.le_max_left _ _)
    · rw [show i = k + 1 by omega]; exact Int.le_max_right _ _
theorem mxK_le {xs : List Int} {B : Int} : ∀ {k : Nat}, (∀ i, i ≤ k → xs.getD i 0 ≤ B) → mxK xs k ≤ B
  | 0, h => h 0 (Nat.le_refl _)
  | k + 1, h => Int.max_le.2 ⟨mxK_le fun i hi => h i (by omega), h (k + 1) (Nat.le_refl _)⟩
set_option maxHeartbeats 1000000 in
theorem slices_Max {w : World} {u : Value} {xs : List Int} (h : Ints w u xs) (hne : 0 < xs.length) :
    Calls Tryd.prog 32 #[u] w fun e w' => e = .returned (.int .i64 (mxI xs)) ∧ w' = w := by
  obtain ⟨b, off, cap, hv, c0⟩ := h.at2 hne
  obtain ⟨a2, cap2, hv2, q1, q2⟩ := h.form2
  have e3 := hv.symm.trans hv2
  injection e3 with e3 e4 e5
  subst e5
  obtain ⟨n, hn⟩ : ∃ n, n = xs.length := ⟨_, rfl⟩
  rw [← hn] at hv q1 hne
  have hn9 : n ≤ 9223372036854775807 := Nat.le_trans q1 q2
  subst hv
  have HB := Lib.hid h
  have HN := Lib.hid hn
  obtain ⟨x0, hx0⟩ : ∃ x, x = xs.getD 0 0 := ⟨_, rfl⟩
  have c0 : w.cell? ⟨b, off, none⟩ = some (.int .i64 x0) := by rw [hx0]; exact c0
  have HX0 := Lib.hid hx0
  have hn1 : ¬ ((n : Int) < 1) := by omega
  clear h hn q1 q2 hv2 e3 e4 hx0
  go_enter Tryd.func32, Tryd.ntmps32
  go_wp2
  go_loopw [3, 4] (fun m i wr => ∃ k : Nat, k + 1 ≤ n ∧ i = .int .i64 ((k : Int) + 1) ∧ m = .int .i64 (mxK xs k) ∧ wr = w) (fun _ i _ => n - (intOf i).toNat)
  case atStart => exact ⟨0, by omega, rfl, by rw [HX0.out]; rfl, rfl⟩
  case round =>
    obtain ⟨k, hk, rfl, rfl, rfl⟩ := hrel
    clear c0
    by_cases hlt : (k : Int) + 1 < (n : Int)
    · obtain ⟨b2, off2, cap3, hv, ck⟩ := HB.out.at2 (k := k + 1) (by have := HN.out; omega)
      injection hv with e1 e2 e3
      injection e1 with e1
      injection e1 with e1 e4
      subst e1 e4
      have hm : mxK xs (k + 1) = max (mxK xs k) (xs.getD (k + 1) 0) := rfl
      have HM := Lib.hid hm
      obtain ⟨x, hx⟩ : ∃ x, x = xs.getD (k + 1) 0 := ⟨_, rfl⟩
      rw [← hx] at ck
      obtain ⟨a, ha⟩ : ∃ a, a = mxK xs k := ⟨_, rfl⟩
      rw [← ha]
      have HX := Lib.hid hx
      have HA := Lib.hid ha
      have hk1 : IntKind.i64.wrap ((k : Int) + 1) = (k : Int) + 1 := IntWalk.i64_in _ (by omega)
      have ck2 : wr.cell? ⟨b, off + (k + 1), none⟩ = some (.int .i64 x) := ck
      have HIX : Hid (((k : Int) + 1).toNat = k + 1) := Lib.hid (by omega)
      clear hm hx ha e2 e3 ck
      by_cases hab : a < x
      · have hm1 : max a x = x := by omega
        go_wp2
        go_roundw
        case rel => exact ⟨k + 1, by omega, by go_num, by rw [HM.out, ← HA.out, ← HX.out, Int.max_eq_right (by omega)], trivial⟩
        case measure => simp [intOf]; omega
      · have hm1 : max a x = a := by omega
        go_wp2
        go_roundw
        case rel => exact ⟨k + 1, by omega, by go_num, by rw [HM.out, ← HA.out, ← HX.out, Int.max_eq_left (by omega)], trivial⟩
        case measure => simp [intOf]; omega
    · have hkn : mxK xs k = mxI xs := by
        unfold mxI
        rw [show xs.length - 1 = k by have := HN.out; omega]
      have HK := Lib.hid hkn
      clear hkn
      go_wp2
      go_ret
      exact ⟨by rw [HK.out]; rfl, rfl⟩
/-! ### counts -/
/-- Counts in a block. -/
def CBlk (w : World) (g n : Nat) (f : Int → Int) (ls : List Int) : Prop := VBlk w g 3 n (fun i => .int .i64 (cntF f ls (i : Int) : Nat))
theorem CBlk.start (w : World) (n : Nat) (f : Int → Int) : CBlk (w.alloc (.cells (madeCells #[.int .i64 0] n) 3)) w.heap.size n f [] := VBlk.made1 w 3 (.int .i64 0) n fun i hi => rfl
theorem CBlk.set_ {w : World} {g n : Nat} {f : Int → Int} {ls : List Int} (h : CBlk w g n f ls) {l : Int} {k : Nat} (hk : f l = (k : Int)) : CBlk (w.setCell ⟨g, k, none⟩ (.int .i64 (cntF f ls (k : Int) + 1 : Nat))) g n f (ls ++ [l]) := by
  refine (VBlk.set_ h k _).ext fun i hi => ?_
  show (if i = k then Value.int .i64 (cntF f ls (k : Int) + 1 : Nat) else .int .i64 (cntF f ls (i : Int) : Nat)) = .int .i64 (cntF f (ls ++ [l]) (i : Int) : Nat)
  rw [cntF_snoc, hk]
  by_cases e : i = k
  · subst e; rw [if_pos rfl, if_pos rfl]
  · rw [if_neg e, if_neg (by omega)]
theorem CBlk.ints {w : World} {g n : Nat} {f : Int → Int} {ls : List Int} (h : CBlk w g n f ls) (hn : n ≤ 9223372036854775807) : Ints w (.slice (some ⟨g, 0, none⟩) n n) (nums n (cntF f ls)) := by
  refine ⟨some ⟨g, 0, none⟩, n, by rw [nums_len], fun e => (by cases e), by rw [nums_len]; exact Nat.le_refl _, by simpa [maxLen] using hn, .inr ⟨g, 0, rfl, fun j hj => ?_⟩⟩
  rw [nums_len] at hj
  rw [Nat.zero_add, VBlk.cell h hj, nums_at hj]
end Go.Proofs.YtlahecdpcpejpaaDoor
