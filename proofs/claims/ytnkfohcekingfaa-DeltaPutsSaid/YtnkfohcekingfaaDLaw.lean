/-
  The laws of chapter 4: their small function alive, and DeltaPuts.
-/
import Derived.Test.YtnkfohcekingfaaTake
import Derived.Deep.RegionWith
import Derived.Laws.BytesArg
namespace Go.Proofs.Ytnkfohcekingfaa
open Go.ChangeShapes Go.WideShapes Go.ChangeAt Go.RowKit
/-- The string of these bytes. -/
def strOf (xs : List Nat) : ByteArray := strOfNums (xs.map fun (n : Nat) => (n : Int))
theorem own_below {w w' : World} {B : Nat} {e : TypeId} {v : Value} {n : Nat} {xs : List Value} (h : w.ownsRow B e 1 v n xs) (hb : Below w.heap.size w w') : w'.ownsRow B e 1 v n xs := by
  obtain ⟨hl, h⟩ := h
  refine ⟨hl, ?_⟩
  rcases h with h | ⟨g, cap, cur, rfl, hg, hx, hr⟩
  · exact .inl h
  · have hlt : g < w.heap.size := by
      rcases Nat.lt_or_ge g w.heap.size with h | h
      · exact h
      · rw [Array.getElem?_eq_none h] at hx; cases hx
    exact .inr ⟨g, cap, cur, rfl, hg, (hb.block g hlt).trans hx, hr⟩
theorem own_cell {w : World} {B : Nat} {e : TypeId} {v : Value} {xs : List Nat} (h : w.ownsRow B e 1 v xs.length (xs.map byteV)) :
    (v = .slice none 0 0 ∧ xs = []) ∨ ∃ g cap, v = .slice (some ⟨g, 0, none⟩) xs.length cap ∧ B ≤ g ∧ xs.length ≤ cap ∧ cap ≤ maxLen ∧ ∀ j, j < xs.length → w.cell? ⟨g, 0 + j, none⟩ = some (byteV (xs.getD j 0)) := by
  obtain ⟨hl, h⟩ := h
  rcases h with ⟨rfl, h0⟩ | ⟨g, cap, cur, rfl, hg, hb, hn, hcap, hcs, htk⟩
  · exact .inl ⟨rfl, by simpa using h0⟩
  · refine .inr ⟨g, cap, rfl, hg, hn, hcap, fun i hi => ?_⟩
    have hcell := World.ownsRow.cells (w := w) (base := B) (e := e) (size := 1) (v := .slice (some ⟨g, 0, none⟩) xs.length cap) (n := xs.length) (xs := xs.map byteV) ⟨hl, .inr ⟨g, cap, cur, rfl, hg, hb, hn, hcap, hcs, htk⟩⟩ rfl i (byteV (xs.getD i 0)) (by simp [List.getD, hi])
    have e : (⟨g, 0, none⟩ : Addr).add i = ⟨g, 0 + i, none⟩ := by unfold Addr.add; split <;> simp_all
    rw [e] at hcell
    exact hcell
theorem conv_own {w : World} {B : Nat} {v : Value} {xs : List Nat} (h : w.ownsRow B 5 1 v xs.length (xs.map byteV)) :
    (convert 22 9 v).run Try.prog w = .ok (.string (strOf xs)) w := by
  rcases own_cell h with ⟨rfl, rfl⟩ | ⟨g, cap, rfl, -, -, -, hc⟩
  · exact run_convert_bytes_nil w _ _ Try.underlying22 Try.underlying5 0 0 _ Try.underlying9
  · refine run_convert_bytes_arg w _ _ Try.underlying22 Try.underlying5 g 0 xs.length cap _ (by simp) ?_ _ Try.underlying9
    intro i hi
    rw [hc i hi]; simp [byteV, List.getD, hi]
theorem conv_nil (w : World) : (convert 22 9 (.slice none 0 0)).run Try.prog w = .ok (.string (strOf [])) w :=
  run_convert_bytes_nil w _ _ Try.underlying22 Try.underlying5 0 0 _ Try.underlying9
theorem putL_byte (n : Nat) : ∀ j, (putL n).getD j 0 < 256 := by
  have h : ∀ k n, n < 128 ^ (k + 1) → ∀ x ∈ putL n, x < 256 := by
    intro k
    induction k with
    | zero => intro n h; rw [putL_lo n (by omega)]; simp; omega
    | succ k ih =>
      intro n h
      by_cases hn : n < 128
      · rw [putL_lo n hn]; simp; omega
      · rw [putL_hi n (by omega)]
        intro x hx
        rcases List.mem_cons.1 hx with rfl | hx
        · omega
        · refine ih (n / 128) ?_ x hx
          rw [Nat.div_lt_iff_lt_mul (by omega)]; rw [Nat.pow_succ] at h; exact h
  intro j
  by_cases hj : j < (putL n).length
  · simp only [List.getD, List.getElem?_eq_getElem hj, Option.getD_some]
    refine h n n ?_ _ (List.getElem_mem hj)
    exact Nat.lt_of_lt_of_le (Nat.lt_pow_self (by omega)) (Nat.pow_le_pow_right (by omega) (by omega))
  · simp [List.getD, List.getElem?_eq_none (Nat.le_of_not_lt hj)]
theorem bytes_own {w : World} {B : Nat} {e : TypeId} {v : Value} {xs : List Nat} (h : w.ownsRow B e 1 v xs.length (xs.map byteV)) (hb : ∀ j, xs.getD j 0 < 256) (hl : xs.length ≤ 100) : BytesAt w v xs := by
  refine ⟨hb, by omega, ?_⟩
  rcases own_cell h with ⟨rfl, rfl⟩ | ⟨g, cap, rfl, -, h1, h2, hc⟩
  · exact ⟨none, 0, rfl, by simp, by simp, .inl rfl⟩
  · exact ⟨_, cap, rfl, h1, h2, .inr ⟨g, 0, rfl, hc⟩⟩

set_option maxRecDepth 100000 in
theorem alive (w : World) : Calls Try.prog 8 #[] w fun e w' => e = .returned (.bool true) ∧ Below w.heap.size w w' := by
  have hp : putL 300 = [172, 2] := by decide +kernel
  have ht : takeL [172, 2] 0 300 = (300, 2, 0) := by decide +kernel
  have H := Lib.hid ht
  clear ht
  go_enter Try.func8, Try.ntmps8
  go_wp2_with fail
  refine (delta_Put 300 (by unfold Fit; omega) _).mono ?_
  rintro e w1 ⟨v, rfl, ho, hb⟩
  rw [hp] at ho
  have hb8 : BytesAt w1 v [172, 2] := by
    refine bytes_own ho ?_ (by simp)
    intro j; match j with
      | 0 => decide
      | 1 => decide
      | j + 2 => simp
  obtain ⟨-, h⟩ | ⟨g, cap, rfl, -, hc, hm, hcell⟩ := own_cell ho
  · cases h
  have c0 := hcell 0 (by simp)
  have c1 := hcell 1 (by simp)
  simp only [byteV, List.getD, List.length_cons, List.length_nil, List.getElem?_cons_zero, List.getElem?_cons_succ, Option.getD_some, Nat.zero_add] at c0 c1 hc
  clear hcell ho hp
  go_wp2_with fail
  refine (delta_Take _ [172, 2] 0 300 _ hb8).mono ?_
  rintro e w2 ⟨rfl, rfl⟩
  rw [H.out]
  simp only [trip]
  go_wp2_with fail
  go_ret
  exact ⟨rfl, hb⟩
set_option maxRecDepth 100000 in
theorem puts (n : Nat) (hn : Fit n) (w : World) : Calls Try.prog 3 #[.int .i64 n] w fun e w' => e = .returned (.bool true) ∧ Below w.heap.size w w' := by
  go_enter Try.func3, Try.ntmps3
  go_wp2
  go_region_with (first | ((go_at_call 6; refine (delta_Put n hn _).mono ?_; rintro e w1 ⟨v1, rfl, ho1, hb1⟩); have hc1 := conv_own ho1) | ((go_at_call 7; refine (r04_Put n hn _).mono ?_; rintro e w2 ⟨v2, rfl, ho2, hb2⟩); have hc2 := conv_own ho2; have hc3 := conv_own (own_below ho1 hb2)) | (go_at_call 8; refine (alive _).mono ?_; rintro e w3 ⟨rfl, hb3⟩))
  all_goals go_wp2
  all_goals go_ret
  all_goals exact ⟨rfl, (((Below.refl _ w).drew.trans hb1).trans (hb2.mono hb1.size)).trans (hb3.mono (Nat.le_trans hb1.size hb2.size))⟩

theorem puts_neg (n : Int) (hn : n < 0) (w : World) : Calls Try.prog 3 #[.int .i64 n] w fun e w' => e = .returned (.bool true) ∧ Below w.heap.size w w' := by
  have hc := fun w => conv_nil w
  go_enter Try.func3, Try.ntmps3
  go_wp2
  go_region_with (first | (go_at_call 6; refine (delta_Put_neg n hn _).mono ?_; rintro e w' ⟨rfl, rfl⟩) | (go_at_call 7; refine (r04_Put_neg n hn _).mono ?_; rintro e w' ⟨rfl, rfl⟩) | (go_at_call 8; refine (alive _).mono ?_; rintro e w3 ⟨rfl, hb3⟩))
  all_goals go_wp2
  all_goals go_ret
  all_goals exact ⟨rfl, ((Below.refl _ w).drew.trans hb3)⟩

/-! ### Pair -/
def pairB (lhs a b : Int) : Bool := decide (b < 0 ∨ a < b ∨ lhs ≤ a)
theorem delta_Pair_no (lhs a b : Int) (w : World) (h : b < 0 ∨ a < b ∨ lhs ≤ a) : Calls Try.prog 9 #[.int .i64 lhs, .int .i64 a, .int .i64 b] w fun e w' => e = .returned (.tuple #[.slice none 0 0, .int .i64 11]) ∧ w = w' := by
  rcases (show b < 0 ∨ (0 ≤ b ∧ a < b) ∨ (0 ≤ b ∧ b ≤ a ∧ lhs ≤ a) by omega) with h | ⟨h, h2⟩ | ⟨h, h2, h3⟩
  all_goals
    go_enter Try.func9, Try.ntmps9
    go_wp2_with fail
    go_ret2
    exact ⟨rfl, rfl⟩
theorem r04_Pair_no (lhs a b : Int) (w : World) (h : b < 0 ∨ a < b ∨ lhs ≤ a) : Calls Try.prog 10 #[.int .i64 lhs, .int .i64 a, .int .i64 b] w fun e w' => e = .returned (.tuple #[.slice none 0 0, .int .i64 11]) ∧ w = w' := by
  rcases (show b < 0 ∨ (0 ≤ b ∧ a < b) ∨ (0 ≤ b ∧ b ≤ a ∧ lhs ≤ a) by omega) with h | ⟨h, h2⟩ | ⟨h, h2, h3⟩
  all_goals
    go_enter Try.func10, Try.ntmps10
    go_wp2_with fail
    go_ret2
    exact ⟨rfl, rfl⟩
def pairL (lhs a b : Int) : List Nat := putL (lhs - a).toNat ++ putL (a - b).toNat
theorem delta_Pair (lhs a b : Int) (w : World) (h1 : 0 ≤ b) (h2 : b ≤ a) (h3 : a < lhs) (h4 : lhs ≤ 9223372036854775807) : Calls Try.prog 9 #[.int .i64 lhs, .int .i64 a, .int .i64 b] w fun e w' =>
    ∃ v, e = .returned (.tuple #[v, .int .i64 0]) ∧ w'.ownsRow w.heap.size 5 1 v (pairL lhs a b).length ((pairL lhs a b).map byteV) ∧ Below w.heap.size w w' := by
  obtain ⟨p, hp⟩ := Int.eq_ofNat_of_zero_le (show 0 ≤ lhs - a by omega)
  obtain ⟨q, hq⟩ := Int.eq_ofNat_of_zero_le (show 0 ≤ a - b by omega)
  have hpl : pairL lhs a b = putL p ++ putL q := by unfold pairL; rw [hp, hq]; rfl
  rw [hpl]
  have hpf : Fit p := by unfold Fit; omega
  have hqf : Fit q := by unfold Fit; omega
  clear hpl
  obtain ⟨lp, lq⟩ : (putL p).length ≤ 10 ∧ (putL q).length ≤ 10 := ⟨putL_len63 p hpf, putL_len63 q hqf⟩
  have hqpos := putL_pos q
  go_enter Try.func9, Try.ntmps9
  go_wp2_with fail
  refine (delta_Put p hpf _).mono ?_
  rintro e w1 ⟨v1, rfl, ho1, hb1⟩
  go_wp2_with fail
  refine (delta_Put q hqf _).mono ?_
  rintro e w2 ⟨v2, rfl, ho2, hb2⟩
  obtain ⟨-, h⟩ | ⟨g, cap, rfl, -, hc, -, hcell⟩ := own_cell ho2
  · rw [h] at hqpos; simp at hqpos
  have ho1' := own_below ho1 hb2
  have HC := Lib.hid hcell
  clear hcell ho1 ho2
  go_wp2_with (at_builtin; refine K.appN rfl _ _ _ rfl w.heap.size _ (.int .u8 0) 1 Try.underlying22 infoU8 rfl _ _ _ rfl ho1' _ _ _ _ ((putL q).map byteV) rfl ?c0 ?c1 ?c2 ?c3 ?c4 ?c5 ?_)
  case c0 => simp
  case c1 => intro j u hj; simp at hj; obtain ⟨x, hx, rfl⟩ := hj; rw [HC.out j (by have := List.getElem?_eq_some_iff.1 hx; obtain ⟨h, -⟩ := this; exact h)]; simp [List.getD, hx]
  case c2 => intro u hu; simp at hu; obtain ⟨x, -, rfl⟩ := hu; rfl
  case c3 => unfold maxLen; omega
  case c4 => omega
  case c5 => exact Nat.le_trans hb1.size hb2.size
  intro v' w3 ho3 hb3
  go_wp2_with fail
  go_ret2
  refine ⟨v', rfl, ?_, ((hb1.trans (hb2.mono hb1.size)).trans hb3)⟩
  simpa using ho3
theorem r04_Pair (lhs a b : Int) (w : World) (h1 : 0 ≤ b) (h2 : b ≤ a) (h3 : a < lhs) (h4 : lhs ≤ 9223372036854775807) : Calls Try.prog 10 #[.int .i64 lhs, .int .i64 a, .int .i64 b] w fun e w' =>
    ∃ v, e = .returned (.tuple #[v, .int .i64 0]) ∧ w'.ownsRow w.heap.size 5 1 v (pairL lhs a b).length ((pairL lhs a b).map byteV) ∧ Below w.heap.size w w' := by
  obtain ⟨p, hp⟩ := Int.eq_ofNat_of_zero_le (show 0 ≤ lhs - a by omega)
  obtain ⟨q, hq⟩ := Int.eq_ofNat_of_zero_le (show 0 ≤ a - b by omega)
  have hpl : pairL lhs a b = putL p ++ putL q := by unfold pairL; rw [hp, hq]; rfl
  rw [hpl]
  have hpf : Fit p := by unfold Fit; omega
  have hqf : Fit q := by unfold Fit; omega
  clear hpl
  obtain ⟨lp, lq⟩ : (putL p).length ≤ 10 ∧ (putL q).length ≤ 10 := ⟨putL_len63 p hpf, putL_len63 q hqf⟩
  have hqpos := putL_pos q
  go_enter Try.func10, Try.ntmps10
  go_wp2_with fail
  refine (r04_Put p hpf _).mono ?_
  rintro e w1 ⟨v1, rfl, ho1, hb1⟩
  go_wp2_with fail
  refine (r04_Put q hqf _).mono ?_
  rintro e w2 ⟨v2, rfl, ho2, hb2⟩
  obtain ⟨-, h⟩ | ⟨g, cap, rfl, -, hc, -, hcell⟩ := own_cell ho2
  · rw [h] at hqpos; simp at hqpos
  have ho1' := own_below ho1 hb2
  have HC := Lib.hid hcell
  clear hcell ho1 ho2
  go_wp2_with (at_builtin; refine K.appN rfl _ _ _ rfl w.heap.size _ (.int .u8 0) 1 Try.underlying22 infoU8 rfl _ _ _ rfl ho1' _ _ _ _ ((putL q).map byteV) rfl ?c0 ?c1 ?c2 ?c3 ?c4 ?c5 ?_)
  case c0 => simp
  case c1 => intro j u hj; simp at hj; obtain ⟨x, hx, rfl⟩ := hj; rw [HC.out j (by have := List.getElem?_eq_some_iff.1 hx; obtain ⟨h, -⟩ := this; exact h)]; simp [List.getD, hx]
  case c2 => intro u hu; simp at hu; obtain ⟨x, -, rfl⟩ := hu; rfl
  case c3 => unfold maxLen; omega
  case c4 => omega
  case c5 => exact Nat.le_trans hb1.size hb2.size
  intro v' w3 ho3 hb3
  go_wp2_with fail
  go_ret2
  refine ⟨v', rfl, ?_, ((hb1.trans (hb2.mono hb1.size)).trans hb3)⟩
  simpa using ho3
end Go.Proofs.Ytnkfohcekingfaa
