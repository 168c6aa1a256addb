/-
  Chapter 40: the document's text of numbers, walked.
-/
import Derived.Test.YtlahecdpcpejpaaDoorFkF
import Derived.Lib.ItoaNum
import Derived.WalkSpells
import Derived.WalkLawsBesides
import Derived.IntWalk
import Derived.Laws.IdiomStrings
namespace Go.Proofs.YtlahecdpcpejpaaDoor
open Go Go.ChangeShapes Go.WideShapes Go.ChangeAt Go.RowKit
set_option linter.unusedVariables false
set_option linter.unusedSimpArgs false
theorem bsT_app (a b : List UInt8) : bsT a ++ bsT b = bsT (a ++ b) := by
  unfold bsT
  apply ByteArray.ext
  simp
theorem dec_lenT : ∀ (k u : Nat), u < 10 ^ (k + 1) → (Lib.decDigits u).length ≤ k + 1
  | 0, u, h => by rw [Lib.decDigits, dif_pos (by simpa using h)]; simp
  | k + 1, u, h => by
    rw [Lib.decDigits]
    split
    · simp
    · rw [List.length_append]
      have := dec_lenT k (u / 10) (by rw [Nat.pow_succ] at h; omega)
      simp
      omega
theorem bsT_size (l : List UInt8) : (bsT l).size = l.length := by simp [bsT, ByteArray.size]
theorem dec_sizeT (u : Nat) (h : u ≤ 18446744073709551615) : (bsT (Lib.decDigits u)).size ≤ 20 := by
  rw [bsT_size]
  exact dec_lenT 19 u (by omega)
set_option maxRecDepth 100000 in
theorem tail_small (u : Nat) (h : u < 10) (w : World) : Calls Tryd.prog 46 #[.int .i64 (-(u : Int))] w fun e w' => e = .returned (.string (bsT (Lib.decDigits u))) ∧ Below w.heap.size w w' := by
  have hd : Lib.decDigits u = [UInt8.ofNat (48 + u)] := by rw [Lib.decDigits, dif_pos h]
  rw [hd]
  obtain ⟨c, hc⟩ : ∃ c, c = UInt8.ofNat (48 + u) := ⟨_, rfl⟩
  have hcn : (48 + (u : Int)) = (c.toNat : Int) := by rw [hc, UInt8.toNat_ofNat']; omega
  rw [← hc]
  have h1 : (-10 : Int) < -(u : Int) := by omega
  have h2 : (48 : Int) - -(u : Int) = 48 + (u : Int) := by omega
  obtain ⟨s, hs⟩ : ∃ s, s = bsT [c] := ⟨_, rfl⟩
  have hcv : ((convert 78 9 (.slice (some ⟨w.heap.size, 0, none⟩) 1 1)).run Tryd.prog (w.alloc (.cells #[.int .u8 (48 + (u : Int))] 5))) = .ok (.string s) (w.alloc (.cells #[.int .u8 (48 + (u : Int))] 5)) := by
    rw [hs]
    exact run_convert_bytes_back (P := Tryd.prog) (w.alloc (.cells #[.int .u8 (48 + (u : Int))] 5)) 78 9 5 ⟨w.heap.size, 0, none⟩ 1 [c] Tryd.underlying78 Tryd.underlying5 Tryd.underlying9 (fun j hj => by
      obtain rfl : j = 0 := by simp at hj; omega
      have := (Blk.new w 5 #[.int .u8 (48 + (u : Int))]).cell 0
      simp only [List.getElem_cons_zero, ← hcn]
      exact this)
  rw [← hs]
  have HS := Lib.hid hs
  clear hd hc hcn hs
  go_enter Tryd.func46, Tryd.ntmps46
  go_wp2
  go_ret
  exact ⟨rfl, (Below.refl _ _).alloc (Nat.le_refl _) _⟩
set_option maxRecDepth 100000 in
theorem tail_ : ∀ (u : Nat), u ≤ 9223372036854775808 → ∀ (w : World), Calls Tryd.prog 46 #[.int .i64 (-(u : Int))] w fun e w' => e = .returned (.string (bsT (Lib.decDigits u))) ∧ Below w.heap.size w w' := by
  intro u
  induction u using Nat.strongRecOn with
  | _ u ih =>
    intro hu w
    by_cases h : u < 10
    · exact tail_small u h w
    · have hd : Lib.decDigits u = Lib.decDigits (u / 10) ++ Lib.decDigits (u % 10) := by
        conv => lhs; rw [Lib.decDigits, dif_neg h]
        congr 1
        rw [Lib.decDigits, dif_pos (by omega)]
      rw [hd, ← bsT_app]
      have i1 := fun w => ih (u / 10) (by omega) (by omega) w
      have i2 := fun w => ih (u % 10) (by omega) (by omega) w
      have z1 := dec_sizeT (u / 10) (by omega)
      have z2 := dec_sizeT (u % 10) (by omega)
      have q1 : (-(u : Int)).tdiv 10 = -((u / 10 : Nat) : Int) := by rw [Int.neg_tdiv]; rfl
      have q2 : (-(u : Int)).tmod 10 = -((u % 10 : Nat) : Int) := by rw [Int.neg_tmod]; rfl
      generalize bsT (Lib.decDigits (u / 10)) = s at *
      generalize bsT (Lib.decDigits (u % 10)) = t at *
      have hua : u / 10 ≤ 922337203685477580 := by omega
      have hub : u % 10 ≤ 9 := by omega
      generalize u / 10 = a at *
      generalize u % 10 = b at *
      have z : s.size + t.size ≤ 9223372036854775807 := by omega
      have I1 := Lib.hid i1
      have I2 := Lib.hid i2
      have h1 : ¬ ((-10 : Int) < -(u : Int)) := by omega
      have h2 : (-9223372036854775808 : Int) ≤ -(u : Int) := by omega
      clear hd ih i1 i2 h hu
      go_enter Tryd.func46, Tryd.ntmps46
      go_wp2_with fail
      refine (I1.out w).mono ?_
      rintro e w1 ⟨rfl, hb1⟩
      have B1 := Lib.hid hb1
      clear hb1
      go_wp2_with fail
      refine (I2.out w1).mono ?_
      rintro e w2 ⟨rfl, hb2⟩
      have B2 := Lib.hid (B1.out.trans (hb2.mono B1.out.size))
      clear hb2
      go_wp2
      go_ret
      exact ⟨rfl, B2.out⟩
theorem decimal_ (n : Int) (h0 : -9223372036854775807 ≤ n) (h1 : n ≤ 9223372036854775807) (w : World) : Calls Tryd.prog 26 #[.int .i64 n] w fun e w' => e = .returned (.string (bsT (Lib.itoa n))) ∧ Below w.heap.size w w' := by
  by_cases hn : n < 0
  · have hi : Lib.itoa n = [45] ++ Lib.decDigits n.natAbs := by unfold Lib.itoa; rw [if_pos hn]; rfl
    rw [hi, ← bsT_app]
    obtain ⟨u, hu⟩ : ∃ u : Nat, n = -(u : Int) := ⟨n.natAbs, by omega⟩
    subst hu
    have e : (-(u : Int)).natAbs = u := by omega
    rw [e]
    have HD := Lib.hid (tail_ u (by omega))
    have hb : bsT [45] = ⟨#[45]⟩ := rfl
    have z1 := dec_sizeT u (by omega)
    rw [hb]
    generalize bsT (Lib.decDigits u) = s at *
    have z : (⟨#[45]⟩ : ByteArray).size + s.size ≤ 9223372036854775807 := by
      have : (⟨#[45]⟩ : ByteArray).size = 1 := rfl
      omega
    have u0 : (0 : Int) < (u : Int) := by omega
    have u1 : (u : Int) ≤ 9223372036854775807 := by omega
    clear hi e hb
    go_enter Tryd.func26, Tryd.ntmps26
    go_wp2_with fail
    refine (HD.out w).mono ?_
    rintro e w1 ⟨rfl, hb1⟩
    have B1 := Lib.hid hb1
    clear hb1
    go_wp2
    go_ret
    exact ⟨rfl, B1.out⟩
  · have hi : Lib.itoa n = Lib.decDigits n.toNat := by unfold Lib.itoa; rw [if_neg hn]
    rw [hi]
    obtain ⟨u, hu⟩ : ∃ u : Nat, n = (u : Int) := ⟨n.toNat, by omega⟩
    subst hu
    have e : ((u : Int)).toNat = u := by omega
    rw [e]
    have HD := Lib.hid (tail_ u (by omega))
    generalize bsT (Lib.decDigits u) = s at *
    have u1 : (u : Int) ≤ 9223372036854775807 := by omega
    clear hi e
    go_enter Tryd.func26, Tryd.ntmps26
    go_wp2_with fail
    refine (HD.out w).mono ?_
    rintro e w1 ⟨rfl, hb1⟩
    have B1 := Lib.hid hb1
    clear hb1
    go_wp2
    go_ret
    exact ⟨rfl, B1.out⟩
/-- The text of the first numbers. -/
def joinK (T : Int → List UInt8) (xs : List Int) : Nat → List UInt8
  | 0 => []
  | k + 1 => (if 0 < k then joinK T xs k ++ [32] else joinK T xs k) ++ T (xs.getD k 0)
theorem joinK_len {T : Int → List UInt8} {xs : List Int} (h : ∀ x ∈ xs, (T x).length ≤ 21) : ∀ k, k ≤ xs.length → (joinK T xs k).length ≤ 22 * k
  | 0, _ => by simp [joinK]
  | k + 1, hk => by
    have h1 := joinK_len h k (by omega)
    have h2 : (T (xs.getD k 0)).length ≤ 21 := h _ (by rw [List.getD_eq_getElem?_getD, List.getElem?_eq_getElem (by omega)]; exact List.getElem_mem _)
    unfold joinK
    rw [List.length_append]
    split
    · rw [List.length_append, List.length_singleton]; omega
    · omega
theorem itoa_lenT (n : Int) (h0 : -9223372036854775808 ≤ n) (h1 : n ≤ 9223372036854775807) : (Lib.itoa n).length ≤ 21 := by
  unfold Lib.itoa
  split
  · have := dec_lenT 19 n.natAbs (by omega)
    simp
    omega
  · have := dec_lenT 19 n.toNat (by omega)
    omega
theorem joinK_eq (T : Int → List UInt8) {x0 x1 x2 x3 x4 x5 x6 x7 x8 x9 : Int} : joinK T [x0, x1, x2, x3, x4, x5, x6, x7, x8, x9] 10 = Lib.join ([x0, x1, x2, x3, x4, x5, x6, x7, x8, x9].map T) [32] := by
  simp [joinK, Lib.join, List.intercalate, List.intersperse]
set_option maxHeartbeats 1000000 in
set_option maxRecDepth 100000 in
theorem r40_Text {w : World} {x0 x1 x2 x3 x4 x5 x6 x7 x8 x9 : Int} (hx : ∀ x ∈ [x0, x1, x2, x3, x4, x5, x6, x7, x8, x9], -9223372036854775807 ≤ x ∧ x ≤ 9223372036854775807) :
    Calls Tryd.prog 10 #[.agg #[.int .i64 x0, .int .i64 x1, .int .i64 x2, .int .i64 x3, .int .i64 x4, .int .i64 x5, .int .i64 x6, .int .i64 x7, .int .i64 x8, .int .i64 x9]] w fun e w' => e = .returned (.string (textQ Lib.itoa [x0, x1, x2, x3, x4, x5, x6, x7, x8, x9])) ∧ Below w.heap.size w w' := by
  obtain ⟨wS, hwS⟩ : ∃ wS, wS = w.alloc (.cells #[.int .i64 x0, .int .i64 x1, .int .i64 x2, .int .i64 x3, .int .i64 x4, .int .i64 x5, .int .i64 x6, .int .i64 x7, .int .i64 x8, .int .i64 x9] 22) := ⟨_, rfl⟩
  obtain ⟨b0, hb0⟩ : ∃ b, b = w.heap.size := ⟨_, rfl⟩
  have hX : Blk wS b0 22 #[.int .i64 x0, .int .i64 x1, .int .i64 x2, .int .i64 x3, .int .i64 x4, .int .i64 x5, .int .i64 x6, .int .i64 x7, .int .i64 x8, .int .i64 x9] := by rw [hwS, hb0]; exact Blk.new _ _ _
  have HBW : Hid (Below w.heap.size w wS) := Lib.hid (by rw [hwS]; exact below_new1' w _)
  have HWS := Lib.hid hwS
  have HB0 := Lib.hid hb0
  obtain ⟨xs, hxs⟩ : ∃ xs : List Int, xs = [x0, x1, x2, x3, x4, x5, x6, x7, x8, x9] := ⟨_, rfl⟩
  have HJ : Hid (textQ Lib.itoa [x0, x1, x2, x3, x4, x5, x6, x7, x8, x9] = bsT (joinK Lib.itoa xs 10)) := Lib.hid (by rw [hxs, joinK_eq]; rfl)
  rw [← hxs] at hx
  have HC : Hid (∀ k : Nat, k < 10 → wS.cell? ⟨b0, k, none⟩ = some (.int .i64 (xs.getD k 0))) := Lib.hid (by rw [hxs]; exact ten_cell hX)
  have HLX : Hid (xs.length = 10) := Lib.hid (by rw [hxs]; rfl)
  have HX := Lib.hid hx
  rw [HJ.out]
  clear hwS hb0 hX hxs hx
  go_enter Tryd.func10, Tryd.ntmps10
  go_wp2
  rw [← HWS.out, ← HB0.out]
  go_loopw [3, 4] (fun s i wr => ∃ k : Nat, k ≤ 10 ∧ i = .int .i64 (k : Nat) ∧ s = .string (bsT (joinK Lib.itoa xs k)) ∧ Below wS.heap.size wS wr) (fun _ i _ => 10 - (intOf i).toNat)
  case atStart => exact ⟨0, Nat.zero_le _, rfl, rfl, Below.refl _ _⟩
  case round =>
    obtain ⟨k, hk, rfl, rfl, hB⟩ := hrel
    by_cases hlt : (k : Int) < 10
    · have hk10 : k < 10 := by omega
      obtain ⟨x, hx⟩ : ∃ x, x = xs.getD k 0 := ⟨_, rfl⟩
      have q0 := HC.out k hk10
      rw [← hx] at q0
      have q0 : wr.cell? ⟨b0, k, none⟩ = some (.int .i64 x) := (hB.cell (p := ⟨b0, k, none⟩) (World.block_lt_of_cell? _ _ q0)).trans q0
      have hxm : x ∈ xs := by rw [hx, List.getD_eq_getElem?_getD, List.getElem?_eq_getElem (by rw [HLX.out]; exact hk10)]; exact List.getElem_mem _
      obtain ⟨x0, x1⟩ := HX.out x hxm
      have HD := Lib.hid (decimal_ x x0 x1 wr)
      have hln := joinK_len (T := Lib.itoa) (xs := xs) (fun y hy => itoa_lenT y (by have := HX.out y hy; omega) (HX.out y hy).2) k (by rw [HLX.out]; exact hk)
      have hl2 := itoa_lenT x (by omega) x1
      have hs1 := bsT_size (joinK Lib.itoa xs k)
      have hs2 := bsT_size (Lib.itoa x)
      have h32 : bsT [32] = ⟨#[32]⟩ := rfl
      have hnx0 : k = 0 → bsT (joinK Lib.itoa xs (k + 1)) = bsT (joinK Lib.itoa xs k) ++ bsT (Lib.itoa x) := fun h0 => by
        rw [bsT_app, joinK, if_neg (by omega), ← hx]
      have hnx1 : 0 < k → bsT (joinK Lib.itoa xs (k + 1)) = bsT (joinK Lib.itoa xs k) ++ ⟨#[32]⟩ ++ bsT (Lib.itoa x) := fun h0 => by
        rw [← h32, bsT_app, bsT_app, joinK, if_pos h0, ← hx]
      have HN0 := Lib.hid hnx0
      have HN1 := Lib.hid hnx1
      have HB := Lib.hid hB
      have z32 : (⟨#[32]⟩ : ByteArray).size = 1 := rfl
      generalize bsT (joinK Lib.itoa xs k) = s at *
      generalize bsT (Lib.itoa x) = t at *
      have z : s.size + t.size ≤ 9223372036854775807 := by omega
      have za : (s ++ ⟨#[32]⟩).size = s.size + 1 := by simp [ByteArray.size_append, z32]
      have zb : s.size + (⟨#[32]⟩ : ByteArray).size ≤ 9223372036854775807 := by omega
      have zc : (s ++ ⟨#[32]⟩).size + t.size ≤ 9223372036854775807 := by omega
      clear hB hx hxm x0 x1 hln hl2 hs1 hs2 h32 hnx0 hnx1
      by_cases h0 : (0 : Int) < (k : Int)
      · have HP : Hid (0 < k) := Lib.hid (by omega)
        go_wp2_with fail
        refine HD.out.mono ?_
        rintro e w5 ⟨rfl, hb5⟩
        have HB5 := Lib.hid (HB.out.trans (hb5.mono HB.out.size))
        clear hb5
        go_wp2
        go_roundw
        case rel => exact ⟨k + 1, by omega, by go_num, by rw [HN1.out HP.out], HB5.out⟩
        case measure => simp [intOf]; omega
      · have HP : Hid (k = 0) := Lib.hid (by omega)
        go_wp2_with fail
        refine HD.out.mono ?_
        rintro e w5 ⟨rfl, hb5⟩
        have HB5 := Lib.hid (HB.out.trans (hb5.mono HB.out.size))
        clear hb5
        go_wp2
        go_roundw
        case rel => exact ⟨k + 1, by omega, by go_num, by rw [HN0.out HP.out], HB5.out⟩
        case measure => simp [intOf]; omega
    · have hk10 : k = 10 := by omega
      subst hk10
      have HF := Lib.hid (HBW.out.trans (hB.mono HBW.out.size))
      clear hB
      go_wp2
      go_ret
      exact ⟨rfl, HF.out⟩
end Go.Proofs.YtlahecdpcpejpaaDoor
