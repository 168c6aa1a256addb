/-
  Numbers as text: the reference's Decimal.
-/
import Derived.Test.YtamgbfkpblpfiaaGreatDoorRows
import Derived.Test.YtamgbfkpblpfiaaGreatDoorFoot
import Derived.Lib.ItoaNum
import Derived.WalkSpells
import Derived.WalkLawsBesides
import Derived.IntWalk
import Derived.Laws.IdiomStrings
namespace Go.Proofs.YtamgbfkpblpfiaaGreatDoor
open Go.ChangeShapes Go.WideShapes Go.ChangeAt Go.RowKit
set_option linter.unusedVariables false
theorem bytes_app (a b : List UInt8) : (⟨a.toArray⟩ ++ ⟨b.toArray⟩ : ByteArray) = ⟨(a ++ b).toArray⟩ := by
  apply ByteArray.ext
  simp
/-- A list of bytes as a string's. -/
def bs (l : List UInt8) : ByteArray := ⟨l.toArray⟩
theorem bs_app (a b : List UInt8) : bs a ++ bs b = bs (a ++ b) := bytes_app a b
theorem dec_len : ∀ (k u : Nat), u < 10 ^ (k + 1) → (Lib.decDigits u).length ≤ k + 1
  | 0, u, h => by rw [Lib.decDigits, dif_pos (by simpa using h)]; simp
  | k + 1, u, h => by
    rw [Lib.decDigits]
    split
    · simp
    · rw [List.length_append]
      have := dec_len k (u / 10) (by rw [Nat.pow_succ] at h; omega)
      simp
      omega
theorem bs_size (l : List UInt8) : (bs l).size = l.length := by simp [bs, ByteArray.size]
theorem dec_size (u : Nat) (h : u ≤ 18446744073709551615) : (bs (Lib.decDigits u)).size ≤ 20 := by
  rw [bs_size]
  exact dec_len 19 u (by omega)
set_option maxRecDepth 100000 in
theorem dec_small (u : Nat) (h : u < 10) (w : World) : Calls Tryz.prog 114 #[.int .u64 u] w fun e w' => e = .returned (.string (bs (Lib.decDigits u))) ∧ Below w.heap.size w w' := by
  have hd : Lib.decDigits u = [UInt8.ofNat (48 + u)] := by rw [Lib.decDigits, dif_pos h]
  rw [hd]
  obtain ⟨c, hc⟩ : ∃ c, c = UInt8.ofNat (48 + u) := ⟨_, rfl⟩
  have hcn : (48 + (u : Int)) = (c.toNat : Int) := by rw [hc, UInt8.toNat_ofNat']; omega
  rw [← hc]
  have h1 : (u : Int) < 10 := by omega
  have h0 : (0 : Int) ≤ (u : Int) := by omega
  obtain ⟨s, hs⟩ : ∃ s, s = bs [c] := ⟨_, rfl⟩
  have hcv : ((convert 66 9 (.slice (some ⟨w.heap.size, 0, none⟩) 1 1)).run Tryz.prog (w.alloc (.cells #[.int .u8 (48 + (u : Int))] 5))) = .ok (.string s) (w.alloc (.cells #[.int .u8 (48 + (u : Int))] 5)) := by
    rw [hs]
    exact run_convert_bytes_back (P := Tryz.prog) (w.alloc (.cells #[.int .u8 (48 + (u : Int))] 5)) 66 9 5 ⟨w.heap.size, 0, none⟩ 1 [c] Tryz.underlying66 Tryz.underlying5 Tryz.underlying9 (fun j hj => by
      obtain rfl : j = 0 := by simp at hj; omega
      have := (Blk.new w 5 #[.int .u8 (48 + (u : Int))]).cell 0
      simp only [List.getElem_cons_zero, ← hcn]
      exact this)
  rw [← hs]
  have HS := Lib.hid hs
  clear hd hc hcn hs
  go_enter Tryz.func114, Tryz.ntmps114
  go_wp2
  go_ret
  exact ⟨rfl, (Below.refl _ _).alloc (Nat.le_refl _) _⟩
set_option maxRecDepth 100000 in
theorem dec_ : ∀ (u : Nat), u ≤ 18446744073709551615 → ∀ (w : World), Calls Tryz.prog 114 #[.int .u64 u] w fun e w' => e = .returned (.string (bs (Lib.decDigits u))) ∧ Below w.heap.size w w' := by
  intro u
  induction u using Nat.strongRecOn with
  | _ u ih =>
    intro hu w
    by_cases h : u < 10
    · exact dec_small u h w
    · have hd : Lib.decDigits u = Lib.decDigits (u / 10) ++ Lib.decDigits (u % 10) := by
        conv => lhs; rw [Lib.decDigits, dif_neg h]
        congr 1
        rw [Lib.decDigits, dif_pos (by omega)]
      rw [hd, ← bs_app]
      have i1 : ∀ w, Calls Tryz.prog 114 #[.int .u64 ((u : Int) / 10)] w fun e w' => e = .returned (.string (bs (Lib.decDigits (u / 10)))) ∧ Below w.heap.size w w' := fun w => by
        have := ih (u / 10) (by omega) (by omega) w
        rw [Int.natCast_ediv] at this
        exact this
      have i2 : ∀ w, Calls Tryz.prog 114 #[.int .u64 ((u : Int) % 10)] w fun e w' => e = .returned (.string (bs (Lib.decDigits (u % 10)))) ∧ Below w.heap.size w w' := fun w => by
        have := ih (u % 10) (by omega) (by omega) w
        rw [Int.natCast_emod] at this
        exact this
      have z1 := dec_size (u / 10) (by omega)
      have z2 := dec_size (u % 10) (by omega)
      generalize bs (Lib.decDigits (u / 10)) = s at *
      generalize bs (Lib.decDigits (u % 10)) = t at *
      have z : s.size + t.size ≤ 9223372036854775807 := by omega
      have I1 := Lib.hid i1
      have I2 := Lib.hid i2
      have h1 : (10 : Int) ≤ (u : Int) := by omega
      have h2 : (u : Int) ≤ 18446744073709551615 := by omega
      clear hd ih i1 i2 h hu
      go_enter Tryz.func114, Tryz.ntmps114
      go_wp2_with fail
      refine (I1.out w).mono ?_
      rintro e w1 ⟨rfl, hb1⟩
      have B1 := Lib.hid hb1
      clear hb1
      go_wp2_with fail
      refine (I2.out w1).mono ?_
      rintro e w2 ⟨rfl, hb2⟩
      have B2 := Lib.hid (B1.out.trans (hb2.mono B1.out.size))
      clear hb2
      go_wp2
      go_ret
      exact ⟨rfl, B2.out⟩
end Go.Proofs.YtamgbfkpblpfiaaGreatDoor
