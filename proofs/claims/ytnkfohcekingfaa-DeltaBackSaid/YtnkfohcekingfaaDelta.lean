/-
  Package delta and its reference: the bytes of a number.
-/
import Derived.Test.YtnkfohcekingfaaRows
import Derived.Test.YtnkfohcekingfaaBits
import Derived.Test.YtnkfohcekingfaaKit
import Derived.WalkLawsBesides
namespace Go.Proofs.Ytnkfohcekingfaa
open Go.ChangeShapes Go.WideShapes Go.ChangeAt Go.RowKit

def byteV (n : Nat) : Value := .int .u8 (n : Int)
def putL (n : Nat) : List Nat := if n < 128 then [n] else (n % 128 + 128) :: putL (n / 128)
termination_by n
decreasing_by omega

theorem putL_lo (n : Nat) (h : n < 128) : putL n = [n] := by rw [putL, if_pos h]
theorem putL_hi (n : Nat) (h : 128 ≤ n) : putL n = (n % 128 + 128) :: putL (n / 128) := by rw [putL, if_neg (by omega)]

theorem infoU8 : (Try.prog.info? 5).map (fun i => (i.zero, i.size, i.bytes)) = some (some (.int .u8 0), 1, 1) := by kernel_rfl

theorem lowbyte (n : Nat) : bits BinOp.or IntKind.u8 ((n : Int) % 256) 128 = ((n % 128 + 128 : Nat) : Int) := by
  have e : (n : Int) % 256 = ((n % 256 : Nat) : Int) := by omega
  rw [e]
  have := u8_or_nat (n % 256) 128 (by omega) (by omega)
  rw [show ((128 : Nat) : Int) = 128 from rfl] at this
  rw [this]
  have h2 : n % 256 ||| 128 = n % 128 + 128 := by
    have : ∀ m, m < 256 → m ||| 128 = m % 128 + 128   := by decide +kernel
    rw [this _ (by omega)]; omega
  rw [h2]


theorem putL_len (m : Nat) : ∀ n : Nat, n < 128 ^ (m + 1) → (putL n).length ≤ m + 1 := by
  induction m with
  | zero => intro n h; rw [putL_lo n (by omega)]; simp
  | succ m ih =>
    intro n h
    by_cases hn : n < 128
    · rw [putL_lo n hn]; simp
    · rw [putL_hi n (by omega), List.length_cons]
      have : n / 128 < 128 ^ (m + 1) := by rw [Nat.div_lt_iff_lt_mul (by omega)]; rw [Nat.pow_succ] at h; exact h
      have := ih _ this; omega
theorem putL_len63 (n : Nat) (h : n < 9223372036854775808) : (putL n).length ≤ 10 := putL_len 9 n (by omega)
theorem putL_pos (n : Nat) : 1 ≤ (putL n).length := by rw [putL]; split <;> simp

/-- The loop of Put: what has been written, and what is left. -/
def PutRel (n k : Nat) (out : Value) (B : Nat) (e : TypeId) (w wr : World) : Prop :=
  ∃ xs : List Nat, wr.ownsRow B e 1 out xs.length (xs.map byteV) ∧ Below B w wr ∧ xs ++ putL k = putL n
theorem PutRel.start (n B : Nat) (e : TypeId) (w : World) : PutRel n n (.slice none 0 0) B e w w := ⟨[], World.ownsRow_nil _ _ _ _, Below.refl _ _, rfl⟩
def Fit (n : Nat) : Prop := n < 9223372036854775808

theorem lowbyte2 (n : Nat) : IntKind.u8.wrap ((n : Int) % 128 + 128) = ((n % 128 + 128 : Nat) : Int) := by rw [IntKind.wrap_u8]; omega

theorem PutRel.step {n k B : Nat} {e : TypeId} {w wr w1 : World} {v' : Value} {xs : List Nat} {u : Int} (hown1 : w1.ownsRow B e 1 v' (xs.length + 1) (xs.map byteV ++ [.int .u8 u])) (hu : u = ((k % 128 + 128 : Nat) : Int))
    (hb : Below B w wr) (hb1 : Below B wr w1) (he : xs ++ putL k = putL n) (h : 128 ≤ (k : Int)) : ∃ k' : Nat, Value.int .i64 ((k : Int) / 128) = .int .i64 k' ∧ PutRel n k' v' B e w w1 := by
  subst hu
  refine ⟨k / 128, by simp, xs ++ [k % 128 + 128], ?_, hb.trans hb1, ?_⟩
  · simpa [byteV] using hown1
  · rw [← he, putL_hi k (by omega)]; simp
theorem PutRel.stop {n k B : Nat} {e : TypeId} {w wr w1 : World} {v' : Value} {xs : List Nat} (hown1 : w1.ownsRow B e 1 v' (xs.length + 1) (xs.map byteV ++ [.int .u8 (k : Int)]))
    (hb : Below B w wr) (hb1 : Below B wr w1) (he : xs ++ putL k = putL n) (h : (k : Int) < 128) : w1.ownsRow B e 1 v' (putL n).length ((putL n).map byteV) ∧ Below B w w1 := by
  refine ⟨?_, hb.trans hb1⟩
  rw [← he, putL_lo k (by omega)]
  simpa [byteV] using hown1
set_option maxRecDepth 100000 in
theorem delta_Put (n : Nat) (hn : Fit n) (w : World) : Calls Try.prog 6 #[.int .i64 n] w fun e w' =>
    ∃ v, e = .returned v ∧ w'.ownsRow w.heap.size 5 1 v (putL n).length ((putL n).map byteV) ∧ Below w.heap.size w w' := by
  have h0 : decide ((n : Int) < 0) = false := by simp
  have hl := putL_len63 n hn
  go_enter Try.func6, Try.ntmps6
  go_wp2
  go_loopw [2, 0] (fun out i wr => ∃ k : Nat, i = .int .i64 k ∧ PutRel n k out w.heap.size 5 w wr) (fun _ i _ => (intOf i).toNat)
  case atStart => exact ⟨n, rfl, PutRel.start _ _ _ _⟩
  case round =>
    obtain ⟨k, rfl, xs, hown, hb, he⟩ := hrel
    have hxl : xs.length < (putL n).length := by rw [← he]; simp; have := putL_pos k; omega
    have HE := Lib.hid he
    clear he
    by_cases h : 128 ≤ (k : Int)
    · have hlow := lowbyte k
      go_wp2_with (at_builtin; refine K.app1 rfl _ _ _ rfl w.heap.size _ (.int .u8 0) 1 Try.underlying22 infoU8 rfl _ _ _ rfl hown _ rfl rfl ?c1 ?c2 ?c3 ?_)
      case c1 => unfold maxLen; omega
      case c2 => omega
      case c3 => exact hb.size
      intro v' w1 hown1 hb1
      go_wp2
      go_roundw
      case rel => exact PutRel.step hown1 (by first | omega | exact lowbyte k) hb hb1 HE.out h
      case measure => simp [intOf]; omega
    · go_wp2_with (at_builtin; refine K.app1 rfl _ _ _ rfl w.heap.size _ (.int .u8 0) 1 Try.underlying22 infoU8 rfl _ _ _ rfl hown _ rfl rfl ?c1 ?c2 ?c3 ?_)
      case c1 => unfold maxLen; omega
      case c2 => omega
      case c3 => exact hb.size
      intro v' w1 hown1 hb1
      go_wp2
      go_ret
      obtain ⟨g1, g2⟩ := PutRel.stop (by exact hown1) hb hb1 HE.out (by omega)
      exact ⟨_, rfl, g1, g2⟩

theorem delta_Put_neg (n : Int) (hn : n < 0) (w : World) : Calls Try.prog 6 #[.int .i64 n] w fun e w' => e = .returned (.slice none 0 0) ∧ w = w' := by
  go_enter Try.func6, Try.ntmps6
  go_wp2
  go_ret
  exact ⟨rfl, rfl⟩
theorem r04_Put_neg (n : Int) (hn : n < 0) (w : World) : Calls Try.prog 7 #[.int .i64 n] w fun e w' => e = .returned (.slice none 0 0) ∧ w = w' := by
  go_enter Try.func7, Try.ntmps7
  go_wp2
  go_ret
  exact ⟨rfl, rfl⟩

set_option maxRecDepth 100000 in
theorem r04_Put (n : Nat) (hn : Fit n) (w : World) : Calls Try.prog 7 #[.int .i64 n] w fun e w' =>
    ∃ v, e = .returned v ∧ w'.ownsRow w.heap.size 5 1 v (putL n).length ((putL n).map byteV) ∧ Below w.heap.size w w' := by
  have h0 : decide ((n : Int) < 0) = false := by simp
  have hl := putL_len63 n hn
  go_enter Try.func7, Try.ntmps7
  go_wp2
  go_loopw [3, 0] (fun out i wr => ∃ k : Nat, k ≤ n ∧ i = .int .i64 k ∧ PutRel n k out w.heap.size 5 w wr) (fun _ i _ => (intOf i).toNat)
  case atStart => exact ⟨n, Nat.le_refl _, rfl, PutRel.start _ _ _ _⟩
  case round =>
    obtain ⟨k, hk, rfl, xs, hown, hb, he⟩ := hrel
    have hxl : xs.length < (putL n).length := by rw [← he]; simp; have := putL_pos k; omega
    have HE := Lib.hid he
    clear he
    have hk2 : (k : Int) ≤ 9223372036854775807 := by unfold Fit at hn; omega
    by_cases h : 127 < (k : Int)
    · go_wp2_with (at_builtin; refine K.app1 rfl _ _ _ rfl w.heap.size _ (.int .u8 0) 1 Try.underlying22 infoU8 rfl _ _ _ rfl hown _ rfl rfl ?c1 ?c2 ?c3 ?_)
      case c1 => unfold maxLen; omega
      case c2 => omega
      case c3 => exact hb.size
      intro v' w1 hown1 hb1
      go_wp2
      go_roundw
      case rel => obtain ⟨k', g1, g2⟩ := PutRel.step hown1 (by omega) hb hb1 HE.out (by omega); exact ⟨k', by simp at g1; omega, g1, g2⟩
      case measure => simp [intOf]; omega
    · go_wp2_with (at_builtin; refine K.app1 rfl _ _ _ rfl w.heap.size _ (.int .u8 0) 1 Try.underlying22 infoU8 rfl _ _ _ rfl hown _ rfl rfl ?c1 ?c2 ?c3 ?_)
      case c1 => unfold maxLen; omega
      case c2 => omega
      case c3 => exact hb.size
      intro v' w1 hown1 hb1
      go_wp2
      go_ret
      obtain ⟨g1, g2⟩ := PutRel.stop (by exact hown1) hb hb1 HE.out (by omega)
      exact ⟨_, rfl, g1, g2⟩
end Go.Proofs.Ytnkfohcekingfaa
