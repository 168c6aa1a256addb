/-
  delta.Take and its reference: the number of any bytes from an offset on.
-/
import Derived.Test.YtnkfohcekingfaaDelta
import Derived.Deep.LoopGhost
import Derived.Laws.BitsAllLaws
namespace Go.Proofs.Ytnkfohcekingfaa
open Go.ChangeShapes Go.WideShapes Go.ChangeAt Go.RowKit

def takeG (most pos : Int) : Nat → Nat → Nat → List Nat → Int × Int × Int
  | 0, _, _, _ => (0, 0, 4)
  | _ + 1, _, _, [] => (0, 0, 12)
  | f + 1, i, n, c :: r =>
    if 128 ≤ c then takeG most pos f (i + 1) (n + c % 128 * 128 ^ i) r
    else if c = 0 ∧ 0 < i then (0, 0, 4)
    else if most < ((n + c % 128 * 128 ^ i : Nat) : Int) then (0, 0, 4)
    else ((n + c % 128 * 128 ^ i : Nat), pos + i + 1, 0)
/-- What Take answers: of the bytes bs, from pos on, at most most. -/
def takeL (bs : List Nat) (pos most : Int) : Int × Int × Int :=
  if pos < 0 ∨ (bs.length : Int) < pos then (0, 0, 1) else takeG most pos 9 0 0 (bs.drop pos.toNat)
def trip (r : Int × Int × Int) : Value := .tuple #[.int .i64 r.1, .int .i64 r.2.1, .int .i64 r.2.2]

def TakeRel (most pos : Int) (rest : List Nat) (i n : Nat) : Prop := n < 128 ^ i ∧ takeG most pos (9 - i) i n (rest.drop i) = takeG most pos 9 0 0 rest

theorem u8_low (c : Nat) (h : c < 256) : bits BinOp.andNot IntKind.u8 (c : Int) 128 = ((c % 128 : Nat) : Int) := by
  have := u8_andNot_nat c 128 h (by omega)
  rw [show ((128 : Nat) : Int) = 128 from rfl] at this
  rw [this, show 255 - 128 = 127 from rfl, nat_mask7]
theorem pow7 (i : Nat) : 2 ^ (7 * i) = 128 ^ i := by rw [Nat.pow_mul]
theorem pow128 (i : Nat) (h : i ≤ 8) : 128 ^ i ≤ 72057594037927936 := by
  have : 128 ^ i ≤ 128 ^ 8 := Nat.pow_le_pow_right (by omega) h
  have e : (128 : Nat) ^ 8 = 72057594037927936 := by decide +kernel
  omega
theorem prod_lt (c i : Nat) (h : i ≤ 8) : c % 128 * 128 ^ i + 128 ^ i ≤ 9223372036854775808 := by
  have h1 := pow128 i h
  have h2 : (c % 128 + 1) * 128 ^ i ≤ 128 * 72057594037927936 := Nat.mul_le_mul (by omega) h1
  rw [Nat.add_mul, Nat.one_mul] at h2
  omega
/-- A group more is joined to the number. -/
theorem join7 (n c i : Nat) (hi : i ≤ 8) (hn : n < 128 ^ i) : bits BinOp.or IntKind.i64 (n : Int) (wrap64 ((c : Int) % 128 * 2 ^ (7 * i))) = ((n + c % 128 * 128 ^ i : Nat) : Int) := by
  have h1 := prod_lt c i hi
  have e : (c : Int) % 128 * 2 ^ (7 * i) = ((c % 128 * 128 ^ i : Nat) : Int) := by
    rw [← pow7]; simp
  rw [e, IntWalk.wrap64_in _ ⟨by omega, by omega⟩, B.or_nat _ _ (by omega) (by omega), Nat.or_comm, nat_join (7 * i) _ _ (by rw [pow7]; exact Nat.mul_mod_left _ _) (by rw [pow7]; exact hn), Nat.add_comm]
theorem step_lt (n c i : Nat) (hn : n < 128 ^ i) : n + c % 128 * 128 ^ i < 128 ^ (i + 1) := by
  have h2 : (c % 128 + 1) * 128 ^ i ≤ 128 * 128 ^ i := Nat.mul_le_mul (by omega) (Nat.le_refl _)
  rw [Nat.add_mul, Nat.one_mul] at h2
  rw [Nat.pow_succ]; omega
theorem TakeRel.start (most pos : Int) (rest : List Nat) : TakeRel most pos rest 0 0 := ⟨by simp, rfl⟩
theorem TakeRel.over {most pos : Int} {rest : List Nat} {n : Nat} (h : TakeRel most pos rest 9 n) : takeG most pos 9 0 0 rest = (0, 0, 4) := by
  rw [← h.2]; rfl
theorem TakeRel.short {most pos : Int} {rest : List Nat} {i n : Nat} (h : TakeRel most pos rest i n) (hi : i < 9) (he : rest.length ≤ i) : takeG most pos 9 0 0 rest = (0, 0, 12) := by
  rw [← h.2, List.drop_of_length_le he]
  obtain ⟨f, hf⟩ : ∃ f, 9 - i = f + 1 := ⟨8 - i, by omega⟩
  rw [hf]; rfl
theorem TakeRel.at {most pos : Int} {rest : List Nat} {i n c : Nat} (h : TakeRel most pos rest i n) (hi : i < 9) (he : i < rest.length) (hc : rest.getD i 0 = c) :
    takeG most pos 9 0 0 rest = if 128 ≤ c then takeG most pos (9 - (i + 1)) (i + 1) (n + c % 128 * 128 ^ i) (rest.drop (i + 1))
      else if c = 0 ∧ 0 < i then (0, 0, 4) else if most < ((n + c % 128 * 128 ^ i : Nat) : Int) then (0, 0, 4) else ((n + c % 128 * 128 ^ i : Nat), pos + i + 1, 0) := by
  rw [← h.2]
  obtain ⟨f, hf⟩ : ∃ f, 9 - i = f + 1 := ⟨8 - i, by omega⟩
  have hf' : 9 - (i + 1) = f := by omega
  have hd : rest.drop i = c :: rest.drop (i + 1) := by
    rw [List.drop_eq_getElem_cons he, ← hc]; simp [List.getD, he]
  rw [hf, hf', hd]; rfl
theorem TakeRel.next {most pos : Int} {rest : List Nat} {i n c : Nat} (h : TakeRel most pos rest i n) (hi : i < 9) (he : i < rest.length) (hc : rest.getD i 0 = c) (h8 : 128 ≤ c) :
    TakeRel most pos rest (i + 1) (n + c % 128 * 128 ^ i) :=
  ⟨step_lt _ _ _ h.1, by rw [h.at hi he hc, if_pos h8]⟩
theorem drop_getD (bs : List Nat) (k i : Nat) : (bs.drop k).getD i 0 = bs.getD (k + i) 0 := by simp [List.getD, List.getElem?_drop]

set_option maxRecDepth 100000 in
theorem delta_Take_in (b off len cap k : Nat) (bs : List Nat) (most : Int) (w : World) (hlen : bs.length = len) (hkl : k ≤ len) (hk : k < cap) (hlm : len ≤ 4611686018427387904) (hmax : cap ≤ maxLen)
    (hb : ∀ j, bs.getD j 0 < 256) (hc : ∀ j, j < len → w.cell? ⟨b, off + j, none⟩ = some (byteV (bs.getD j 0))) :
    Calls Try.prog 13 #[.slice (some ⟨b, off, none⟩) len cap, .int .i64 k, .int .i64 most] w fun e w' => e = .returned (trip (takeG most k 9 0 0 (bs.drop k))) ∧ w = w' := by
  replace hmax : cap ≤ 9223372036854775807 := hmax
  have h0 : decide ((k : Int) < 0) = false := by simp
  have h1 : decide (len < k) = false := by simp; omega
  have HC := Lib.hid hc
  have HB := Lib.hid hb
  have HL := Lib.hid (show (bs.drop k).length = len - k by simp [hlen])
  clear hc hlen hb
  go_enter Try.func13, Try.ntmps13
  go_wp2
  go_step3
  go_wp2
  go_step3
  go_wp2
  go_loop [6, 23] (fun n i => ∃ i' n' : Nat, i' ≤ 9 ∧ i' ≤ len - k ∧ i = .int .i64 i' ∧ n = .int .i64 n' ∧ TakeRel most k (bs.drop k) i' n') (fun _ i => 9 - (intOf i).toNat)
  case atStart => exact ⟨0, 0, by omega, by omega, rfl, rfl, TakeRel.start _ _ _⟩
  case round =>
    obtain ⟨i, n, hi, hil, rfl, rfl, hrel⟩ := hrel
    have HR := Lib.hid hrel
    clear hrel
    by_cases h9 : i = 9
    · have hf : takeG most k 9 0 0 (bs.drop k) = (0, 0, 4) := by subst h9; exact HR.out.over
      have h9' : ¬ (i : Int) < 9 := by omega
      have HF := Lib.hid hf
      clear hf h9 HR
      go_wp2
      go_ret3
      exact ⟨by rw [HF.out]; rfl, rfl⟩
    have h9' : (i : Int) < 9 := by omega
    by_cases hend : i = len - k
    · have hf : takeG most k 9 0 0 (bs.drop k) = (0, 0, 12) := HR.out.short (by omega) (by have := HL.out; omega)
      have hend' : ((i : Int) == ((len - k : Nat) : Int)) = true := by rw [beq_iff_eq]; omega
      have HF := Lib.hid hf
      clear hf h9 hend HR
      go_wp2
      go_ret3
      exact ⟨by rw [HF.out]; rfl, rfl⟩
    have hend' : ((i : Int) == ((len - k : Nat) : Int)) = false := by rw [beq_eq_false_iff_ne]; omega
    have hbd : (i : Int) < ((len - k : Nat) : Int) := by omega
    obtain ⟨c, hcd⟩ : ∃ c, c = bs.getD (k + i) 0 := ⟨_, rfl⟩
    have hc8 : c < 256 := by rw [hcd]; exact HB.out _
    have hcell : w.cell? ⟨b, off + k + i, none⟩ = some (.int .u8 c) := by rw [Nat.add_assoc, hcd]; exact HC.out (k + i) (by omega)
    have hat := HR.out.at (by omega) (by have := HL.out; omega) ((drop_getD bs k i).trans hcd.symm)
    have han := u8_low c hc8
    have hc8' : (c : Int) < 256 := by omega
    have hjoin := join7 n c i (by omega) HR.out.1
    have HJ := Lib.hid hjoin
    have HA := Lib.hid hat
    have HCD := Lib.hid hcd
    clear hcd hat hjoin h9 hend
    by_cases hcc : 128 ≤ (c : Int)
    · go_wp2
      go_round
      case rel => exact ⟨i + 1, _, by omega, by omega, by go_num, by rw [HJ.out], HR.out.next (by omega) (by have := HL.out; omega) ((drop_getD bs k i).trans HCD.out.symm) (by omega)⟩
      case measure => simp [intOf]; omega
    · have hf := HA.out
      rw [if_neg (by omega)] at hf
      have HJ2 := HJ
      by_cases hz : c = 0
      · by_cases hi0 : (0 : Int) < (i : Int)
        · rw [if_pos ⟨hz, by omega⟩] at hf
          have HF := Lib.hid hf
          have hz' : ((c : Int) == 0) = true := by rw [beq_iff_eq]; omega
          clear hf hz HA
          go_wp2
          go_ret3
          exact ⟨by rw [HF.out]; rfl, rfl⟩
        · have hi00 : i = 0 := by omega
          have hn0 : n = 0 := by have := HR.out.1; rw [hi00] at this; simpa using this
          subst hi00; subst hn0; subst hz
          rw [if_neg (by simp)] at hf
          simp only [Nat.zero_mod, Nat.zero_mul, Nat.add_zero] at hf
          have hcell' : w.cell? ⟨b, off + k, none⟩ = some (.int .u8 0) := by simpa using hcell
          have hend2 : ((0 : Int) == ((len - k : Nat) : Int)) = false := by rw [beq_eq_false_iff_ne]; omega
          have hbd2 : (0 : Int) < ((len - k : Nat) : Int) := by omega
          have b1 : bits BinOp.andNot IntKind.u8 0 128 = 0 := by decide +kernel
          have b0 : bits BinOp.or IntKind.i64 0 0 = 0 := by decide +kernel
          by_cases hm : most < (0 : Int)
          · rw [if_pos (by simpa using hm)] at hf
            have HF := Lib.hid hf
            clear hf HA
            go_wp2
            go_ret3
            exact ⟨by rw [HF.out]; rfl, rfl⟩
          · rw [if_neg (by simpa using hm)] at hf
            have HF := Lib.hid hf
            clear hf HA
            go_wp2
            go_ret3
            exact ⟨by rw [HF.out]; simp [trip], rfl⟩
      · have hz' : ((c : Int) == 0) = false := by rw [beq_eq_false_iff_ne]; omega
        rw [if_neg (by omega)] at hf
        obtain ⟨m, hm⟩ : ∃ m, m = n + c % 128 * 128 ^ i := ⟨_, rfl⟩
        have hj := HJ.out
        rw [← hm] at hj hf
        clear hm HJ HJ2 HA HR
        by_cases hmm : most < (m : Int)
        · rw [if_pos hmm] at hf
          have HF := Lib.hid hf
          clear hf
          go_wp2
          go_ret3
          exact ⟨by rw [HF.out]; rfl, rfl⟩
        · rw [if_neg hmm] at hf
          have HF := Lib.hid hf
          clear hf
          go_wp2
          go_ret3
          exact ⟨by rw [HF.out]; rfl, rfl⟩

/-- What the reference's loop carries: the power of 128 that comes next (from 8 on it stays). -/
def byOf (i : Nat) : Nat := 128 ^ (min i 8)
set_option maxRecDepth 100000 in
theorem r04_Take_in (b off len cap k : Nat) (bs : List Nat) (most : Int) (w : World) (hlen : bs.length = len) (hkl : k ≤ len) (hlm : len ≤ 4611686018427387904)
    (hb : ∀ j, bs.getD j 0 < 256) (hc : ∀ j, j < len → w.cell? ⟨b, off + j, none⟩ = some (byteV (bs.getD j 0))) :
    Calls Try.prog 14 #[.slice (some ⟨b, off, none⟩) len cap, .int .i64 k, .int .i64 most] w fun e w' => e = .returned (trip (takeG most k 9 0 0 (bs.drop k))) ∧ w = w' := by
  have h0 : decide ((k : Int) < 0) = false := by simp
  have h1 : decide (len < k) = false := by simp; omega
  have HC := Lib.hid hc
  have HB := Lib.hid hb
  have HL := Lib.hid (show (bs.drop k).length = len - k by simp [hlen])
  clear hc hlen hb
  go_enter Try.func14, Try.ntmps14
  go_wp2
  go_loop [9, 10, 11] (fun n by' i => ∃ i' n' : Nat, i' ≤ 9 ∧ i' ≤ len - k ∧ i = .int .i64 i' ∧ n = .int .i64 n' ∧ by' = .int .i64 (byOf i') ∧ TakeRel most k (bs.drop k) i' n') (fun _ _ i => 9 - (intOf i).toNat)
  case atStart => exact ⟨0, 0, by omega, by omega, rfl, rfl, rfl, TakeRel.start _ _ _⟩
  case round =>
    obtain ⟨i, n, hi, hil, rfl, rfl, rfl, hrel⟩ := hrel
    have HR := Lib.hid hrel
    clear hrel
    by_cases h9 : i = 9
    · have hf : takeG most k 9 0 0 (bs.drop k) = (0, 0, 4) := by subst h9; exact HR.out.over
      have h9' : ¬ (i : Int) < 9 := by omega
      have HF := Lib.hid hf
      clear hf h9 HR
      go_wp2
      go_ret3
      exact ⟨by rw [HF.out]; rfl, rfl⟩
    have h9' : (i : Int) < 9 := by omega
    by_cases hend : i = len - k
    · have hf : takeG most k 9 0 0 (bs.drop k) = (0, 0, 12) := HR.out.short (by omega) (by have := HL.out; omega)
      have hend' : (len : Int) ≤ (k : Int) + (i : Int) := by omega
      have HF := Lib.hid hf
      clear hf h9 hend HR
      go_wp2
      go_ret3
      exact ⟨by rw [HF.out]; rfl, rfl⟩
    have hend' : (k : Int) + (i : Int) < (len : Int) := by omega
    obtain ⟨c, hcd⟩ : ∃ c, c = bs.getD (k + i) 0 := ⟨_, rfl⟩
    have hc8 : c < 256 := by rw [hcd]; exact HB.out _
    have hcell : w.cell? ⟨b, off + (k + i), none⟩ = some (.int .u8 c) := by rw [hcd]; exact HC.out (k + i) (by omega)
    have hat := HR.out.at (by omega) (by have := HL.out; omega) ((drop_getD bs k i).trans hcd.symm)
    have hpl := prod_lt c i (by omega)
    have hnl := HR.out.1
    have hst := step_lt n c i hnl
    obtain ⟨pw, hpw⟩ : ∃ pw, pw = byOf i := ⟨_, rfl⟩
    have hpw2 : byOf i = 128 ^ i := by unfold byOf; rw [Nat.min_eq_left (by omega)]
    rw [← hpw2, ← hpw] at hat hpl hnl
    have hmul : ((c : Int) % 128) * (pw : Int) = ((c % 128 * pw : Nat) : Int) := by simp
    rw [← hpw]
    have hc8' : (c : Int) < 256 := by omega
    obtain ⟨q, hq⟩ : ∃ q, q = c % 128 * pw := ⟨_, rfl⟩
    rw [← hq] at hmul hpl hat
    have hnx : 128 ≤ c → TakeRel most k (bs.drop k) (i + 1) (n + q) := fun h8 => by
      rw [hq, hpw, hpw2]; exact HR.out.next (by omega) (by have := HL.out; omega) ((drop_getD bs k i).trans hcd.symm) h8
    have hby1 : i < 8 → wrap64 ((pw : Int) * 128) = (byOf (i + 1) : Int) := fun h => by
      have e1 : byOf (i + 1) = pw * 128 := by rw [hpw, hpw2]; unfold byOf; rw [Nat.min_eq_left (by omega), Nat.pow_succ]
      have := pow128 (i + 1) (by omega)
      rw [e1, IntWalk.wrap64_in _ ⟨by omega, ?_⟩]
      · simp
      · rw [Nat.pow_succ, ← hpw2, ← hpw] at this; omega
    have hby2 : 8 ≤ i → pw = byOf (i + 1) := fun h => by
      rw [hpw]; unfold byOf; rw [Nat.min_eq_right (by omega), Nat.min_eq_right (by omega)]
    have HA := Lib.hid hat
    have HN := Lib.hid hnx
    have HY1 := Lib.hid hby1
    have HY2 := Lib.hid hby2
    clear hcd hat h9 hend hpw hpw2 hst hq hnx hby1 hby2
    go_wp2
    all_goals first
      | (go_ret3
         refine ⟨?_, rfl⟩
         rw [HA.out, if_neg (by omega)]
         first
           | (rw [if_pos (show c = 0 ∧ 0 < i by omega)]; rfl)
           | (rw [if_neg (show ¬ (c = 0 ∧ 0 < i) by omega), if_pos (show most < ((n + q : Nat) : Int) by omega)]; rfl)
           | (rw [if_neg (show ¬ (c = 0 ∧ 0 < i) by omega), if_neg (show ¬ most < ((n + q : Nat) : Int) by omega)]; simp [trip] <;> omega))
      | (go_round
         case rel => exact ⟨i + 1, n + q, by omega, by omega, by go_num, by go_num, by first | rw [HY1.out (by omega)] | rw [HY2.out (by omega)], HN.out (by omega)⟩
         case measure => simp [intOf]; omega)

/-! ### All slices of bytes -/
theorem takeL_out (bs : List Nat) (pos most : Int) (h : pos < 0 ∨ (bs.length : Int) < pos) : takeL bs pos most = (0, 0, 1) := by unfold takeL; rw [if_pos h]
theorem takeL_in (bs : List Nat) (k : Nat) (most : Int) (h : k ≤ bs.length) : takeL bs k most = takeG most k 9 0 0 (bs.drop k) := by
  unfold takeL; rw [if_neg (by omega)]; simp
theorem takeL_end (bs : List Nat) (most : Int) : takeL bs (bs.length : Nat) most = (0, 0, 12) := by
  rw [takeL_in _ _ _ (Nat.le_refl _), List.drop_length]; rfl

theorem delta_Take_out (a : Option Addr) (len cap : Nat) (pos most : Int) (w : World) (h : pos < 0 ∨ (len : Int) < pos) :
    Calls Try.prog 13 #[.slice a len cap, .int .i64 pos, .int .i64 most] w fun e w' => e = .returned (trip (0, 0, 1)) ∧ w = w' := by
  by_cases h1 : pos < 0
  · go_enter Try.func13, Try.ntmps13
    go_wp2
    go_step3
    go_wp2
    try rw [Exit.noGoto_ret]
    go_ret3
    exact ⟨rfl, rfl⟩
  · have h2 : (len : Int) < pos := by omega
    go_enter Try.func13, Try.ntmps13
    go_wp2
    go_step3
    go_wp2
    try rw [Exit.noGoto_ret]
    go_ret3
    exact ⟨rfl, rfl⟩
theorem r04_Take_out (a : Option Addr) (len cap : Nat) (pos most : Int) (w : World) (h : pos < 0 ∨ (len : Int) < pos) :
    Calls Try.prog 14 #[.slice a len cap, .int .i64 pos, .int .i64 most] w fun e w' => e = .returned (trip (0, 0, 1)) ∧ w = w' := by
  by_cases h1 : pos < 0
  · go_enter Try.func14, Try.ntmps14
    go_wp2
    try rw [Exit.noGoto_ret]
    go_ret3
    exact ⟨rfl, rfl⟩
  · have h2 : (len : Int) < pos := by omega
    go_enter Try.func14, Try.ntmps14
    go_wp2
    try rw [Exit.noGoto_ret]
    go_ret3
    exact ⟨rfl, rfl⟩
set_option maxRecDepth 100000 in
theorem delta_Take_nil (a : Option Addr) (cap : Nat) (most : Int) (w : World) : Calls Try.prog 13 #[.slice a 0 cap, .int .i64 0, .int .i64 most] w fun e w' => e = .returned (trip (0, 0, 12)) ∧ w = w' := by
  go_enter Try.func13, Try.ntmps13
  go_wp2
  go_step3
  go_wp2
  go_step3
  go_wp2
  refine wp_loop_rounds 1 ?_
  rw [rounds_succ]
  go_wp2
  try rw [Exit.noGoto_ret]
  go_ret3
  exact ⟨rfl, rfl⟩
theorem r04_Take_nil (a : Option Addr) (cap : Nat) (most : Int) (w : World) : Calls Try.prog 14 #[.slice a 0 cap, .int .i64 0, .int .i64 most] w fun e w' => e = .returned (trip (0, 0, 12)) ∧ w = w' := by
  go_enter Try.func14, Try.ntmps14
  go_wp2
  refine wp_loop_rounds 1 ?_
  rw [rounds_succ]
  go_wp2
  go_ret3
  exact ⟨rfl, rfl⟩
set_option maxRecDepth 100000 in
theorem delta_Take_full (b off len : Nat) (most : Int) (w : World) : Calls Try.prog 13 #[.slice (some ⟨b, off, none⟩) len len, .int .i64 len, .int .i64 most] w fun e w' => e = .returned (trip (0, 0, 12)) ∧ w = w' := by
  have h0 : decide ((len : Int) < 0) = false := by simp
  go_enter Try.func13, Try.ntmps13
  go_wp2
  go_step3
  go_wp2
  go_step3
  go_wp2
  refine wp_loop_rounds 1 ?_
  rw [rounds_succ]
  go_wp2
  try rw [Exit.noGoto_ret]
  go_ret3
  exact ⟨rfl, rfl⟩

/-- A slice of bytes v that reads, in w, as bs. -/
def BytesAt (w : World) (v : Value) (bs : List Nat) : Prop :=
  (∀ j, bs.getD j 0 < 256) ∧ bs.length ≤ 4611686018427387903 ∧ ∃ a cap, v = .slice a bs.length cap ∧ bs.length ≤ cap ∧ cap ≤ maxLen ∧ (bs = [] ∨
    ∃ b off, a = some ⟨b, off, none⟩ ∧ ∀ j, j < bs.length → w.cell? ⟨b, off + j, none⟩ = some (byteV (bs.getD j 0)))

theorem delta_Take (v : Value) (bs : List Nat) (pos most : Int) (w : World) (h : BytesAt w v bs) :
    Calls Try.prog 13 #[v, .int .i64 pos, .int .i64 most] w fun e w' => e = .returned (trip (takeL bs pos most)) ∧ w = w' := by
  obtain ⟨hb, hbl, a, cap, rfl, hcap, hcm, hv⟩ := h
  by_cases ho : pos < 0 ∨ (bs.length : Int) < pos
  · rw [takeL_out _ _ _ ho]
    exact delta_Take_out a _ cap pos most w ho
  · obtain ⟨k, rfl⟩ := Int.eq_ofNat_of_zero_le (show 0 ≤ pos by omega)
    have hk : k ≤ bs.length := by omega
    rcases hv with rfl | ⟨b, off, rfl, hc⟩
    · obtain rfl : k = 0 := by simpa using hk
      exact delta_Take_nil a cap most w
    · by_cases h0 : bs.length = 0
      · obtain rfl := List.eq_nil_of_length_eq_zero h0
        obtain rfl : k = 0 := by simpa using hk
        exact delta_Take_nil _ cap most w
      · by_cases hkc : k < cap
        · rw [takeL_in _ _ _ hk]
          exact delta_Take_in b off bs.length cap k bs most w rfl hk hkc (by omega) hcm hb hc
        · obtain rfl : k = bs.length := by omega
          obtain rfl : cap = bs.length := by omega
          rw [takeL_end]
          exact delta_Take_full b off bs.length most w

theorem r04_Take (v : Value) (bs : List Nat) (pos most : Int) (w : World) (h : BytesAt w v bs) :
    Calls Try.prog 14 #[v, .int .i64 pos, .int .i64 most] w fun e w' => e = .returned (trip (takeL bs pos most)) ∧ w = w' := by
  obtain ⟨hb, hbl, a, cap, rfl, hcap, hcm, hv⟩ := h
  by_cases ho : pos < 0 ∨ (bs.length : Int) < pos
  · rw [takeL_out _ _ _ ho]
    exact r04_Take_out a _ cap pos most w ho
  · obtain ⟨k, rfl⟩ := Int.eq_ofNat_of_zero_le (show 0 ≤ pos by omega)
    have hk : k ≤ bs.length := by omega
    rcases hv with rfl | ⟨b, off, rfl, hc⟩
    · obtain rfl : k = 0 := by simpa using hk
      exact r04_Take_nil a cap most w
    · by_cases h0 : bs.length = 0
      · obtain rfl := List.eq_nil_of_length_eq_zero h0
        obtain rfl : k = 0 := by simpa using hk
        exact r04_Take_nil _ cap most w
      · rw [takeL_in _ _ _ hk]
        exact r04_Take_in b off bs.length cap k bs most w rfl hk (by omega) hb hc

end Go.Proofs.Ytnkfohcekingfaa
