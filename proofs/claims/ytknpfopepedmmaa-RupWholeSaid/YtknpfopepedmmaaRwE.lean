/-
  The document's Model (of chapter 18), walked; Count, where no model is one.
-/
import Derived.Test.YtknpfopepedmmaaRwD
namespace Go.Proofs.Ytknpfopepedmmaa
open Go.ChangeShapes Go.WideShapes Go.ChangeAt Go.RowKit
set_option linter.unusedVariables false
set_option linter.unusedSimpArgs false
theorem infoB : (Try.prog.info? 4).map (fun i => (i.zero, i.size, i.bytes)) = some (some (.bool false), 1, 1) := by kernel_rfl
def bv (b : Bool) : Value := .bool b
theorem Row.bools {w : World} {v : Value} {ms : List Bool} (h : Row w 4 1 v ms.length (ms.map bv)) : Bools w v ms := by
  rcases h.form with ⟨rfl, h0, -⟩ | ⟨g, cap, rfl, h1, h2, -, hc⟩
  · obtain rfl := List.eq_nil_of_length_eq_zero h0
    exact ⟨none, 0, rfl, by simp, by simp, .inl rfl⟩
  · refine ⟨_, cap, rfl, h1, h2, .inr ⟨g, 0, rfl, fun j hj => ?_⟩⟩
    rw [Nat.zero_add, (hc j (by simpa using hj)).1]
    simp [List.getD, hj, bv]
/-- A row of truths of the call's own. -/
def OwnM (w wr : World) (out : Value) (xs : List Bool) : Prop := Row wr 4 1 out xs.length (xs.map bv) ∧ Below w.heap.size w wr ∧ ∀ g, out.ownBlock = some g → w.heap.size ≤ g
theorem OwnM.app {w wr w' : World} {v v' : Value} {xs : List Bool} {b : Bool} (h : OwnM w wr v xs) (hp : AppPost (wr.alloc (.cells #[.bool b] 4)) 4 1 v (xs.length + 1) (xs.map bv ++ [.bool b]) v' w') : OwnM w w' v' (xs ++ [b]) := by
  obtain ⟨p1, p2, p3⟩ := hp
  have hz := h.2.1.size
  refine ⟨by rw [List.length_append, List.map_append]; exact p1, (h.2.1.alloc hz _).trans (p2.below (by simp; omega) (fun i hi => h.2.2 i hi)), fun g hg => ?_⟩
  rcases p3 with e | e
  · rw [e] at hg; exact h.2.2 g hg
  · rw [e] at hg; simp at hg; omega
def bitOf (k v : Nat) : Bool := decide (k / 2 ^ v % 2 = 1)
/-- The model by its number: of v variables. -/
def model (k : Nat) : Nat → List Bool
  | 0 => [false]
  | v + 1 => model k v ++ [bitOf k v]
theorem model_length (k : Nat) : ∀ v, (model k v).length = v + 1
  | 0 => rfl
  | v + 1 => by rw [model, List.length_append, model_length k v]; rfl
set_option maxHeartbeats 1000000 in
set_option maxRecDepth 100000 in
theorem r18_Model (k0 n : Nat) (hk : k0 ≤ 4096) (hn : n ≤ 12) (w : World) :
    Calls Try.prog 58 #[.int .i64 k0, .int .i64 n] w fun e w' => ∃ u, e = .returned u ∧ OwnM w w' u (model k0 n) := by
  go_enter Try.func58, Try.ntmps58
  go_wp2
  go_loopw [0, 5, 6] (fun q out i wr => ∃ j : Nat, j ≤ n ∧ i = .int .i64 j ∧ q = .int .i64 ((k0 / 2 ^ j : Nat) : Int) ∧ OwnM w wr out (model k0 j)) (fun _ _ i _ => n - (intOf i).toNat)
  case atStart => exact ⟨0, Nat.zero_le _, rfl, by simp, ⟨by
      have : Row (w.alloc (.cells #[.bool false] 4)) 4 1 (.slice (some ⟨w.heap.size, 0, none⟩) 1 1) 1 [.bool false] := ⟨rfl, .inr ⟨w.heap.size, 1, #[.bool false], rfl, Nat.zero_le _, heap_alloc_new w _, Nat.le_refl _, by simp [maxLen], rfl, rfl⟩⟩
      exact this, (Below.refl _ w).alloc (Nat.le_refl _) _, fun g hg => by simp [Value.ownBlock] at hg; omega⟩⟩
  case round =>
    obtain ⟨j, hj, rfl, rfl, hO⟩ := hrel
    by_cases hlt : (j : Int) < (n : Int)
    · have hq1 : k0 / 2 ^ (j + 1) = k0 / 2 ^ j / 2 := by rw [Nat.pow_succ, Nat.div_div_eq_div_mul]
      have hle : k0 / 2 ^ j ≤ 4096 := Nat.le_trans (Nat.div_le_self _ _) hk
      have hb : bitOf k0 j = decide (k0 / 2 ^ j % 2 = 1) := rfl
      have hm : model k0 (j + 1) = model k0 j ++ [bitOf k0 j] := rfl
      rw [hb] at hm
      have HQ1 := Lib.hid hq1
      have HM := Lib.hid hm
      have HL := Lib.hid (model_length k0 j)
      clear hq1 hb hm
      generalize k0 / 2 ^ j = q at *
      have q0 : (0 : Int) ≤ (q : Int) := by omega
      have q2 : (q : Int) ≤ 4096 := by omega
      have hrow := hO.1
      rw [HL.out] at hrow
      have HO := Lib.hid hO
      have HR := Lib.hid hrow
      clear hO hrow
      obtain ⟨bb, hbb⟩ : ∃ bb, bb = decide (q % 2 = 1) := ⟨_, rfl⟩
      have hb : (((q : Int) % 2) == 1) = bb := by
        rw [hbb, Bool.eq_iff_iff, beq_iff_eq, decide_eq_true_eq]
        omega
      rw [← hbb] at HM
      have HMM := HM
      clear HM hbb
      go_wp2_with (at_builtin; refine wpList_app rfl _ _ _ rfl 4 (.bool false) 1 1 Try.underlying27 infoB rfl (by decide) u5 (j + 1) ((model k0 j).map bv) rfl ?ho wr.heap.size 0 1 1 [.bool bb] rfl rfl ?hn ?hs ?c1 ?c2 ?_)
      case ho => exact HR.out.alloc _
      case hn => exact cellNew _ _ _ _ rfl
      case hs => exact oneCell1 rfl
      case c1 => unfold maxLen; omega
      case c2 => omega
      intro v' w3 hp3
      have hfin := HO.out.app (by rw [HL.out]; exact hp3)
      rw [← HMM.out] at hfin
      have HF := Lib.hid hfin
      clear hp3 hfin
      go_wp2
      go_roundw
      case rel => exact ⟨j + 1, by omega, by go_num, by rw [HQ1.out]; go_num, HF.out⟩
      case measure => simp [intOf]; omega
    · have hjn : j = n := by omega
      subst hjn
      have HO := Lib.hid hO
      clear hO
      go_wp2
      go_ret
      exact ⟨_, rfl, HO.out⟩

set_option maxHeartbeats 2000000 in
set_option maxRecDepth 100000 in
theorem r18_CountZ {w : World} {vl : Value} {n : Nat} {xss : List (List Int)} (h2 : IntsS w vl xss) (hn : n ≤ 12) (hcl : AllCl xss) (hno : ∀ k, allB xss (model k n) = false) :
    Calls Try.prog 28 #[.agg #[.int .i64 (n : Int), vl], .slice none 0 0] w fun e w' => ∃ u, e = .returned (.tuple #[.int .i64 0, u]) ∧ Below w.heap.size w w' := by
  obtain ⟨la, lc, hlv, k1, k2⟩ := h2.form
  obtain ⟨ln, hln⟩ : ∃ ln, ln = xss.length := ⟨_, rfl⟩
  rw [← hln] at hlv
  subst hlv
  have HL := Lib.hid h2
  have HCL := Lib.hid hcl
  have HNO := Lib.hid hno
  have n0 : (0 : Int) ≤ (n : Int) := by omega
  have n1 : (n : Int) ≤ 12 := by omega
  have hw : wrap64 ((2 : Int) ^ n) = ((2 ^ n : Nat) : Int) := by
    have e : ((2 : Int) ^ n) = ((2 ^ n : Nat) : Int) := by simp
    have h1 : 2 ^ n ≤ 2 ^ 12 := Nat.pow_le_pow_right (by omega) hn
    rw [e]
    generalize 2 ^ n = m at *
    unfold wrap64
    omega
  have hM : 2 ^ n ≤ 4096 := by have h1 : 2 ^ n ≤ 2 ^ 12 := Nat.pow_le_pow_right (by omega) hn; simpa using h1
  obtain ⟨M, hMM⟩ : ∃ M, M = 2 ^ n := ⟨_, rfl⟩
  rw [← hMM] at hw hM
  have HB0 : Hid (Below w.heap.size w (w.alloc (.cells #[.int .i64 (n : Int), .slice la ln lc] 57))) := Lib.hid ((Below.refl _ _).alloc (Nat.le_refl _) _)
  have HK0 : Hid (Blk (w.alloc (.cells #[.int .i64 (n : Int), .slice la ln lc] 57)) w.heap.size 57 #[.int .i64 (n : Int), .slice la ln lc]) := Lib.hid (Blk.new w 57 _)
  clear h2 hcl hMM hln k1 k2 hno
  go_enter Try.func28, Try.ntmps28
  go_wp2
  go_loopw [6, 7, 8] (fun cnt first i wr => ∃ k : Nat, k ≤ M ∧ i = .int .i64 k ∧ cnt = .int .i64 0 ∧ first = .slice none 0 0 ∧ Blk wr w.heap.size 57 #[.int .i64 (n : Int), .slice la ln lc] ∧ Below w.heap.size w wr) (fun _ _ i _ => M - (intOf i).toNat)
  case atStart => exact ⟨0, Nat.zero_le _, rfl, rfl, rfl, HK0.out, HB0.out⟩
  case round =>
    obtain ⟨k, hk, rfl, rfl, rfl, hblk, hold⟩ := hrel
    have d0 : wr.cell? ⟨w.heap.size, 0, none⟩ = some (.int .i64 (n : Int)) := hblk.cell 0
    by_cases hlt : (k : Int) < (M : Int)
    · have HBL := Lib.hid hblk
      have HOL := Lib.hid hold
      clear hblk hold
      go_wp2_with fail
      refine (r18_Model k n (by omega) hn wr).mono ?_
      rintro e w1 ⟨u, rfl, hu⟩
      have b1 := hu.1.bools
      have B1 := Lib.hid b1
      have O1 := Lib.hid (HOL.out.trans (hu.2.1.mono HOL.out.size))
      have K1 := Lib.hid (HBL.out.below hu.2.1 HBL.out.lt)
      obtain ⟨ua, uc, rfl, -⟩ := b1
      rw [model_length] at B1 ⊢
      have e0 : w1.cell? ⟨w.heap.size, 0, none⟩ = some (.int .i64 (n : Int)) := K1.out.cell 0
      have e1 : w1.cell? ⟨w.heap.size, 1, none⟩ = some (.slice la ln lc) := K1.out.cell 1
      have hall := r17_All (HL.out.below O1.out) HCL.out B1.out
      rw [HNO.out] at hall
      have HA := Lib.hid hall
      clear hu d0 hall
      go_wp2_with fail
      refine HA.out.mono ?_
      rintro e w2 ⟨rfl, rfl⟩
      go_wp2
      go_loopw [10, 11] (fun is i wi => i = .int .i64 0 ∧ is = .bool false ∧ wi = w1) (fun _ i _ => 0)
      case atStart => exact ⟨rfl, rfl, rfl⟩
      case round =>
        obtain ⟨rfl, rfl, rfl⟩ := hrel
        go_wp2
        go_roundw
        case rel => exact ⟨k + 1, by omega, by go_num, rfl, rfl, K1.out, O1.out⟩
        case measure => simp [intOf]; omega
    · have hkM : k = M := by omega
      have HOL := Lib.hid hold
      clear hkM hblk hold
      go_wp2
      go_ret2
      exact ⟨⟨_, rfl⟩, HOL.out⟩
end Go.Proofs.Ytknpfopepedmmaa
