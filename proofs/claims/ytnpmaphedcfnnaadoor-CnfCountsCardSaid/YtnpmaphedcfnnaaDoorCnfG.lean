/-
  The reference's Model, walked.
-/
import Derived.Test.YtnpmaphedcfnnaaDoorCnfF
import Derived.Test.YtnpmaphedcfnnaaDoorBoolsB
namespace Go.Proofs.YtnpmaphedcfnnaaDoor
open Go.ChangeShapes Go.WideShapes Go.ChangeAt Go.RowKit
set_option linter.unusedVariables false
def bitOf (k v : Nat) : Bool := decide (k / 2 ^ v % 2 = 1)
/-- The model by its number: of v variables. -/
def model (k : Nat) : Nat → List Bool
  | 0 => [false]
  | v + 1 => model k v ++ [bitOf k v]
theorem model_length (k : Nat) : ∀ v, (model k v).length = v + 1
  | 0 => rfl
  | v + 1 => by rw [model, List.length_append, model_length k v]; rfl
set_option maxHeartbeats 1000000 in
set_option maxRecDepth 100000 in
theorem r18_Model (k0 n : Nat) (hk : k0 ≤ 4096) (hn : n ≤ 12) (w : World) :
    Calls Tryd.prog 35 #[.int .i64 k0, .int .i64 n] w fun e w' => ∃ u, e = .returned u ∧ OwnT w w' u (model k0 n) := by
  go_enter Tryd.func35, Tryd.ntmps35
  go_wp2
  go_loopw [0, 5, 6] (fun q out i wr => ∃ j : Nat, j ≤ n ∧ i = .int .i64 j ∧ q = .int .i64 ((k0 / 2 ^ j : Nat) : Int) ∧ OwnT w wr out (model k0 j)) (fun _ _ i _ => n - (intOf i).toNat)
  case atStart => exact ⟨0, Nat.zero_le _, rfl, by simp, ⟨by
      have : Row (w.alloc (.cells #[.bool false] 4)) 4 1 (.slice (some ⟨w.heap.size, 0, none⟩) 1 1) 1 [.bool false] := ⟨rfl, .inr ⟨w.heap.size, 1, #[.bool false], rfl, Nat.zero_le _, heap_alloc_new w _, Nat.le_refl _, by simp [maxLen], rfl, rfl⟩⟩
      exact this, (Below.refl _ w).alloc (Nat.le_refl _) _, fun g hg => by simp [Value.ownBlock] at hg; omega⟩⟩
  case round =>
    obtain ⟨j, hj, rfl, rfl, hO⟩ := hrel
    by_cases hlt : (j : Int) < (n : Int)
    · have hq1 : k0 / 2 ^ (j + 1) = k0 / 2 ^ j / 2 := by rw [Nat.pow_succ, Nat.div_div_eq_div_mul]
      have hle : k0 / 2 ^ j ≤ 4096 := Nat.le_trans (Nat.div_le_self _ _) hk
      have hb : bitOf k0 j = decide (k0 / 2 ^ j % 2 = 1) := rfl
      have hm : model k0 (j + 1) = model k0 j ++ [bitOf k0 j] := rfl
      rw [hb] at hm
      have HQ1 := Lib.hid hq1
      have HM := Lib.hid hm
      have HL := Lib.hid (model_length k0 j)
      clear hq1 hb hm
      generalize k0 / 2 ^ j = q at *
      have q0 : (0 : Int) ≤ (q : Int) := by omega
      have q2 : (q : Int) ≤ 4096 := by omega
      have hrow := hO.1
      rw [HL.out] at hrow
      have HO := Lib.hid hO
      have HR := Lib.hid hrow
      clear hO hrow
      obtain ⟨bb, hbb⟩ : ∃ bb, bb = decide (q % 2 = 1) := ⟨_, rfl⟩
      have hb : (((q : Int) % 2) == 1) = bb := by
        rw [hbb, Bool.eq_iff_iff, beq_iff_eq, decide_eq_true_eq]
        omega
      rw [← hbb] at HM
      have HMM := HM
      clear HM hbb
      go_wp2_with (at_builtin; refine wpList_app rfl _ _ _ rfl 4 (.bool false) 1 1 Tryd.underlying24 infoB rfl (by decide) u5 (j + 1) ((model k0 j).map bv) rfl ?ho wr.heap.size 0 1 1 [.bool bb] rfl rfl ?hn ?hs ?c1 ?c2 ?_)
      case ho => exact HR.out.alloc _
      case hn => exact cellNew _ _ _ _ rfl
      case hs => exact oneCell1 rfl
      case c1 => unfold maxLen; omega
      case c2 => omega
      intro v' w3 hp3
      have hfin := HO.out.app (by rw [HL.out]; exact hp3)
      rw [← HMM.out] at hfin
      have HF := Lib.hid hfin
      clear hp3 hfin
      go_wp2
      go_roundw
      case rel => exact ⟨j + 1, by omega, by go_num, by rw [HQ1.out]; go_num, HF.out⟩
      case measure => simp [intOf]; omega
    · have hjn : j = n := by omega
      subst hjn
      have HO := Lib.hid hO
      clear hO
      go_wp2
      go_ret
      exact ⟨_, rfl, HO.out⟩
end Go.Proofs.YtnpmaphedcfnnaaDoor
