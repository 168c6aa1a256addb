/-
  Package ram: what a memory holds, as plain data; the words that fit.
-/
import Derived.Test.YtpohekmfdbleeaaRows
import Derived.Test.YtpohekmfdbleeaaFoot
import Derived.Maps.OwnSet
import Derived.Maps.RangeWalk
import Derived.Deep.QuietTactic
import Derived.BigQuiet
namespace Go.Proofs.Ytpohekmfdbleeaa
open Go.ChangeShapes Go.WideShapes Go.ChangeAt Go.RowKit Go.Maps
set_option linter.unusedVariables false

abbrev CS := List (Int × Int)
def kd (x : Int) : Lit := .int .u64 x
def ent (p : Int × Int) : Lit × DataW Unit := (kd p.1, .lit (kd p.2))
def datC (cs : CS) : DataW Unit := .map (cs.map ent)
def getC (cs : CS) (x : Int) : Int := match cs.find? (fun p => p.1 == x) with | some p => p.2 | none => 0
def delC (cs : CS) (x : Int) : CS := cs.filter fun p => !(p.1 == x)
def insC (q : Int × Int) : CS → CS
  | [] => [q]
  | y :: r => if q.1 < y.1 then q :: y :: r else y :: insC q r
def putC (cs : CS) (x v : Int) : CS := insC (x, v) (delC cs x)

theorem same_kd (x y : Int) : (kd x).sameKey (kd y) = (x == y) := by
  simp only [kd, Lit.sameKey, true_and]; by_cases h : x = y <;> simp [h]
theorem find_dat (cs : CS) (x : Int) : (cs.map ent).find? (fun p => p.1.sameKey (kd x)) = (cs.find? (fun p => p.1 == x)).map ent := by
  induction cs with
  | nil => rfl
  | cons y r ih =>
    simp only [List.map_cons, List.find?_cons, ih]
    have : (ent y).1.sameKey (kd x) = (y.1 == x) := same_kd _ _
    rw [this]
    cases y.1 == x <;> rfl
theorem at_dat (cs : CS) (x : Int) : (datC cs).atKey (kd x) (.lit (.int .u64 0)) = .lit (.int .u64 (getC cs x)) := by
  unfold DataW.atKey datC getC
  simp only [find_dat]
  cases cs.find? (fun p => p.1 == x) <;> rfl
theorem filter_dat (cs : CS) (x : Int) : (cs.map ent).filter (fun p => !p.1.sameKey (kd x)) = (delC cs x).map ent := by
  unfold delC
  rw [List.filter_map]
  have : ((fun p : Lit × DataW Unit => !p.1.sameKey (kd x)) ∘ ent) = fun p => !(p.1 == x) := by
    funext p
    show (!(kd p.1).sameKey (kd x)) = _
    rw [same_kd]
  rw [this]
theorem del_dat (cs : CS) (x : Int) : (datC cs).del (kd x) = datC (delC cs x) := by
  show DataW.map ((cs.map ent).filter (fun p => !p.1.sameKey (kd x))) = _
  rw [filter_dat]; rfl
theorem ins_dat (q : Int × Int) (cs : CS) : DataW.insert (ent q) (cs.map ent) = (insC q cs).map ent := by
  induction cs with
  | nil => rfl
  | cons y r ih =>
    simp only [List.map_cons, DataW.insert, insC, ih]
    have : (ent q).1.before (ent y).1 = decide (q.1 < y.1) := rfl
    rw [this]
    by_cases h : q.1 < y.1 <;> simp [h]
theorem put_dat (cs : CS) (x v : Int) : (datC cs).put (kd x) (.lit (kd v)) = datC (putC cs x v) := by
  show DataW.map (DataW.insert (kd x, .lit (kd v)) ((cs.map ent).filter (fun p => !p.1.sameKey (kd x)))) = _
  rw [filter_dat]
  exact congrArg DataW.map (ins_dat (x, v) _)
theorem size_dat (cs : CS) : Maps.size (datC cs) = cs.length := by simp [Maps.size, datC]

/-! ### words that fit -/
def withN (n : Int) : Nat := (max (min n 64) 0).toNat
def fitsB (x n : Int) : Bool := decide (x / 2 ^ withN n = 0)
theorem withN_le (n : Int) : withN n ≤ 64 := by unfold withN; omega

theorem bits_within (n : Int) (w : World) : Calls Try.prog 25 #[.int .i64 n] w fun e w' => e = .returned (.int .i64 (withN n)) ∧ w = w' := by
  have hw : ((withN n : Nat) : Int) = max (min n 64) 0 := by unfold withN; omega
  rw [hw]
  clear hw
  go_enter Try.func25, Try.ntmps25
  go_wp2
  all_goals (go_ret; refine ⟨?_, rfl⟩; refine congrArg (fun z => Ending.returned (Value.int IntKind.i64 z)) ?_; split at * <;> omega)
set_option maxHeartbeats 400000 in
theorem bits_Fits (x n : Int) (h0 : 0 ≤ x) (h1 : x < 18446744073709551616) (w : World) : Calls Try.prog 20 #[.int .u64 x, .int .i64 n] w fun e w' => e = .returned (.bool (fitsB x n)) ∧ w = w' := by
  have hk := withN_le n
  obtain ⟨k, hkk⟩ : ∃ k, k = withN n := ⟨_, rfl⟩
  have HK := Lib.hid hkk
  rw [← hkk] at hk
  go_enter Try.func20, Try.ntmps20
  go_wp2_with ((go_at_call 25; refine (bits_within n w).mono ?_; rintro e w' ⟨rfl, rfl⟩))
  go_ret
  trace_state
  exact ⟨rfl, rfl⟩
end Go.Proofs.Ytpohekmfdbleeaa
