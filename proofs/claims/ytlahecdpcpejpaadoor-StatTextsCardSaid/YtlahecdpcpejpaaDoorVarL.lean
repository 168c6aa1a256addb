/-
  lits.Var, and the reference's.
-/
import Derived.Test.YtlahecdpcpejpaaDoorRows
import Derived.WalkKit
import Derived.ProofKit
import Derived.Lib.Hide
namespace Go.Proofs.YtlahecdpcpejpaaDoor
open Go.ChangeShapes Go.WideShapes Go.ChangeAt Go.RowKit
theorem litsVar (l : Int) (w : World) : Calls Tryd.prog 29 #[.int .i64 l] w fun e w' => e = .returned (.int .i64 (l / 2)) ∧ w = w' := by
  go_enter Tryd.func29, Tryd.ntmps29
  go_wp2
  go_ret
  exact ⟨rfl, rfl⟩
theorem r01Var (l : Int) (w : World) (h0 : 0 ≤ l) (h1 : l ≤ 2305843009213693952) : Calls Tryd.prog 34 #[.int .i64 l] w fun e w' => e = .returned (.int .i64 (l / 2)) ∧ w = w' := by
  go_enter Tryd.func34, Tryd.ntmps34
  go_wp2
  go_ret
  exact ⟨rfl, rfl⟩
theorem litsVar_q (l : Int) (w : World) : Calls Tryd.prog 29 #[.int .i64 l] w fun e w' => e = .returned (.int .i64 (l / 2)) ∧ w' = w := (litsVar l w).mono fun _ _ ⟨a, b⟩ => ⟨a, b.symm⟩
theorem r01Var_q (l : Int) (w : World) (h0 : 0 ≤ l) (h1 : l ≤ 2305843009213693952) : Calls Tryd.prog 34 #[.int .i64 l] w fun e w' => e = .returned (.int .i64 (l / 2)) ∧ w' = w := (r01Var l w h0 h1).mono fun _ _ ⟨a, b⟩ => ⟨a, b.symm⟩
end Go.Proofs.YtlahecdpcpejpaaDoor
