/-
  The laws' own small functions: alive, fine.
-/
import Derived.Test.YtpophiiejmhniaaLits
namespace Go.Proofs.Ytpophiiejmhniaa.W01
open Go.ChangeShapes Go.WideShapes Go.ChangeAt Go.RowKit
set_option linter.unusedVariables false

theorem c1 : bits BinOp.and IntKind.i64 7 1 = 1 := by decide +kernel
theorem c2 : bits BinOp.xor IntKind.i64 6 1 = 7 := by decide +kernel
theorem c3 : bits BinOp.xor IntKind.i64 3 (-1) = -4 := by decide +kernel
theorem alive (w : World) : Calls Try.prog 8 #[] w fun e w' => e = .returned (.bool true) ∧ w = w' := by
  have := c1
  have := c2
  have := c3
  go_enter Try.func8, Try.ntmps8
  go_wp2
  go_ret
  exact ⟨rfl, rfl⟩
theorem fine_yes (l : Int) (w : World) (h0 : 0 ≤ l) (h1 : l ≤ 2305843009213693952) : Calls Try.prog 7 #[.int .i64 l] w fun e w' => e = .returned (.bool true) ∧ w = w' := by
  go_enter Try.func7, Try.ntmps7
  go_wp2
  go_ret
  exact ⟨rfl, rfl⟩
theorem fine_no (l : Int) (w : World) (h : l < 0 ∨ 2305843009213693952 < l) : Calls Try.prog 7 #[.int .i64 l] w fun e w' => e = .returned (.bool false) ∧ w = w' := by
  rcases h with h | h
  all_goals
    go_enter Try.func7, Try.ntmps7
    go_wp2
    go_ret
    refine ⟨?_, rfl⟩
    simp <;> omega

end Go.Proofs.Ytpophiiejmhniaa.W01
