/-
  DeltaPuts for every number.
-/
import Derived.Test.YtnkfohcekingfaaGate
import Derived.Test.YtnkfohcekingfaaFrame
namespace Go.Proofs.Ytnkfohcekingfaa
open Go.ChangeShapes Go.WideShapes Go.ChangeAt Go.RowKit
theorem puts_all (n : Int) (hwf : (Lit.int .i64 n).wf = true) (w : World) : Calls Try.prog 3 #[.int .i64 n] w fun e w' => e = .returned (.bool true) ∧ Below w.heap.size w w' := by
  rcases Int.lt_or_le n 0 with h | h
  · exact puts_neg n h w
  · obtain ⟨k, rfl⟩ := Int.eq_ofNat_of_zero_le h
    refine puts k ?_ w
    have := bounds_i64 hwf
    unfold Fit; omega
end Go.Proofs.Ytnkfohcekingfaa
