/-
  TrailUndoes, with what its frame uses.
-/
import Derived.Test.YtmobejajochlfaaTrailU
import Derived.Test.YtmobejajochlfaaStructs
namespace Go.Proofs.Ytmobejajochlfaa
open Go.ChangeShapes Go.WideShapes Go.ChangeAt Go.RowKit
theorem undoes_all (v u : Value) (xs ys : List Act) (w : World) (hx : ActsAt w v xs) (hy : ActsAt w u ys) :
    Calls Try.prog 3 #[v, u] w fun e w' => e = .returned (.bool true) ∧ Below w.heap.size w w' := by
  by_cases h : 60 < xs.length ∨ 60 < ys.length
  · obtain ⟨a, cap, rfl, -⟩ := hx
    obtain ⟨b, cap2, rfl, -⟩ := hy
    exact undoes_big a b _ _ cap cap2 w h
  · exact undoes v u xs ys w hx hy (by omega) (by omega)
end Go.Proofs.Ytmobejajochlfaa
