/-
  The laws of chapter 11: RamLast, put together.
-/
import Derived.Test.YtpohekmfdbleeaaRamZ
namespace Go.Proofs.Ytpohekmfdbleeaa
open Go.ChangeShapes Go.WideShapes Go.ChangeAt Go.RowKit Go.Maps
set_option linter.unusedVariables false
theorem last {w : World} {v : Value} {l : AS} (h : Acts w v l) (aw ww x y z : Int) (hx : wf x) (hy : wf y) (hz : wf z) :
    Calls Try.prog 4 #[.int .i64 aw, .int .i64 ww, v, .int .u64 x, .int .u64 y, .int .u64 z] w fun e w' => e = .returned (.bool true) ∧ Below w.heap.size w w' := by
  cases hd : dimB aw ww
  · exact last_off aw ww x y z hd
  · by_cases hl : 60 < l.length
    · exact last_long h aw ww x y z hd hl
    · exact last_on h aw ww x y z hx hy hz hd (by omega)
end Go.Proofs.Ytpohekmfdbleeaa
