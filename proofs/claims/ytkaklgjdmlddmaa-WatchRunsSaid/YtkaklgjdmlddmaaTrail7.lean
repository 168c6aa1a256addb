/-
  Package trail: New, Lits; a copy of a slice of numbers; are two slices of numbers the same?
-/
import Derived.Test.YtkaklgjdmlddmaaTrail6
import Derived.Deep.QuietTactic
import Derived.BigQuiet
namespace Go.Proofs.Ytkaklgjdmlddmaa
open Go.ChangeShapes Go.WideShapes Go.ChangeAt Go.RowKit
set_option linter.unusedVariables false

theorem infoMark : (Try.prog.info? 76).map (fun i => (i.zero, i.size, i.bytes)) = some (some (.agg #[.int .i8 0, .int .i64 0, .int .i64 0]), 3, 24) := by kernel_rfl
def TS.new (n : Nat) : TS := { l := [], ms := List.replicate (n + 1) (0, 0, 0), lv := [], wh := [], now := 0 }

theorem flat_replicate (n : Nat) : (List.replicate n [Value.int .i8 0, .int .i64 0, .int .i64 0]).flatten = (List.replicate n ((0, 0, 0) : Mk)).flatMap mkCells := by
  induction n with
  | zero => rfl
  | succ n ih => rw [List.replicate_succ, List.replicate_succ, List.flatten_cons, List.flatMap_cons, ih]; rfl

theorem trail_New (n : Nat) (hn : n ≤ 1048576) (w : World) : Calls Try.prog 9 #[.int .i64 n] w fun e w' => e = .returned (.pointer (some ⟨w.heap.size + 1, 0, none⟩)) ∧ TrailAt w' (w.heap.size + 1) (TS.new n) [w.heap.size + 1, w.heap.size] ∧ Below w.heap.size w w' := by
  have hmk := fun W => run_makeN (P := Try.prog) 55 76 (.agg #[.int .i8 0, .int .i64 0, .int .i64 0]) 3 24 Try.underlying55 infoMark .i64 .i64 (n + 1) (n + 1) (Nat.le_refl _) (by omega) (by omega) W
  have e1 : (((n + 1 : Nat) : Int)) = (n : Int) + 1 := by omega
  rw [e1] at hmk
  have h0 : decide ((n : Int) < 0) = false := by simp
  have h1 : decide (1048576 < (n : Int)) = false := by simp; omega
  clear e1
  go_enter Try.func9, Try.ntmps9
  go_wp2
  go_ret
  refine ⟨rfl, ?_, ((Below.refl _ w).alloc (Nat.le_refl _) _).alloc (by simp) _⟩
  have hrow := Row.made w 76 #[.int .i8 0, .int .i64 0, .int .i64 0] 3 (n + 1) (n + 1) rfl (by omega) (Nat.le_refl _) (by unfold maxLen; omega)
  have hp : Parts ((w.alloc (.cells (madeCells #[.int .i8 0, .int .i64 0, .int .i64 0] ((n + 1) * 3)) 76)).alloc (.cells #[.slice none 0 0, .slice (some ⟨w.heap.size, 0, none⟩) (n + 1) (n + 1), .slice none 0 0, .slice none 0 0, .int .i64 0] 57)) (w.heap.size + 1)
      (.slice none 0 0) (.slice (some ⟨w.heap.size, 0, none⟩) (n + 1) (n + 1)) (.slice none 0 0) (.slice none 0 0) 0 (TS.new n) := by
    refine ⟨?_, World.ownsRow_nil _ _ _ _, ?_, World.ownsRow_nil _ _ _ _, World.ownsRow_nil _ _ _ _, ?_⟩
    · have := Blk.new (w.alloc (.cells (madeCells #[.int .i8 0, .int .i64 0, .int .i64 0] ((n + 1) * 3)) 76)) 57 #[.slice none 0 0, .slice (some ⟨w.heap.size, 0, none⟩) (n + 1) (n + 1), .slice none 0 0, .slice none 0 0, .int .i64 0]
      simpa [i64] using this
    · have := hrow.alloc (.cells #[.slice none 0 0, .slice (some ⟨w.heap.size, 0, none⟩) (n + 1) (n + 1), .slice none 0 0, .slice none 0 0, .int .i64 0] 57)
      rw [show (#[Value.int .i8 0, .int .i64 0, .int .i64 0] : Array Value).toList = [Value.int .i8 0, .int .i64 0, .int .i64 0] from rfl, flat_replicate] at this
      have e : (TS.new n).ms.length = n + 1 := by simp [TS.new]
      rw [e]; exact this
    · simp [Value.ownBlock]
  have := hp.trail' (s := TS.new n) (by simp [TS.new]) rfl rfl rfl rfl rfl
  simpa [Value.ownBlock] using this
end Go.Proofs.Ytkaklgjdmlddmaa
