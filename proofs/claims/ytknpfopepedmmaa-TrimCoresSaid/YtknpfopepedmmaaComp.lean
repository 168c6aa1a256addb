/-
  slices.Compact at numbers, by the shelf's contract.
-/
import Derived.Test.YtknpfopepedmmaaOwnI
import Derived.Test.YtknpfopepedmmaaShelf
import Derived.Lib.RowBridge
namespace Go.Proofs.Ytknpfopepedmmaa
open Go.ChangeShapes Go.WideShapes Go.ChangeAt Go.RowKit
open Go.Sort (Holds grow putRow)
set_option linter.unusedVariables false
theorem comp_none (A : Option Addr) (cap : Nat) (w : World) : Calls Try.prog 66 #[.slice A 0 cap] w fun e w' => e = .returned (.slice A 0 cap) ∧ w = w' :=
  (Any.slices_Compact_int_empty Try.compI A cap w).mono fun e w' h => ⟨h.1, h.2.symm⟩
theorem comp_some {w wr : World} {g cap : Nat} {cur : Array Value} {xs : List Int} (hb : Below w.heap.size w wr) (hg : w.heap.size ≤ g) (h : wr.heap[g]? = some (.cells cur 3 (0, 0))) (h1 : xs.length ≤ cap) (h2 : cap ≤ maxLen) (h3 : cur.size = cap * 1) (h4 : cur.toList.take xs.length = xs.map (Value.int .i64)) (hs : xs.length ≤ 9223372036854775807) :
    Calls Try.prog 66 #[.slice (some ⟨g, 0, none⟩) xs.length cap] wr fun e w' => ∃ u, e = .returned u ∧ OwnI w w' u (Lib.compact xs) := by
  have hH : Holds (Value.int .i64) wr g 0 xs.toArray := holds_of_blockI h h4
  refine (Any.slices_Compact_int Try.compI g 0 cap xs wr hH hs h1).mono fun e w' ⟨he, q, hw⟩ => ⟨_, he, ?_⟩
  subst hw
  have hle := Lib.compact_length_le xs
  have ht := OwnI.turned (os := #[]) (n := q) (ts := Lib.compact xs ++ List.replicate (xs.length - (Lib.compact xs).length) 0) hb hg h (by simp; omega) h1 h2 h3
  rw [Go.Sort.grow_empty] at ht
  obtain ⟨⟨hl, hr⟩, hbb, hgg⟩ := ht
  refine ⟨?_, hbb, fun k hk => hgg k (by simpa [Value.ownBlock] using hk)⟩
  have hlen : (Lib.compact xs ++ List.replicate (xs.length - (Lib.compact xs).length) 0).length = xs.length := by simp; omega
  rw [hlen] at hl hr
  have := Row.take (w := _) ⟨hl, hr⟩ (Lib.compact xs).length hle
  rw [Nat.mul_one, ← List.map_take, List.take_left] at this
  exact this
end Go.Proofs.Ytknpfopepedmmaa
