/-
  No cell of these rows narrows 'for every input' (looked for: loops, veiled, ifaces, maps, wideKeys, modest, calm, conditions, laid).
  DERIVED. THE GIVEN ROWS OF THIS SEAT. 3 by the template 'for every input the law returns true; each argument reads behind the call as it read before'; 0 by the template 'total and deterministic' (their statements: YtjldiojlmbgphaaTotals.lean).
  GIVEN WITH THE SEED: the statements are not yours to turn. If you find one false, say at which input.
  Laid BY PROGRAM, IN A SANDBOX (cutbox-rows.mjs): the forced cells as the released guide's own fill.sh prints them over the translation f4a28e2e4c3a557d… (all of the seat's roots in one cut). By AI agents, Wed Nov 11 2026. No macro, syntax, notation, axiom, sorry.
-/
import Derived.Test.YtjldiojlmbgphaaChecked
import GoSem.Claim
import GoSem.ClaimJoined
import GoSem.ClaimMapViews
import Derived.JoinedTies
import Derived.KernelRfl
namespace Go.Proofs.Ytjldiojlmbgphaa
/- THE CELL 'sum', in the pinned program and in every row, IS THE sha256 OF THE DUMP (.gsa) THAT YtjldiojlmbgphaaProg.lean LOADS. Nothing in Lean hashes anything: it is a label: what it is worth is what the hold of that sum in a sandbox is worth. -/
noncomputable def Try.pinned : Pinned := { name := "ytjldiojlmbgphaa", sum := "f4a28e2e4c3a557d92b70a354f2a062ca4ff2923f6914b17f828b27a9ad82b62", checked := Try.checked }
namespace Rows
def none {H : Type} : Left H := { results := [], args := [] }

/-- 'astrariumlaw17.ClauseHolds': WHATEVER THE INPUT: true; the input reads as it did. -/
def clauseHoldsSpec : ChangeSpec := { name := "clauseHolds", fn := fun _ => fun
  | [d1, d2] => { results := [.lit (.bool true)], args := [d1, d2] }
  | _ => none }
def clauseHoldsRow : OpenClaim := { program := "ytjldiojlmbgphaa", sum := "f4a28e2e4c3a557d92b70a354f2a062ca4ff2923f6914b17f828b27a9ad82b62", func := "astrarium/astrariumlaw17.ClauseHolds", spec := "clauseHolds", unfollowed := true, recurses := true, apart := false }
def ClauseHoldsSaid : Prop := clauseHoldsRow.holds Try.pinned (OpenSpec.ofChange clauseHoldsSpec)

/-- ITS FALSE NEIGHBOUR: 'it returns false'. Refute it at one input. -/
def clauseHoldsWrong : ChangeSpec := { name := "clauseHolds", fn := fun _ => fun
  | [d1, d2] => { results := [.lit (.bool false)], args := [d1, d2] }
  | _ => none }
def ClauseHoldsWrongFalsely : Prop := clauseHoldsRow.holds Try.pinned (OpenSpec.ofChange clauseHoldsWrong)

/-- 'astrariumlaw17.ClausePairs': WHATEVER THE INPUT: true; the input reads as it did. -/
def clausePairsSpec : ChangeSpec := { name := "clausePairs", fn := fun _ => fun
  | [d1, d2, d3] => { results := [.lit (.bool true)], args := [d1, d2, d3] }
  | _ => none }
def clausePairsRow : OpenClaim := { program := "ytjldiojlmbgphaa", sum := "f4a28e2e4c3a557d92b70a354f2a062ca4ff2923f6914b17f828b27a9ad82b62", func := "astrarium/astrariumlaw17.ClausePairs", spec := "clausePairs", unfollowed := true, recurses := true, apart := false }
def ClausePairsSaid : Prop := clausePairsRow.holds Try.pinned (OpenSpec.ofChange clausePairsSpec)

/-- ITS FALSE NEIGHBOUR: 'it returns false'. Refute it at one input. -/
def clausePairsWrong : ChangeSpec := { name := "clausePairs", fn := fun _ => fun
  | [d1, d2, d3] => { results := [.lit (.bool false)], args := [d1, d2, d3] }
  | _ => none }
def ClausePairsWrongFalsely : Prop := clausePairsRow.holds Try.pinned (OpenSpec.ofChange clausePairsWrong)

/-- 'astrariumlaw17.ClauseResolves': WHATEVER THE INPUT: true; the input reads as it did. -/
def clauseResolvesSpec : ChangeSpec := { name := "clauseResolves", fn := fun _ => fun
  | [d1, d2, d3, d4] => { results := [.lit (.bool true)], args := [d1, d2, d3, d4] }
  | _ => none }
def clauseResolvesRow : OpenClaim := { program := "ytjldiojlmbgphaa", sum := "f4a28e2e4c3a557d92b70a354f2a062ca4ff2923f6914b17f828b27a9ad82b62", func := "astrarium/astrariumlaw17.ClauseResolves", spec := "clauseResolves", unfollowed := true, recurses := true, apart := false }
def ClauseResolvesSaid : Prop := clauseResolvesRow.holds Try.pinned (OpenSpec.ofChange clauseResolvesSpec)

/-- ITS FALSE NEIGHBOUR: 'it returns false'. Refute it at one input. -/
def clauseResolvesWrong : ChangeSpec := { name := "clauseResolves", fn := fun _ => fun
  | [d1, d2, d3, d4] => { results := [.lit (.bool false)], args := [d1, d2, d3, d4] }
  | _ => none }
def ClauseResolvesWrongFalsely : Prop := clauseResolvesRow.holds Try.pinned (OpenSpec.ofChange clauseResolvesWrong)

/- THE SECOND FORM. 'bulk': how many values and letters a reading holds, each counted each time it is reached (what is shared counts as often as it is met; a slice's spare places count too). A statement '..UptoSaid' is the law's where the arguments, and the package variables that the reading takes, are together of bulk at most 1048576: NARROWER than '..Said'. Prove '..Said' where nothing that the law and all that it calls make is longer than what came in: it says more and counts as full. Else prove '..UptoSaid'. A law counts once. -/
mutual
def uptoBulk {H : Type} : DataW H → Nat
  | .lit (.string bytes) => bytes.length + 1
  | .lit _ => 1
  | .nil => 1
  | .ptr d => uptoBulk d + 1
  | .slice elems spare => uptoBulkAll elems + uptoBulkAll spare + 1
  | .agg parts => uptoBulkAll parts + 1
  | .iface _ d => uptoBulk d + 1
  | .map entries => uptoBulkEntries entries + 1
  | .held _ => 1
def uptoBulkAll {H : Type} : List (DataW H) → Nat
  | [] => 0
  | d :: r => uptoBulk d + uptoBulkAll r
def uptoBulkEntries {H : Type} : List (Lit × DataW H) → Nat
  | [] => 0
  | x :: r => uptoBulkEntry x + uptoBulkEntries r
def uptoBulkEntry {H : Type} : Lit × DataW H → Nat
  | (.string bytes, d) => bytes.length + uptoBulk d + 1
  | (_, d) => uptoBulk d + 1
 end
def uptoSmall : (H : Type) → List (DataW H) → Bool := fun _ ds => decide (uptoBulkAll ds ≤ 1048576)
def OpenSpec.upto (s : _root_.Go.ChangeSpec) : _root_.Go.OpenSpec := { _root_.Go.OpenSpec.ofChange s with cond := some uptoSmall }

/-- 'astrariumlaw17.ClauseHolds', WHERE WHAT IT READS IS OF BULK AT MOST 1048576: true; the input reads as it did. -/
def clauseHoldsUptoRow : OpenClaim := { program := "ytjldiojlmbgphaa", sum := "f4a28e2e4c3a557d92b70a354f2a062ca4ff2923f6914b17f828b27a9ad82b62", func := "astrarium/astrariumlaw17.ClauseHolds", spec := "clauseHolds", unfollowed := true, recurses := true, apart := false, narrowed := true }
def ClauseHoldsUptoSaid : Prop := clauseHoldsUptoRow.holds Try.pinned (OpenSpec.upto clauseHoldsSpec)

/-- 'astrariumlaw17.ClausePairs', WHERE WHAT IT READS IS OF BULK AT MOST 1048576: true; the input reads as it did. -/
def clausePairsUptoRow : OpenClaim := { program := "ytjldiojlmbgphaa", sum := "f4a28e2e4c3a557d92b70a354f2a062ca4ff2923f6914b17f828b27a9ad82b62", func := "astrarium/astrariumlaw17.ClausePairs", spec := "clausePairs", unfollowed := true, recurses := true, apart := false, narrowed := true }
def ClausePairsUptoSaid : Prop := clausePairsUptoRow.holds Try.pinned (OpenSpec.upto clausePairsSpec)

/-- 'astrariumlaw17.ClauseResolves', WHERE WHAT IT READS IS OF BULK AT MOST 1048576: true; the input reads as it did. -/
def clauseResolvesUptoRow : OpenClaim := { program := "ytjldiojlmbgphaa", sum := "f4a28e2e4c3a557d92b70a354f2a062ca4ff2923f6914b17f828b27a9ad82b62", func := "astrarium/astrariumlaw17.ClauseResolves", spec := "clauseResolves", unfollowed := true, recurses := true, apart := false, narrowed := true }
def ClauseResolvesUptoSaid : Prop := clauseResolvesUptoRow.holds Try.pinned (OpenSpec.upto clauseResolvesSpec)

end Rows
end Go.Proofs.Ytjldiojlmbgphaa
