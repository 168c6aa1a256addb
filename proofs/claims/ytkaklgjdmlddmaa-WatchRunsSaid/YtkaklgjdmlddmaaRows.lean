/-
  No cell of these rows narrows 'for every input' (looked for: loops, veiled, ifaces, maps, wideKeys, modest, calm, conditions, laid).
  DERIVED. THE GIVEN ROWS OF THIS SEAT. 4 by the template 'for every input the law returns true; each argument reads behind the call as it read before'; 0 by the template 'total and deterministic' (their statements: YtkaklgjdmlddmaaTotals.lean).
  GIVEN WITH THE SEED: the statements are not yours to turn. If you find one false, say at which input.
  Laid BY PROGRAM, IN A SANDBOX (cutbox-rows.mjs): the forced cells as the released guide's own fill.sh prints them over the translation 4f38ddc7e4ec3ec9… (all of the seat's roots in one cut). By AI agents, Wed Nov 11 2026. No macro, syntax, notation, axiom, sorry.
-/
import Derived.Test.YtkaklgjdmlddmaaChecked
import GoSem.Claim
import GoSem.ClaimJoined
import GoSem.ClaimMapViews
import Derived.JoinedTies
import Derived.KernelRfl
namespace Go.Proofs.Ytkaklgjdmlddmaa
/- THE CELL 'sum', in the pinned program and in every row, IS THE sha256 OF THE DUMP (.gsa) THAT YtkaklgjdmlddmaaProg.lean LOADS. Nothing in Lean hashes anything: it is a label: what it is worth is what the hold of that sum in a sandbox is worth. -/
noncomputable def Try.pinned : Pinned := { name := "ytkaklgjdmlddmaa", sum := "4f38ddc7e4ec3ec99eb8342ca8166b669c412fe5bfbd2d68d57f0207ed376ac2", checked := Try.checked }
namespace Rows
def none {H : Type} : Left H := { results := [], args := [] }

/-- 'astrariumlaw22.WatchCloses': WHATEVER THE INPUT: true; the input reads as it did. -/
def watchClosesSpec : ChangeSpec := { name := "watchCloses", fn := fun _ => fun
  | [d1, d2] => { results := [.lit (.bool true)], args := [d1, d2] }
  | _ => none }
def watchClosesRow : OpenClaim := { program := "ytkaklgjdmlddmaa", sum := "4f38ddc7e4ec3ec99eb8342ca8166b669c412fe5bfbd2d68d57f0207ed376ac2", func := "astrarium/astrariumlaw22.WatchCloses", spec := "watchCloses", unfollowed := true, recurses := true, apart := false }
def WatchClosesSaid : Prop := watchClosesRow.holds Try.pinned (OpenSpec.ofChange watchClosesSpec)

/-- ITS FALSE NEIGHBOUR: 'it returns false'. Refute it at one input. -/
def watchClosesWrong : ChangeSpec := { name := "watchCloses", fn := fun _ => fun
  | [d1, d2] => { results := [.lit (.bool false)], args := [d1, d2] }
  | _ => none }
def WatchClosesWrongFalsely : Prop := watchClosesRow.holds Try.pinned (OpenSpec.ofChange watchClosesWrong)

/-- 'astrariumlaw22.WatchClauses': WHATEVER THE INPUT: true; the input reads as it did. -/
def watchClausesSpec : ChangeSpec := { name := "watchClauses", fn := fun _ => fun
  | [d1, d2] => { results := [.lit (.bool true)], args := [d1, d2] }
  | _ => none }
def watchClausesRow : OpenClaim := { program := "ytkaklgjdmlddmaa", sum := "4f38ddc7e4ec3ec99eb8342ca8166b669c412fe5bfbd2d68d57f0207ed376ac2", func := "astrarium/astrariumlaw22.WatchClauses", spec := "watchClauses", unfollowed := true, recurses := true, apart := false }
def WatchClausesSaid : Prop := watchClausesRow.holds Try.pinned (OpenSpec.ofChange watchClausesSpec)

/-- ITS FALSE NEIGHBOUR: 'it returns false'. Refute it at one input. -/
def watchClausesWrong : ChangeSpec := { name := "watchClauses", fn := fun _ => fun
  | [d1, d2] => { results := [.lit (.bool false)], args := [d1, d2] }
  | _ => none }
def WatchClausesWrongFalsely : Prop := watchClausesRow.holds Try.pinned (OpenSpec.ofChange watchClausesWrong)

/-- 'astrariumlaw22.WatchNils': WHATEVER THE INPUT: true; the input reads as it did. -/
def watchNilsSpec : ChangeSpec := { name := "watchNils", fn := fun _ => fun
  | [d1, d2] => { results := [.lit (.bool true)], args := [d1, d2] }
  | _ => none }
def watchNilsRow : OpenClaim := { program := "ytkaklgjdmlddmaa", sum := "4f38ddc7e4ec3ec99eb8342ca8166b669c412fe5bfbd2d68d57f0207ed376ac2", func := "astrarium/astrariumlaw22.WatchNils", spec := "watchNils", unfollowed := true, recurses := true, apart := false }
def WatchNilsSaid : Prop := watchNilsRow.holds Try.pinned (OpenSpec.ofChange watchNilsSpec)

/-- ITS FALSE NEIGHBOUR: 'it returns false'. Refute it at one input. -/
def watchNilsWrong : ChangeSpec := { name := "watchNils", fn := fun _ => fun
  | [d1, d2] => { results := [.lit (.bool false)], args := [d1, d2] }
  | _ => none }
def WatchNilsWrongFalsely : Prop := watchNilsRow.holds Try.pinned (OpenSpec.ofChange watchNilsWrong)

/-- 'astrariumlaw22.WatchRuns': WHATEVER THE INPUT: true; the input reads as it did. -/
def watchRunsSpec : ChangeSpec := { name := "watchRuns", fn := fun _ => fun
  | [d1, d2] => { results := [.lit (.bool true)], args := [d1, d2] }
  | _ => none }
def watchRunsRow : OpenClaim := { program := "ytkaklgjdmlddmaa", sum := "4f38ddc7e4ec3ec99eb8342ca8166b669c412fe5bfbd2d68d57f0207ed376ac2", func := "astrarium/astrariumlaw22.WatchRuns", spec := "watchRuns", unfollowed := true, recurses := true, apart := false }
def WatchRunsSaid : Prop := watchRunsRow.holds Try.pinned (OpenSpec.ofChange watchRunsSpec)

/-- ITS FALSE NEIGHBOUR: 'it returns false'. Refute it at one input. -/
def watchRunsWrong : ChangeSpec := { name := "watchRuns", fn := fun _ => fun
  | [d1, d2] => { results := [.lit (.bool false)], args := [d1, d2] }
  | _ => none }
def WatchRunsWrongFalsely : Prop := watchRunsRow.holds Try.pinned (OpenSpec.ofChange watchRunsWrong)

/- THE SECOND FORM. 'bulk': how many values and letters a reading holds, each counted each time it is reached (what is shared counts as often as it is met; a slice's spare places count too). A statement '..UptoSaid' is the law's where the arguments, and the package variables that the reading takes, are together of bulk at most 1048576: NARROWER than '..Said'. Prove '..Said' where nothing that the law and all that it calls make is longer than what came in: it says more and counts as full. Else prove '..UptoSaid'. A law counts once. -/
mutual
def uptoBulk {H : Type} : DataW H → Nat
  | .lit (.string bytes) => bytes.length + 1
  | .lit _ => 1
  | .nil => 1
  | .ptr d => uptoBulk d + 1
  | .slice elems spare => uptoBulkAll elems + uptoBulkAll spare + 1
  | .agg parts => uptoBulkAll parts + 1
  | .iface _ d => uptoBulk d + 1
  | .map entries => uptoBulkEntries entries + 1
  | .held _ => 1
def uptoBulkAll {H : Type} : List (DataW H) → Nat
  | [] => 0
  | d :: r => uptoBulk d + uptoBulkAll r
def uptoBulkEntries {H : Type} : List (Lit × DataW H) → Nat
  | [] => 0
  | x :: r => uptoBulkEntry x + uptoBulkEntries r
def uptoBulkEntry {H : Type} : Lit × DataW H → Nat
  | (.string bytes, d) => bytes.length + uptoBulk d + 1
  | (_, d) => uptoBulk d + 1
 end
def uptoSmall : (H : Type) → List (DataW H) → Bool := fun _ ds => decide (uptoBulkAll ds ≤ 1048576)
def OpenSpec.upto (s : _root_.Go.ChangeSpec) : _root_.Go.OpenSpec := { _root_.Go.OpenSpec.ofChange s with cond := some uptoSmall }

/-- 'astrariumlaw22.WatchCloses', WHERE WHAT IT READS IS OF BULK AT MOST 1048576: true; the input reads as it did. -/
def watchClosesUptoRow : OpenClaim := { program := "ytkaklgjdmlddmaa", sum := "4f38ddc7e4ec3ec99eb8342ca8166b669c412fe5bfbd2d68d57f0207ed376ac2", func := "astrarium/astrariumlaw22.WatchCloses", spec := "watchCloses", unfollowed := true, recurses := true, apart := false, narrowed := true }
def WatchClosesUptoSaid : Prop := watchClosesUptoRow.holds Try.pinned (OpenSpec.upto watchClosesSpec)

/-- 'astrariumlaw22.WatchClauses', WHERE WHAT IT READS IS OF BULK AT MOST 1048576: true; the input reads as it did. -/
def watchClausesUptoRow : OpenClaim := { program := "ytkaklgjdmlddmaa", sum := "4f38ddc7e4ec3ec99eb8342ca8166b669c412fe5bfbd2d68d57f0207ed376ac2", func := "astrarium/astrariumlaw22.WatchClauses", spec := "watchClauses", unfollowed := true, recurses := true, apart := false, narrowed := true }
def WatchClausesUptoSaid : Prop := watchClausesUptoRow.holds Try.pinned (OpenSpec.upto watchClausesSpec)

/-- 'astrariumlaw22.WatchNils', WHERE WHAT IT READS IS OF BULK AT MOST 1048576: true; the input reads as it did. -/
def watchNilsUptoRow : OpenClaim := { program := "ytkaklgjdmlddmaa", sum := "4f38ddc7e4ec3ec99eb8342ca8166b669c412fe5bfbd2d68d57f0207ed376ac2", func := "astrarium/astrariumlaw22.WatchNils", spec := "watchNils", unfollowed := true, recurses := true, apart := false, narrowed := true }
def WatchNilsUptoSaid : Prop := watchNilsUptoRow.holds Try.pinned (OpenSpec.upto watchNilsSpec)

/-- 'astrariumlaw22.WatchRuns', WHERE WHAT IT READS IS OF BULK AT MOST 1048576: true; the input reads as it did. -/
def watchRunsUptoRow : OpenClaim := { program := "ytkaklgjdmlddmaa", sum := "4f38ddc7e4ec3ec99eb8342ca8166b669c412fe5bfbd2d68d57f0207ed376ac2", func := "astrarium/astrariumlaw22.WatchRuns", spec := "watchRuns", unfollowed := true, recurses := true, apart := false, narrowed := true }
def WatchRunsUptoSaid : Prop := watchRunsUptoRow.holds Try.pinned (OpenSpec.upto watchRunsSpec)

end Rows
end Go.Proofs.Ytkaklgjdmlddmaa
