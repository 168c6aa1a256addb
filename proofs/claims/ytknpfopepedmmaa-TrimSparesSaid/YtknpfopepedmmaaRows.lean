/-
  No cell of these rows narrows 'for every input' (looked for: loops, veiled, ifaces, maps, wideKeys, modest, calm, conditions, laid).
  DERIVED. THE GIVEN ROWS OF THIS SEAT. 8 by the template 'for every input the law returns true; each argument reads behind the call as it read before'; 0 by the template 'total and deterministic' (their statements: YtknpfopepedmmaaTotals.lean).
  GIVEN WITH THE SEED: the statements are not yours to turn. If you find one false, say at which input.
  Laid BY PROGRAM, IN A SANDBOX (cutbox-rows.mjs): the forced cells as the released guide's own fill.sh prints them over the translation f5993eed71cd68d5… (all of the seat's roots in one cut). By AI agents, Wed Nov 11 2026. No macro, syntax, notation, axiom, sorry.
-/
import Derived.Test.YtknpfopepedmmaaChecked
import GoSem.Claim
import GoSem.ClaimJoined
import GoSem.ClaimMapViews
import Derived.JoinedTies
import Derived.KernelRfl
namespace Go.Proofs.Ytknpfopepedmmaa
/- THE CELL 'sum', in the pinned program and in every row, IS THE sha256 OF THE DUMP (.gsa) THAT YtknpfopepedmmaaProg.lean LOADS. Nothing in Lean hashes anything: it is a label: what it is worth is what the hold of that sum in a sandbox is worth. -/
noncomputable def Try.pinned : Pinned := { name := "ytknpfopepedmmaa", sum := "f5993eed71cd68d566463ae0dd8d9498b525901f715fa93e157f765d91ff542a", checked := Try.checked }
namespace Rows
def none {H : Type} : Left H := { results := [], args := [] }

/-- 'astrariumlaw25.RupPlays': WHATEVER THE INPUT: true; the input reads as it did. -/
def rupPlaysSpec : ChangeSpec := { name := "rupPlays", fn := fun _ => fun
  | [d] => { results := [.lit (.bool true)], args := [d] }
  | _ => none }
def rupPlaysRow : OpenClaim := { program := "ytknpfopepedmmaa", sum := "f5993eed71cd68d566463ae0dd8d9498b525901f715fa93e157f765d91ff542a", func := "astrarium/astrariumlaw25.RupPlays", spec := "rupPlays", unfollowed := true, recurses := true, apart := false }
def RupPlaysSaid : Prop := rupPlaysRow.holds Try.pinned (OpenSpec.ofChange rupPlaysSpec)

/-- ITS FALSE NEIGHBOUR: 'it returns false'. Refute it at one input. -/
def rupPlaysWrong : ChangeSpec := { name := "rupPlays", fn := fun _ => fun
  | [d] => { results := [.lit (.bool false)], args := [d] }
  | _ => none }
def RupPlaysWrongFalsely : Prop := rupPlaysRow.holds Try.pinned (OpenSpec.ofChange rupPlaysWrong)

/-- 'astrariumlaw25.RupNils': WHATEVER THE INPUT: true; the input reads as it did. -/
def rupNilsSpec : ChangeSpec := { name := "rupNils", fn := fun _ => fun
  | [d] => { results := [.lit (.bool true)], args := [d] }
  | _ => none }
def rupNilsRow : OpenClaim := { program := "ytknpfopepedmmaa", sum := "f5993eed71cd68d566463ae0dd8d9498b525901f715fa93e157f765d91ff542a", func := "astrarium/astrariumlaw25.RupNils", spec := "rupNils", unfollowed := true, recurses := true, apart := false }
def RupNilsSaid : Prop := rupNilsRow.holds Try.pinned (OpenSpec.ofChange rupNilsSpec)

/-- ITS FALSE NEIGHBOUR: 'it returns false'. Refute it at one input. -/
def rupNilsWrong : ChangeSpec := { name := "rupNils", fn := fun _ => fun
  | [d] => { results := [.lit (.bool false)], args := [d] }
  | _ => none }
def RupNilsWrongFalsely : Prop := rupNilsRow.holds Try.pinned (OpenSpec.ofChange rupNilsWrong)

/-- 'astrariumlaw25.RupChecks': WHATEVER THE INPUT: true; the input reads as it did. -/
def rupChecksSpec : ChangeSpec := { name := "rupChecks", fn := fun _ => fun
  | [d1, d2, d3] => { results := [.lit (.bool true)], args := [d1, d2, d3] }
  | _ => none }
def rupChecksRow : OpenClaim := { program := "ytknpfopepedmmaa", sum := "f5993eed71cd68d566463ae0dd8d9498b525901f715fa93e157f765d91ff542a", func := "astrarium/astrariumlaw25.RupChecks", spec := "rupChecks", unfollowed := true, recurses := true, apart := false }
def RupChecksSaid : Prop := rupChecksRow.holds Try.pinned (OpenSpec.ofChange rupChecksSpec)

/-- ITS FALSE NEIGHBOUR: 'it returns false'. Refute it at one input. -/
def rupChecksWrong : ChangeSpec := { name := "rupChecks", fn := fun _ => fun
  | [d1, d2, d3] => { results := [.lit (.bool false)], args := [d1, d2, d3] }
  | _ => none }
def RupChecksWrongFalsely : Prop := rupChecksRow.holds Try.pinned (OpenSpec.ofChange rupChecksWrong)

/-- 'astrariumlaw25.RupHolds': WHATEVER THE INPUT: true; the input reads as it did. -/
def rupHoldsSpec : ChangeSpec := { name := "rupHolds", fn := fun _ => fun
  | [d1, d2, d3, d4] => { results := [.lit (.bool true)], args := [d1, d2, d3, d4] }
  | _ => none }
def rupHoldsRow : OpenClaim := { program := "ytknpfopepedmmaa", sum := "f5993eed71cd68d566463ae0dd8d9498b525901f715fa93e157f765d91ff542a", func := "astrarium/astrariumlaw25.RupHolds", spec := "rupHolds", unfollowed := true, recurses := true, apart := false }
def RupHoldsSaid : Prop := rupHoldsRow.holds Try.pinned (OpenSpec.ofChange rupHoldsSpec)

/-- ITS FALSE NEIGHBOUR: 'it returns false'. Refute it at one input. -/
def rupHoldsWrong : ChangeSpec := { name := "rupHolds", fn := fun _ => fun
  | [d1, d2, d3, d4] => { results := [.lit (.bool false)], args := [d1, d2, d3, d4] }
  | _ => none }
def RupHoldsWrongFalsely : Prop := rupHoldsRow.holds Try.pinned (OpenSpec.ofChange rupHoldsWrong)

/-- 'astrariumlaw25.RupWhole': WHATEVER THE INPUT: true; the input reads as it did. -/
def rupWholeSpec : ChangeSpec := { name := "rupWhole", fn := fun _ => fun
  | [d1, d2] => { results := [.lit (.bool true)], args := [d1, d2] }
  | _ => none }
def rupWholeRow : OpenClaim := { program := "ytknpfopepedmmaa", sum := "f5993eed71cd68d566463ae0dd8d9498b525901f715fa93e157f765d91ff542a", func := "astrarium/astrariumlaw25.RupWhole", spec := "rupWhole", unfollowed := true, recurses := true, apart := false }
def RupWholeSaid : Prop := rupWholeRow.holds Try.pinned (OpenSpec.ofChange rupWholeSpec)

/-- ITS FALSE NEIGHBOUR: 'it returns false'. Refute it at one input. -/
def rupWholeWrong : ChangeSpec := { name := "rupWhole", fn := fun _ => fun
  | [d1, d2] => { results := [.lit (.bool false)], args := [d1, d2] }
  | _ => none }
def RupWholeWrongFalsely : Prop := rupWholeRow.holds Try.pinned (OpenSpec.ofChange rupWholeWrong)

/-- 'astrariumlaw26.TrimProofs': WHATEVER THE INPUT: true; the input reads as it did. -/
def trimProofsSpec : ChangeSpec := { name := "trimProofs", fn := fun _ => fun
  | [d1, d2, d3] => { results := [.lit (.bool true)], args := [d1, d2, d3] }
  | _ => none }
def trimProofsRow : OpenClaim := { program := "ytknpfopepedmmaa", sum := "f5993eed71cd68d566463ae0dd8d9498b525901f715fa93e157f765d91ff542a", func := "astrarium/astrariumlaw26.TrimProofs", spec := "trimProofs", unfollowed := true, recurses := true, apart := false }
def TrimProofsSaid : Prop := trimProofsRow.holds Try.pinned (OpenSpec.ofChange trimProofsSpec)

/-- ITS FALSE NEIGHBOUR: 'it returns false'. Refute it at one input. -/
def trimProofsWrong : ChangeSpec := { name := "trimProofs", fn := fun _ => fun
  | [d1, d2, d3] => { results := [.lit (.bool false)], args := [d1, d2, d3] }
  | _ => none }
def TrimProofsWrongFalsely : Prop := trimProofsRow.holds Try.pinned (OpenSpec.ofChange trimProofsWrong)

/-- 'astrariumlaw26.TrimCores': WHATEVER THE INPUT: true; the input reads as it did. -/
def trimCoresSpec : ChangeSpec := { name := "trimCores", fn := fun _ => fun
  | [d1, d2, d3] => { results := [.lit (.bool true)], args := [d1, d2, d3] }
  | _ => none }
def trimCoresRow : OpenClaim := { program := "ytknpfopepedmmaa", sum := "f5993eed71cd68d566463ae0dd8d9498b525901f715fa93e157f765d91ff542a", func := "astrarium/astrariumlaw26.TrimCores", spec := "trimCores", unfollowed := true, recurses := true, apart := false }
def TrimCoresSaid : Prop := trimCoresRow.holds Try.pinned (OpenSpec.ofChange trimCoresSpec)

/-- ITS FALSE NEIGHBOUR: 'it returns false'. Refute it at one input. -/
def trimCoresWrong : ChangeSpec := { name := "trimCores", fn := fun _ => fun
  | [d1, d2, d3] => { results := [.lit (.bool false)], args := [d1, d2, d3] }
  | _ => none }
def TrimCoresWrongFalsely : Prop := trimCoresRow.holds Try.pinned (OpenSpec.ofChange trimCoresWrong)

/-- 'astrariumlaw26.TrimSpares': WHATEVER THE INPUT: true; the input reads as it did. -/
def trimSparesSpec : ChangeSpec := { name := "trimSpares", fn := fun _ => fun
  | [d1, d2, d3, d4] => { results := [.lit (.bool true)], args := [d1, d2, d3, d4] }
  | _ => none }
def trimSparesRow : OpenClaim := { program := "ytknpfopepedmmaa", sum := "f5993eed71cd68d566463ae0dd8d9498b525901f715fa93e157f765d91ff542a", func := "astrarium/astrariumlaw26.TrimSpares", spec := "trimSpares", unfollowed := true, recurses := true, apart := false }
def TrimSparesSaid : Prop := trimSparesRow.holds Try.pinned (OpenSpec.ofChange trimSparesSpec)

/-- ITS FALSE NEIGHBOUR: 'it returns false'. Refute it at one input. -/
def trimSparesWrong : ChangeSpec := { name := "trimSpares", fn := fun _ => fun
  | [d1, d2, d3, d4] => { results := [.lit (.bool false)], args := [d1, d2, d3, d4] }
  | _ => none }
def TrimSparesWrongFalsely : Prop := trimSparesRow.holds Try.pinned (OpenSpec.ofChange trimSparesWrong)

/- THE SECOND FORM. 'bulk': how many values and letters a reading holds, each counted each time it is reached (what is shared counts as often as it is met; a slice's spare places count too). A statement '..UptoSaid' is the law's where the arguments, and the package variables that the reading takes, are together of bulk at most 1048576: NARROWER than '..Said'. Prove '..Said' where nothing that the law and all that it calls make is longer than what came in: it says more and counts as full. Else prove '..UptoSaid'. A law counts once. -/
mutual
def uptoBulk {H : Type} : DataW H → Nat
  | .lit (.string bytes) => bytes.length + 1
  | .lit _ => 1
  | .nil => 1
  | .ptr d => uptoBulk d + 1
  | .slice elems spare => uptoBulkAll elems + uptoBulkAll spare + 1
  | .agg parts => uptoBulkAll parts + 1
  | .iface _ d => uptoBulk d + 1
  | .map entries => uptoBulkEntries entries + 1
  | .held _ => 1
def uptoBulkAll {H : Type} : List (DataW H) → Nat
  | [] => 0
  | d :: r => uptoBulk d + uptoBulkAll r
def uptoBulkEntries {H : Type} : List (Lit × DataW H) → Nat
  | [] => 0
  | x :: r => uptoBulkEntry x + uptoBulkEntries r
def uptoBulkEntry {H : Type} : Lit × DataW H → Nat
  | (.string bytes, d) => bytes.length + uptoBulk d + 1
  | (_, d) => uptoBulk d + 1
 end
def uptoSmall : (H : Type) → List (DataW H) → Bool := fun _ ds => decide (uptoBulkAll ds ≤ 1048576)
def OpenSpec.upto (s : _root_.Go.ChangeSpec) : _root_.Go.OpenSpec := { _root_.Go.OpenSpec.ofChange s with cond := some uptoSmall }

/-- 'astrariumlaw25.RupPlays', WHERE WHAT IT READS IS OF BULK AT MOST 1048576: true; the input reads as it did. -/
def rupPlaysUptoRow : OpenClaim := { program := "ytknpfopepedmmaa", sum := "f5993eed71cd68d566463ae0dd8d9498b525901f715fa93e157f765d91ff542a", func := "astrarium/astrariumlaw25.RupPlays", spec := "rupPlays", unfollowed := true, recurses := true, apart := false, narrowed := true }
def RupPlaysUptoSaid : Prop := rupPlaysUptoRow.holds Try.pinned (OpenSpec.upto rupPlaysSpec)

/-- 'astrariumlaw25.RupNils', WHERE WHAT IT READS IS OF BULK AT MOST 1048576: true; the input reads as it did. -/
def rupNilsUptoRow : OpenClaim := { program := "ytknpfopepedmmaa", sum := "f5993eed71cd68d566463ae0dd8d9498b525901f715fa93e157f765d91ff542a", func := "astrarium/astrariumlaw25.RupNils", spec := "rupNils", unfollowed := true, recurses := true, apart := false, narrowed := true }
def RupNilsUptoSaid : Prop := rupNilsUptoRow.holds Try.pinned (OpenSpec.upto rupNilsSpec)

/-- 'astrariumlaw25.RupChecks', WHERE WHAT IT READS IS OF BULK AT MOST 1048576: true; the input reads as it did. -/
def rupChecksUptoRow : OpenClaim := { program := "ytknpfopepedmmaa", sum := "f5993eed71cd68d566463ae0dd8d9498b525901f715fa93e157f765d91ff542a", func := "astrarium/astrariumlaw25.RupChecks", spec := "rupChecks", unfollowed := true, recurses := true, apart := false, narrowed := true }
def RupChecksUptoSaid : Prop := rupChecksUptoRow.holds Try.pinned (OpenSpec.upto rupChecksSpec)

/-- 'astrariumlaw25.RupHolds', WHERE WHAT IT READS IS OF BULK AT MOST 1048576: true; the input reads as it did. -/
def rupHoldsUptoRow : OpenClaim := { program := "ytknpfopepedmmaa", sum := "f5993eed71cd68d566463ae0dd8d9498b525901f715fa93e157f765d91ff542a", func := "astrarium/astrariumlaw25.RupHolds", spec := "rupHolds", unfollowed := true, recurses := true, apart := false, narrowed := true }
def RupHoldsUptoSaid : Prop := rupHoldsUptoRow.holds Try.pinned (OpenSpec.upto rupHoldsSpec)

/-- 'astrariumlaw25.RupWhole', WHERE WHAT IT READS IS OF BULK AT MOST 1048576: true; the input reads as it did. -/
def rupWholeUptoRow : OpenClaim := { program := "ytknpfopepedmmaa", sum := "f5993eed71cd68d566463ae0dd8d9498b525901f715fa93e157f765d91ff542a", func := "astrarium/astrariumlaw25.RupWhole", spec := "rupWhole", unfollowed := true, recurses := true, apart := false, narrowed := true }
def RupWholeUptoSaid : Prop := rupWholeUptoRow.holds Try.pinned (OpenSpec.upto rupWholeSpec)

/-- 'astrariumlaw26.TrimProofs', WHERE WHAT IT READS IS OF BULK AT MOST 1048576: true; the input reads as it did. -/
def trimProofsUptoRow : OpenClaim := { program := "ytknpfopepedmmaa", sum := "f5993eed71cd68d566463ae0dd8d9498b525901f715fa93e157f765d91ff542a", func := "astrarium/astrariumlaw26.TrimProofs", spec := "trimProofs", unfollowed := true, recurses := true, apart := false, narrowed := true }
def TrimProofsUptoSaid : Prop := trimProofsUptoRow.holds Try.pinned (OpenSpec.upto trimProofsSpec)

/-- 'astrariumlaw26.TrimCores', WHERE WHAT IT READS IS OF BULK AT MOST 1048576: true; the input reads as it did. -/
def trimCoresUptoRow : OpenClaim := { program := "ytknpfopepedmmaa", sum := "f5993eed71cd68d566463ae0dd8d9498b525901f715fa93e157f765d91ff542a", func := "astrarium/astrariumlaw26.TrimCores", spec := "trimCores", unfollowed := true, recurses := true, apart := false, narrowed := true }
def TrimCoresUptoSaid : Prop := trimCoresUptoRow.holds Try.pinned (OpenSpec.upto trimCoresSpec)

/-- 'astrariumlaw26.TrimSpares', WHERE WHAT IT READS IS OF BULK AT MOST 1048576: true; the input reads as it did. -/
def trimSparesUptoRow : OpenClaim := { program := "ytknpfopepedmmaa", sum := "f5993eed71cd68d566463ae0dd8d9498b525901f715fa93e157f765d91ff542a", func := "astrarium/astrariumlaw26.TrimSpares", spec := "trimSpares", unfollowed := true, recurses := true, apart := false, narrowed := true }
def TrimSparesUptoSaid : Prop := trimSparesUptoRow.holds Try.pinned (OpenSpec.upto trimSparesSpec)

end Rows
end Go.Proofs.Ytknpfopepedmmaa
