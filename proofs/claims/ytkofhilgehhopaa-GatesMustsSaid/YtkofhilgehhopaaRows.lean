/-
  No cell of these rows narrows 'for every input' (looked for: loops, veiled, ifaces, maps, wideKeys, modest, calm, conditions, laid).
  DERIVED. THE GIVEN ROWS OF THIS SEAT. 3 by the template 'for every input the law returns true; each argument reads behind the call as it read before'; 0 by the template 'total and deterministic' (their statements: YtkofhilgehhopaaTotals.lean).
  GIVEN WITH THE SEED: the statements are not yours to turn. If you find one false, say at which input.
  Laid BY PROGRAM, IN A SANDBOX (cutbox-rows.mjs): the forced cells as the released guide's own fill.sh prints them over the translation ae7d8bf851cca722… (all of the seat's roots in one cut). By AI agents, Wed Nov 11 2026. No macro, syntax, notation, axiom, sorry.
-/
import Derived.Test.YtkofhilgehhopaaChecked
import GoSem.Claim
import GoSem.ClaimJoined
import GoSem.ClaimMapViews
import Derived.JoinedTies
import Derived.KernelRfl
namespace Go.Proofs.Ytkofhilgehhopaa
/- THE CELL 'sum', in the pinned program and in every row, IS THE sha256 OF THE DUMP (.gsa) THAT YtkofhilgehhopaaProg.lean LOADS. Nothing in Lean hashes anything: it is a label: what it is worth is what the hold of that sum in a sandbox is worth. -/
noncomputable def Try.pinned : Pinned := { name := "ytkofhilgehhopaa", sum := "ae7d8bf851cca722d630774c3e73f070fcdb53e23ae744bf95eac39a0c639d3e", checked := Try.checked }
namespace Rows
def none {H : Type} : Left H := { results := [], args := [] }

/-- 'astrariumlaw27.GatesNils': WHATEVER THE INPUT: true; the input reads as it did. -/
def gatesNilsSpec : ChangeSpec := { name := "gatesNils", fn := fun _ => fun
  | [d1, d2] => { results := [.lit (.bool true)], args := [d1, d2] }
  | _ => none }
def gatesNilsRow : OpenClaim := { program := "ytkofhilgehhopaa", sum := "ae7d8bf851cca722d630774c3e73f070fcdb53e23ae744bf95eac39a0c639d3e", func := "astrarium/astrariumlaw27.GatesNils", spec := "gatesNils", unfollowed := true, recurses := true, plainKeys := false, apart := false }
def GatesNilsSaid : Prop := gatesNilsRow.holds Try.pinned (OpenSpec.ofChange gatesNilsSpec)

/-- ITS FALSE NEIGHBOUR: 'it returns false'. Refute it at one input. -/
def gatesNilsWrong : ChangeSpec := { name := "gatesNils", fn := fun _ => fun
  | [d1, d2] => { results := [.lit (.bool false)], args := [d1, d2] }
  | _ => none }
def GatesNilsWrongFalsely : Prop := gatesNilsRow.holds Try.pinned (OpenSpec.ofChange gatesNilsWrong)

/-- 'astrariumlaw27.GatesMeans': WHATEVER THE INPUT: true; the input reads as it did. -/
def gatesMeansSpec : ChangeSpec := { name := "gatesMeans", fn := fun _ => fun
  | [d] => { results := [.lit (.bool true)], args := [d] }
  | _ => none }
def gatesMeansRow : OpenClaim := { program := "ytkofhilgehhopaa", sum := "ae7d8bf851cca722d630774c3e73f070fcdb53e23ae744bf95eac39a0c639d3e", func := "astrarium/astrariumlaw27.GatesMeans", spec := "gatesMeans", unfollowed := true, recurses := true, plainKeys := false, apart := false }
def GatesMeansSaid : Prop := gatesMeansRow.holds Try.pinned (OpenSpec.ofChange gatesMeansSpec)

/-- ITS FALSE NEIGHBOUR: 'it returns false'. Refute it at one input. -/
def gatesMeansWrong : ChangeSpec := { name := "gatesMeans", fn := fun _ => fun
  | [d] => { results := [.lit (.bool false)], args := [d] }
  | _ => none }
def GatesMeansWrongFalsely : Prop := gatesMeansRow.holds Try.pinned (OpenSpec.ofChange gatesMeansWrong)

/-- 'astrariumlaw27.GatesMusts': WHATEVER THE INPUT: true; the input reads as it did. -/
def gatesMustsSpec : ChangeSpec := { name := "gatesMusts", fn := fun _ => fun
  | [d1, d2, d3] => { results := [.lit (.bool true)], args := [d1, d2, d3] }
  | _ => none }
def gatesMustsRow : OpenClaim := { program := "ytkofhilgehhopaa", sum := "ae7d8bf851cca722d630774c3e73f070fcdb53e23ae744bf95eac39a0c639d3e", func := "astrarium/astrariumlaw27.GatesMusts", spec := "gatesMusts", unfollowed := true, recurses := true, plainKeys := false, apart := false }
def GatesMustsSaid : Prop := gatesMustsRow.holds Try.pinned (OpenSpec.ofChange gatesMustsSpec)

/-- ITS FALSE NEIGHBOUR: 'it returns false'. Refute it at one input. -/
def gatesMustsWrong : ChangeSpec := { name := "gatesMusts", fn := fun _ => fun
  | [d1, d2, d3] => { results := [.lit (.bool false)], args := [d1, d2, d3] }
  | _ => none }
def GatesMustsWrongFalsely : Prop := gatesMustsRow.holds Try.pinned (OpenSpec.ofChange gatesMustsWrong)

/- THE SECOND FORM. 'bulk': how many values and letters a reading holds, each counted each time it is reached (what is shared counts as often as it is met; a slice's spare places count too). A statement '..UptoSaid' is the law's where the arguments, and the package variables that the reading takes, are together of bulk at most 1048576: NARROWER than '..Said'. Prove '..Said' where nothing that the law and all that it calls make is longer than what came in: it says more and counts as full. Else prove '..UptoSaid'. A law counts once. -/
mutual
def uptoBulk {H : Type} : DataW H → Nat
  | .lit (.string bytes) => bytes.length + 1
  | .lit _ => 1
  | .nil => 1
  | .ptr d => uptoBulk d + 1
  | .slice elems spare => uptoBulkAll elems + uptoBulkAll spare + 1
  | .agg parts => uptoBulkAll parts + 1
  | .iface _ d => uptoBulk d + 1
  | .map entries => uptoBulkEntries entries + 1
  | .held _ => 1
def uptoBulkAll {H : Type} : List (DataW H) → Nat
  | [] => 0
  | d :: r => uptoBulk d + uptoBulkAll r
def uptoBulkEntries {H : Type} : List (Lit × DataW H) → Nat
  | [] => 0
  | x :: r => uptoBulkEntry x + uptoBulkEntries r
def uptoBulkEntry {H : Type} : Lit × DataW H → Nat
  | (.string bytes, d) => bytes.length + uptoBulk d + 1
  | (_, d) => uptoBulk d + 1
 end
def uptoSmall : (H : Type) → List (DataW H) → Bool := fun _ ds => decide (uptoBulkAll ds ≤ 1048576)
def OpenSpec.upto (s : _root_.Go.ChangeSpec) : _root_.Go.OpenSpec := { _root_.Go.OpenSpec.ofChange s with cond := some uptoSmall }

/-- 'astrariumlaw27.GatesNils', WHERE WHAT IT READS IS OF BULK AT MOST 1048576: true; the input reads as it did. -/
def gatesNilsUptoRow : OpenClaim := { program := "ytkofhilgehhopaa", sum := "ae7d8bf851cca722d630774c3e73f070fcdb53e23ae744bf95eac39a0c639d3e", func := "astrarium/astrariumlaw27.GatesNils", spec := "gatesNils", unfollowed := true, recurses := true, plainKeys := false, apart := false, narrowed := true }
def GatesNilsUptoSaid : Prop := gatesNilsUptoRow.holds Try.pinned (OpenSpec.upto gatesNilsSpec)

/-- 'astrariumlaw27.GatesMeans', WHERE WHAT IT READS IS OF BULK AT MOST 1048576: true; the input reads as it did. -/
def gatesMeansUptoRow : OpenClaim := { program := "ytkofhilgehhopaa", sum := "ae7d8bf851cca722d630774c3e73f070fcdb53e23ae744bf95eac39a0c639d3e", func := "astrarium/astrariumlaw27.GatesMeans", spec := "gatesMeans", unfollowed := true, recurses := true, plainKeys := false, apart := false, narrowed := true }
def GatesMeansUptoSaid : Prop := gatesMeansUptoRow.holds Try.pinned (OpenSpec.upto gatesMeansSpec)

/-- 'astrariumlaw27.GatesMusts', WHERE WHAT IT READS IS OF BULK AT MOST 1048576: true; the input reads as it did. -/
def gatesMustsUptoRow : OpenClaim := { program := "ytkofhilgehhopaa", sum := "ae7d8bf851cca722d630774c3e73f070fcdb53e23ae744bf95eac39a0c639d3e", func := "astrarium/astrariumlaw27.GatesMusts", spec := "gatesMusts", unfollowed := true, recurses := true, plainKeys := false, apart := false, narrowed := true }
def GatesMustsUptoSaid : Prop := gatesMustsUptoRow.holds Try.pinned (OpenSpec.upto gatesMustsSpec)

end Rows
end Go.Proofs.Ytkofhilgehhopaa
