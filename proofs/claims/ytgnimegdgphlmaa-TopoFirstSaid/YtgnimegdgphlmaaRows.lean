/-
  No cell of these rows narrows 'for every input' (looked for: loops, veiled, ifaces, maps, wideKeys, modest, calm, conditions, laid).
  DERIVED. THE GIVEN ROWS OF THIS SEAT. 4 by the template 'for every input the law returns true; each argument reads behind the call as it read before'; 0 by the template 'total and deterministic' (their statements: YtgnimegdgphlmaaTotals.lean).
  GIVEN WITH THE SEED: the statements are not yours to turn. If you find one false, say at which input.
  Laid BY PROGRAM, IN A SANDBOX (cutbox-rows.mjs): the forced cells as the released guide's own fill.sh prints them over the translation eb3ecad406cc6ca2… (all of the seat's roots in one cut). By AI agents, Wed Nov 11 2026. No macro, syntax, notation, axiom, sorry.
-/
import Derived.Test.YtgnimegdgphlmaaChecked
import GoSem.Claim
import GoSem.ClaimJoined
import GoSem.ClaimMapViews
import Derived.JoinedTies
import Derived.KernelRfl
namespace Go.Proofs.Ytgnimegdgphlmaa
/- THE CELL 'sum', in the pinned program and in every row, IS THE sha256 OF THE DUMP (.gsa) THAT YtgnimegdgphlmaaProg.lean LOADS. Nothing in Lean hashes anything: it is a label: what it is worth is what the hold of that sum in a sandbox is worth. -/
noncomputable def Try.pinned : Pinned := { name := "ytgnimegdgphlmaa", sum := "eb3ecad406cc6ca257b925b918d517770b2005be1535d7ef51aacc63911836d3", checked := Try.checked }
namespace Rows
def none {H : Type} : Left H := { results := [], args := [] }

/-- 'astrariumlaw06.TopoChecks': WHATEVER THE INPUT: true; the input reads as it did. -/
def topoChecksSpec : ChangeSpec := { name := "topoChecks", fn := fun _ => fun
  | [d] => { results := [.lit (.bool true)], args := [d] }
  | _ => none }
def topoChecksRow : OpenClaim := { program := "ytgnimegdgphlmaa", sum := "eb3ecad406cc6ca257b925b918d517770b2005be1535d7ef51aacc63911836d3", func := "astrarium/astrariumlaw06.TopoChecks", spec := "topoChecks", unfollowed := true, recurses := true, apart := false }
def TopoChecksSaid : Prop := topoChecksRow.holds Try.pinned (OpenSpec.ofChange topoChecksSpec)

/-- ITS FALSE NEIGHBOUR: 'it returns false'. Refute it at one input. -/
def topoChecksWrong : ChangeSpec := { name := "topoChecks", fn := fun _ => fun
  | [d] => { results := [.lit (.bool false)], args := [d] }
  | _ => none }
def TopoChecksWrongFalsely : Prop := topoChecksRow.holds Try.pinned (OpenSpec.ofChange topoChecksWrong)

/-- 'astrariumlaw06.TopoSupports': WHATEVER THE INPUT: true; the input reads as it did. -/
def topoSupportsSpec : ChangeSpec := { name := "topoSupports", fn := fun _ => fun
  | [d1, d2] => { results := [.lit (.bool true)], args := [d1, d2] }
  | _ => none }
def topoSupportsRow : OpenClaim := { program := "ytgnimegdgphlmaa", sum := "eb3ecad406cc6ca257b925b918d517770b2005be1535d7ef51aacc63911836d3", func := "astrarium/astrariumlaw06.TopoSupports", spec := "topoSupports", unfollowed := true, recurses := true, apart := false }
def TopoSupportsSaid : Prop := topoSupportsRow.holds Try.pinned (OpenSpec.ofChange topoSupportsSpec)

/-- ITS FALSE NEIGHBOUR: 'it returns false'. Refute it at one input. -/
def topoSupportsWrong : ChangeSpec := { name := "topoSupports", fn := fun _ => fun
  | [d1, d2] => { results := [.lit (.bool false)], args := [d1, d2] }
  | _ => none }
def TopoSupportsWrongFalsely : Prop := topoSupportsRow.holds Try.pinned (OpenSpec.ofChange topoSupportsWrong)

/-- 'astrariumlaw06.TopoOrders': WHATEVER THE INPUT: true; the input reads as it did. -/
def topoOrdersSpec : ChangeSpec := { name := "topoOrders", fn := fun _ => fun
  | [d] => { results := [.lit (.bool true)], args := [d] }
  | _ => none }
def topoOrdersRow : OpenClaim := { program := "ytgnimegdgphlmaa", sum := "eb3ecad406cc6ca257b925b918d517770b2005be1535d7ef51aacc63911836d3", func := "astrarium/astrariumlaw06.TopoOrders", spec := "topoOrders", unfollowed := true, recurses := true, apart := false }
def TopoOrdersSaid : Prop := topoOrdersRow.holds Try.pinned (OpenSpec.ofChange topoOrdersSpec)

/-- ITS FALSE NEIGHBOUR: 'it returns false'. Refute it at one input. -/
def topoOrdersWrong : ChangeSpec := { name := "topoOrders", fn := fun _ => fun
  | [d] => { results := [.lit (.bool false)], args := [d] }
  | _ => none }
def TopoOrdersWrongFalsely : Prop := topoOrdersRow.holds Try.pinned (OpenSpec.ofChange topoOrdersWrong)

/-- 'astrariumlaw06.TopoFirst': WHATEVER THE INPUT: true; the input reads as it did. -/
def topoFirstSpec : ChangeSpec := { name := "topoFirst", fn := fun _ => fun
  | [d] => { results := [.lit (.bool true)], args := [d] }
  | _ => none }
def topoFirstRow : OpenClaim := { program := "ytgnimegdgphlmaa", sum := "eb3ecad406cc6ca257b925b918d517770b2005be1535d7ef51aacc63911836d3", func := "astrarium/astrariumlaw06.TopoFirst", spec := "topoFirst", unfollowed := true, recurses := true, apart := false }
def TopoFirstSaid : Prop := topoFirstRow.holds Try.pinned (OpenSpec.ofChange topoFirstSpec)

/-- ITS FALSE NEIGHBOUR: 'it returns false'. Refute it at one input. -/
def topoFirstWrong : ChangeSpec := { name := "topoFirst", fn := fun _ => fun
  | [d] => { results := [.lit (.bool false)], args := [d] }
  | _ => none }
def TopoFirstWrongFalsely : Prop := topoFirstRow.holds Try.pinned (OpenSpec.ofChange topoFirstWrong)

/- THE SECOND FORM. 'bulk': how many values and letters a reading holds, each counted each time it is reached (what is shared counts as often as it is met; a slice's spare places count too). A statement '..UptoSaid' is the law's where the arguments, and the package variables that the reading takes, are together of bulk at most 1048576: NARROWER than '..Said'. Prove '..Said' where nothing that the law and all that it calls make is longer than what came in: it says more and counts as full. Else prove '..UptoSaid'. A law counts once. -/
mutual
def uptoBulk {H : Type} : DataW H → Nat
  | .lit (.string bytes) => bytes.length + 1
  | .lit _ => 1
  | .nil => 1
  | .ptr d => uptoBulk d + 1
  | .slice elems spare => uptoBulkAll elems + uptoBulkAll spare + 1
  | .agg parts => uptoBulkAll parts + 1
  | .iface _ d => uptoBulk d + 1
  | .map entries => uptoBulkEntries entries + 1
  | .held _ => 1
def uptoBulkAll {H : Type} : List (DataW H) → Nat
  | [] => 0
  | d :: r => uptoBulk d + uptoBulkAll r
def uptoBulkEntries {H : Type} : List (Lit × DataW H) → Nat
  | [] => 0
  | x :: r => uptoBulkEntry x + uptoBulkEntries r
def uptoBulkEntry {H : Type} : Lit × DataW H → Nat
  | (.string bytes, d) => bytes.length + uptoBulk d + 1
  | (_, d) => uptoBulk d + 1
 end
def uptoSmall : (H : Type) → List (DataW H) → Bool := fun _ ds => decide (uptoBulkAll ds ≤ 1048576)
def OpenSpec.upto (s : _root_.Go.ChangeSpec) : _root_.Go.OpenSpec := { _root_.Go.OpenSpec.ofChange s with cond := some uptoSmall }

/-- 'astrariumlaw06.TopoChecks', WHERE WHAT IT READS IS OF BULK AT MOST 1048576: true; the input reads as it did. -/
def topoChecksUptoRow : OpenClaim := { program := "ytgnimegdgphlmaa", sum := "eb3ecad406cc6ca257b925b918d517770b2005be1535d7ef51aacc63911836d3", func := "astrarium/astrariumlaw06.TopoChecks", spec := "topoChecks", unfollowed := true, recurses := true, apart := false, narrowed := true }
def TopoChecksUptoSaid : Prop := topoChecksUptoRow.holds Try.pinned (OpenSpec.upto topoChecksSpec)

/-- 'astrariumlaw06.TopoSupports', WHERE WHAT IT READS IS OF BULK AT MOST 1048576: true; the input reads as it did. -/
def topoSupportsUptoRow : OpenClaim := { program := "ytgnimegdgphlmaa", sum := "eb3ecad406cc6ca257b925b918d517770b2005be1535d7ef51aacc63911836d3", func := "astrarium/astrariumlaw06.TopoSupports", spec := "topoSupports", unfollowed := true, recurses := true, apart := false, narrowed := true }
def TopoSupportsUptoSaid : Prop := topoSupportsUptoRow.holds Try.pinned (OpenSpec.upto topoSupportsSpec)

/-- 'astrariumlaw06.TopoOrders', WHERE WHAT IT READS IS OF BULK AT MOST 1048576: true; the input reads as it did. -/
def topoOrdersUptoRow : OpenClaim := { program := "ytgnimegdgphlmaa", sum := "eb3ecad406cc6ca257b925b918d517770b2005be1535d7ef51aacc63911836d3", func := "astrarium/astrariumlaw06.TopoOrders", spec := "topoOrders", unfollowed := true, recurses := true, apart := false, narrowed := true }
def TopoOrdersUptoSaid : Prop := topoOrdersUptoRow.holds Try.pinned (OpenSpec.upto topoOrdersSpec)

/-- 'astrariumlaw06.TopoFirst', WHERE WHAT IT READS IS OF BULK AT MOST 1048576: true; the input reads as it did. -/
def topoFirstUptoRow : OpenClaim := { program := "ytgnimegdgphlmaa", sum := "eb3ecad406cc6ca257b925b918d517770b2005be1535d7ef51aacc63911836d3", func := "astrarium/astrariumlaw06.TopoFirst", spec := "topoFirst", unfollowed := true, recurses := true, apart := false, narrowed := true }
def TopoFirstUptoSaid : Prop := topoFirstUptoRow.holds Try.pinned (OpenSpec.upto topoFirstSpec)

end Rows
end Go.Proofs.Ytgnimegdgphlmaa
