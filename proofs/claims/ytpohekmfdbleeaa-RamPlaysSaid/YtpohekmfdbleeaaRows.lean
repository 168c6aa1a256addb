/-
  No cell of these rows narrows 'for every input' (looked for: loops, veiled, ifaces, maps, wideKeys, modest, calm, conditions, laid).
  DERIVED. THE GIVEN ROWS OF THIS SEAT. 4 by the template 'for every input the law returns true; each argument reads behind the call as it read before'; 0 by the template 'total and deterministic' (their statements: YtpohekmfdbleeaaTotals.lean).
  GIVEN WITH THE SEED: the statements are not yours to turn. If you find one false, say at which input.
  Laid BY PROGRAM, IN A SANDBOX (cutbox-rows.mjs): the forced cells as the released guide's own fill.sh prints them over the translation 05e5b3abbfa73cf9… (all of the seat's roots in one cut). By AI agents, Wed Nov 11 2026. No macro, syntax, notation, axiom, sorry.
-/
import Derived.Test.YtpohekmfdbleeaaChecked
import GoSem.Claim
import GoSem.ClaimJoined
import GoSem.ClaimMapViews
import Derived.JoinedTies
import Derived.KernelRfl
namespace Go.Proofs.Ytpohekmfdbleeaa
/- THE CELL 'sum', in the pinned program and in every row, IS THE sha256 OF THE DUMP (.gsa) THAT YtpohekmfdbleeaaProg.lean LOADS. Nothing in Lean hashes anything: it is a label: what it is worth is what the hold of that sum in a sandbox is worth. -/
noncomputable def Try.pinned : Pinned := { name := "ytpohekmfdbleeaa", sum := "05e5b3abbfa73cf9298c1175764f22d87f08f289c9245a8ef3964f6602dffb2d", checked := Try.checked }
namespace Rows
def none {H : Type} : Left H := { results := [], args := [] }

/-- 'astrariumlaw11.RamLoads': WHATEVER THE INPUT: true; the input reads as it did. -/
def ramLoadsSpec : ChangeSpec := { name := "ramLoads", fn := fun _ => fun
  | [d1, d2, d3, d4] => { results := [.lit (.bool true)], args := [d1, d2, d3, d4] }
  | _ => none }
def ramLoadsRow : OpenClaim := { program := "ytpohekmfdbleeaa", sum := "05e5b3abbfa73cf9298c1175764f22d87f08f289c9245a8ef3964f6602dffb2d", func := "astrarium/astrariumlaw11.RamLoads", spec := "ramLoads", unfollowed := true, recurses := true, apart := false }
def RamLoadsSaid : Prop := ramLoadsRow.holds Try.pinned (OpenSpec.ofChange ramLoadsSpec)

/-- ITS FALSE NEIGHBOUR: 'it returns false'. Refute it at one input. -/
def ramLoadsWrong : ChangeSpec := { name := "ramLoads", fn := fun _ => fun
  | [d1, d2, d3, d4] => { results := [.lit (.bool false)], args := [d1, d2, d3, d4] }
  | _ => none }
def RamLoadsWrongFalsely : Prop := ramLoadsRow.holds Try.pinned (OpenSpec.ofChange ramLoadsWrong)

/-- 'astrariumlaw11.RamLast': WHATEVER THE INPUT: true; the input reads as it did. -/
def ramLastSpec : ChangeSpec := { name := "ramLast", fn := fun _ => fun
  | [d1, d2, d3, d4, d5, d6] => { results := [.lit (.bool true)], args := [d1, d2, d3, d4, d5, d6] }
  | _ => none }
def ramLastRow : OpenClaim := { program := "ytpohekmfdbleeaa", sum := "05e5b3abbfa73cf9298c1175764f22d87f08f289c9245a8ef3964f6602dffb2d", func := "astrarium/astrariumlaw11.RamLast", spec := "ramLast", unfollowed := true, recurses := true, apart := false }
def RamLastSaid : Prop := ramLastRow.holds Try.pinned (OpenSpec.ofChange ramLastSpec)

/-- ITS FALSE NEIGHBOUR: 'it returns false'. Refute it at one input. -/
def ramLastWrong : ChangeSpec := { name := "ramLast", fn := fun _ => fun
  | [d1, d2, d3, d4, d5, d6] => { results := [.lit (.bool false)], args := [d1, d2, d3, d4, d5, d6] }
  | _ => none }
def RamLastWrongFalsely : Prop := ramLastRow.holds Try.pinned (OpenSpec.ofChange ramLastWrong)

/-- 'astrariumlaw11.RamPlays': WHATEVER THE INPUT: true; the input reads as it did. -/
def ramPlaysSpec : ChangeSpec := { name := "ramPlays", fn := fun _ => fun
  | [d1, d2, d3, d4] => { results := [.lit (.bool true)], args := [d1, d2, d3, d4] }
  | _ => none }
def ramPlaysRow : OpenClaim := { program := "ytpohekmfdbleeaa", sum := "05e5b3abbfa73cf9298c1175764f22d87f08f289c9245a8ef3964f6602dffb2d", func := "astrarium/astrariumlaw11.RamPlays", spec := "ramPlays", inPlace := ["maps.clone"], unfollowed := true, recurses := true, apart := false }
def RamPlaysSaid : Prop := ramPlaysRow.holds Try.pinned (OpenSpec.ofChange ramPlaysSpec)

/-- ITS FALSE NEIGHBOUR: 'it returns false'. Refute it at one input. -/
def ramPlaysWrong : ChangeSpec := { name := "ramPlays", fn := fun _ => fun
  | [d1, d2, d3, d4] => { results := [.lit (.bool false)], args := [d1, d2, d3, d4] }
  | _ => none }
def RamPlaysWrongFalsely : Prop := ramPlaysRow.holds Try.pinned (OpenSpec.ofChange ramPlaysWrong)

/-- 'astrariumlaw11.RamNils': WHATEVER THE INPUT: true; the input reads as it did. -/
def ramNilsSpec : ChangeSpec := { name := "ramNils", fn := fun _ => fun
  | [d1, d2] => { results := [.lit (.bool true)], args := [d1, d2] }
  | _ => none }
def ramNilsRow : OpenClaim := { program := "ytpohekmfdbleeaa", sum := "05e5b3abbfa73cf9298c1175764f22d87f08f289c9245a8ef3964f6602dffb2d", func := "astrarium/astrariumlaw11.RamNils", spec := "ramNils", inPlace := ["maps.clone"], unfollowed := true, recurses := true, apart := false }
def RamNilsSaid : Prop := ramNilsRow.holds Try.pinned (OpenSpec.ofChange ramNilsSpec)

/-- ITS FALSE NEIGHBOUR: 'it returns false'. Refute it at one input. -/
def ramNilsWrong : ChangeSpec := { name := "ramNils", fn := fun _ => fun
  | [d1, d2] => { results := [.lit (.bool false)], args := [d1, d2] }
  | _ => none }
def RamNilsWrongFalsely : Prop := ramNilsRow.holds Try.pinned (OpenSpec.ofChange ramNilsWrong)

/- THE SECOND FORM. 'bulk': how many values and letters a reading holds, each counted each time it is reached (what is shared counts as often as it is met; a slice's spare places count too). A statement '..UptoSaid' is the law's where the arguments, and the package variables that the reading takes, are together of bulk at most 1048576: NARROWER than '..Said'. Prove '..Said' where nothing that the law and all that it calls make is longer than what came in: it says more and counts as full. Else prove '..UptoSaid'. A law counts once. -/
mutual
def uptoBulk {H : Type} : DataW H → Nat
  | .lit (.string bytes) => bytes.length + 1
  | .lit _ => 1
  | .nil => 1
  | .ptr d => uptoBulk d + 1
  | .slice elems spare => uptoBulkAll elems + uptoBulkAll spare + 1
  | .agg parts => uptoBulkAll parts + 1
  | .iface _ d => uptoBulk d + 1
  | .map entries => uptoBulkEntries entries + 1
  | .held _ => 1
def uptoBulkAll {H : Type} : List (DataW H) → Nat
  | [] => 0
  | d :: r => uptoBulk d + uptoBulkAll r
def uptoBulkEntries {H : Type} : List (Lit × DataW H) → Nat
  | [] => 0
  | x :: r => uptoBulkEntry x + uptoBulkEntries r
def uptoBulkEntry {H : Type} : Lit × DataW H → Nat
  | (.string bytes, d) => bytes.length + uptoBulk d + 1
  | (_, d) => uptoBulk d + 1
 end
def uptoSmall : (H : Type) → List (DataW H) → Bool := fun _ ds => decide (uptoBulkAll ds ≤ 1048576)
def OpenSpec.upto (s : _root_.Go.ChangeSpec) : _root_.Go.OpenSpec := { _root_.Go.OpenSpec.ofChange s with cond := some uptoSmall }

/-- 'astrariumlaw11.RamLoads', WHERE WHAT IT READS IS OF BULK AT MOST 1048576: true; the input reads as it did. -/
def ramLoadsUptoRow : OpenClaim := { program := "ytpohekmfdbleeaa", sum := "05e5b3abbfa73cf9298c1175764f22d87f08f289c9245a8ef3964f6602dffb2d", func := "astrarium/astrariumlaw11.RamLoads", spec := "ramLoads", unfollowed := true, recurses := true, apart := false, narrowed := true }
def RamLoadsUptoSaid : Prop := ramLoadsUptoRow.holds Try.pinned (OpenSpec.upto ramLoadsSpec)

/-- 'astrariumlaw11.RamLast', WHERE WHAT IT READS IS OF BULK AT MOST 1048576: true; the input reads as it did. -/
def ramLastUptoRow : OpenClaim := { program := "ytpohekmfdbleeaa", sum := "05e5b3abbfa73cf9298c1175764f22d87f08f289c9245a8ef3964f6602dffb2d", func := "astrarium/astrariumlaw11.RamLast", spec := "ramLast", unfollowed := true, recurses := true, apart := false, narrowed := true }
def RamLastUptoSaid : Prop := ramLastUptoRow.holds Try.pinned (OpenSpec.upto ramLastSpec)

/-- 'astrariumlaw11.RamPlays', WHERE WHAT IT READS IS OF BULK AT MOST 1048576: true; the input reads as it did. -/
def ramPlaysUptoRow : OpenClaim := { program := "ytpohekmfdbleeaa", sum := "05e5b3abbfa73cf9298c1175764f22d87f08f289c9245a8ef3964f6602dffb2d", func := "astrarium/astrariumlaw11.RamPlays", spec := "ramPlays", inPlace := ["maps.clone"], unfollowed := true, recurses := true, apart := false, narrowed := true }
def RamPlaysUptoSaid : Prop := ramPlaysUptoRow.holds Try.pinned (OpenSpec.upto ramPlaysSpec)

/-- 'astrariumlaw11.RamNils', WHERE WHAT IT READS IS OF BULK AT MOST 1048576: true; the input reads as it did. -/
def ramNilsUptoRow : OpenClaim := { program := "ytpohekmfdbleeaa", sum := "05e5b3abbfa73cf9298c1175764f22d87f08f289c9245a8ef3964f6602dffb2d", func := "astrarium/astrariumlaw11.RamNils", spec := "ramNils", inPlace := ["maps.clone"], unfollowed := true, recurses := true, apart := false, narrowed := true }
def RamNilsUptoSaid : Prop := ramNilsUptoRow.holds Try.pinned (OpenSpec.upto ramNilsSpec)

end Rows
end Go.Proofs.Ytpohekmfdbleeaa
