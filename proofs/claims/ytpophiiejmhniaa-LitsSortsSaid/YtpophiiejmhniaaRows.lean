/-
  No cell of these rows narrows 'for every input' (looked for: loops, veiled, ifaces, maps, wideKeys, modest, calm, conditions, laid).
  DERIVED. THE GIVEN ROWS OF THIS SEAT. 4 by the template 'for every input the law returns true; each argument reads behind the call as it read before'; 0 by the template 'total and deterministic' (their statements: YtpophiiejmhniaaTotals.lean).
  GIVEN WITH THE SEED: the statements are not yours to turn. If you find one false, say at which input.
  Laid BY PROGRAM, IN A SANDBOX (cutbox-rows.mjs): the forced cells as the released guide's own fill.sh prints them over the translation 3aa30d10f21b59dd… (all of the seat's roots in one cut). By AI agents, Wed Nov 11 2026. No macro, syntax, notation, axiom, sorry.
-/
import Derived.Test.YtpophiiejmhniaaChecked
import GoSem.Claim
import GoSem.ClaimJoined
import GoSem.ClaimMapViews
import Derived.JoinedTies
import Derived.KernelRfl
namespace Go.Proofs.Ytpophiiejmhniaa
/- THE CELL 'sum', in the pinned program and in every row, IS THE sha256 OF THE DUMP (.gsa) THAT YtpophiiejmhniaaProg.lean LOADS. Nothing in Lean hashes anything: it is a label: what it is worth is what the hold of that sum in a sandbox is worth. -/
noncomputable def Try.pinned : Pinned := { name := "ytpophiiejmhniaa", sum := "3aa30d10f21b59dd6adc11b9b507ccf7d4497ce6d7249db889faa635f5d0311c", checked := Try.checked }
namespace Rows
def none {H : Type} : Left H := { results := [], args := [] }

/-- 'astrariumlaw01.LitsMakes': WHATEVER THE INPUT: true; the input reads as it did. -/
def litsMakesSpec : ChangeSpec := { name := "litsMakes", fn := fun _ => fun
  | [d1, d2, d3] => { results := [.lit (.bool true)], args := [d1, d2, d3] }
  | _ => none }
def litsMakesRow : OpenClaim := { program := "ytpophiiejmhniaa", sum := "3aa30d10f21b59dd6adc11b9b507ccf7d4497ce6d7249db889faa635f5d0311c", func := "astrarium/astrariumlaw01.LitsMakes", spec := "litsMakes", apart := false }
def LitsMakesSaid : Prop := litsMakesRow.holds Try.pinned (OpenSpec.ofChange litsMakesSpec)

/-- ITS FALSE NEIGHBOUR: 'it returns false'. Refute it at one input. -/
def litsMakesWrong : ChangeSpec := { name := "litsMakes", fn := fun _ => fun
  | [d1, d2, d3] => { results := [.lit (.bool false)], args := [d1, d2, d3] }
  | _ => none }
def LitsMakesWrongFalsely : Prop := litsMakesRow.holds Try.pinned (OpenSpec.ofChange litsMakesWrong)

/-- 'astrariumlaw01.LitsSigns': WHATEVER THE INPUT: true; the input reads as it did. -/
def litsSignsSpec : ChangeSpec := { name := "litsSigns", fn := fun _ => fun
  | [d1, d2] => { results := [.lit (.bool true)], args := [d1, d2] }
  | _ => none }
def litsSignsRow : OpenClaim := { program := "ytpophiiejmhniaa", sum := "3aa30d10f21b59dd6adc11b9b507ccf7d4497ce6d7249db889faa635f5d0311c", func := "astrarium/astrariumlaw01.LitsSigns", spec := "litsSigns", apart := false }
def LitsSignsSaid : Prop := litsSignsRow.holds Try.pinned (OpenSpec.ofChange litsSignsSpec)

/-- ITS FALSE NEIGHBOUR: 'it returns false'. Refute it at one input. -/
def litsSignsWrong : ChangeSpec := { name := "litsSigns", fn := fun _ => fun
  | [d1, d2] => { results := [.lit (.bool false)], args := [d1, d2] }
  | _ => none }
def LitsSignsWrongFalsely : Prop := litsSignsRow.holds Try.pinned (OpenSpec.ofChange litsSignsWrong)

/-- 'astrariumlaw01.LitsBack': WHATEVER THE INPUT: true; the input reads as it did. -/
def litsBackSpec : ChangeSpec := { name := "litsBack", fn := fun _ => fun
  | [d1, d2] => { results := [.lit (.bool true)], args := [d1, d2] }
  | _ => none }
def litsBackRow : OpenClaim := { program := "ytpophiiejmhniaa", sum := "3aa30d10f21b59dd6adc11b9b507ccf7d4497ce6d7249db889faa635f5d0311c", func := "astrarium/astrariumlaw01.LitsBack", spec := "litsBack", apart := false }
def LitsBackSaid : Prop := litsBackRow.holds Try.pinned (OpenSpec.ofChange litsBackSpec)

/-- ITS FALSE NEIGHBOUR: 'it returns false'. Refute it at one input. -/
def litsBackWrong : ChangeSpec := { name := "litsBack", fn := fun _ => fun
  | [d1, d2] => { results := [.lit (.bool false)], args := [d1, d2] }
  | _ => none }
def LitsBackWrongFalsely : Prop := litsBackRow.holds Try.pinned (OpenSpec.ofChange litsBackWrong)

/-- 'astrariumlaw01.LitsSorts': WHATEVER THE INPUT: true; the input reads as it did. -/
def litsSortsSpec : ChangeSpec := { name := "litsSorts", fn := fun _ => fun
  | [d] => { results := [.lit (.bool true)], args := [d] }
  | _ => none }
def litsSortsRow : OpenClaim := { program := "ytpophiiejmhniaa", sum := "3aa30d10f21b59dd6adc11b9b507ccf7d4497ce6d7249db889faa635f5d0311c", func := "astrarium/astrariumlaw01.LitsSorts", spec := "litsSorts", recurses := true, apart := false }
def LitsSortsSaid : Prop := litsSortsRow.holds Try.pinned (OpenSpec.ofChange litsSortsSpec)

/-- ITS FALSE NEIGHBOUR: 'it returns false'. Refute it at one input. -/
def litsSortsWrong : ChangeSpec := { name := "litsSorts", fn := fun _ => fun
  | [d] => { results := [.lit (.bool false)], args := [d] }
  | _ => none }
def LitsSortsWrongFalsely : Prop := litsSortsRow.holds Try.pinned (OpenSpec.ofChange litsSortsWrong)

/- THE SECOND FORM. 'bulk': how many values and letters a reading holds, each counted each time it is reached (what is shared counts as often as it is met; a slice's spare places count too). A statement '..UptoSaid' is the law's where the arguments, and the package variables that the reading takes, are together of bulk at most 1048576: NARROWER than '..Said'. Prove '..Said' where nothing that the law and all that it calls make is longer than what came in: it says more and counts as full. Else prove '..UptoSaid'. A law counts once. -/
mutual
def uptoBulk {H : Type} : DataW H → Nat
  | .lit (.string bytes) => bytes.length + 1
  | .lit _ => 1
  | .nil => 1
  | .ptr d => uptoBulk d + 1
  | .slice elems spare => uptoBulkAll elems + uptoBulkAll spare + 1
  | .agg parts => uptoBulkAll parts + 1
  | .iface _ d => uptoBulk d + 1
  | .map entries => uptoBulkEntries entries + 1
  | .held _ => 1
def uptoBulkAll {H : Type} : List (DataW H) → Nat
  | [] => 0
  | d :: r => uptoBulk d + uptoBulkAll r
def uptoBulkEntries {H : Type} : List (Lit × DataW H) → Nat
  | [] => 0
  | x :: r => uptoBulkEntry x + uptoBulkEntries r
def uptoBulkEntry {H : Type} : Lit × DataW H → Nat
  | (.string bytes, d) => bytes.length + uptoBulk d + 1
  | (_, d) => uptoBulk d + 1
 end
def uptoSmall : (H : Type) → List (DataW H) → Bool := fun _ ds => decide (uptoBulkAll ds ≤ 1048576)
def OpenSpec.upto (s : _root_.Go.ChangeSpec) : _root_.Go.OpenSpec := { _root_.Go.OpenSpec.ofChange s with cond := some uptoSmall }

/-- 'astrariumlaw01.LitsMakes', WHERE WHAT IT READS IS OF BULK AT MOST 1048576: true; the input reads as it did. -/
def litsMakesUptoRow : OpenClaim := { program := "ytpophiiejmhniaa", sum := "3aa30d10f21b59dd6adc11b9b507ccf7d4497ce6d7249db889faa635f5d0311c", func := "astrarium/astrariumlaw01.LitsMakes", spec := "litsMakes", apart := false, narrowed := true }
def LitsMakesUptoSaid : Prop := litsMakesUptoRow.holds Try.pinned (OpenSpec.upto litsMakesSpec)

/-- 'astrariumlaw01.LitsSigns', WHERE WHAT IT READS IS OF BULK AT MOST 1048576: true; the input reads as it did. -/
def litsSignsUptoRow : OpenClaim := { program := "ytpophiiejmhniaa", sum := "3aa30d10f21b59dd6adc11b9b507ccf7d4497ce6d7249db889faa635f5d0311c", func := "astrarium/astrariumlaw01.LitsSigns", spec := "litsSigns", apart := false, narrowed := true }
def LitsSignsUptoSaid : Prop := litsSignsUptoRow.holds Try.pinned (OpenSpec.upto litsSignsSpec)

/-- 'astrariumlaw01.LitsBack', WHERE WHAT IT READS IS OF BULK AT MOST 1048576: true; the input reads as it did. -/
def litsBackUptoRow : OpenClaim := { program := "ytpophiiejmhniaa", sum := "3aa30d10f21b59dd6adc11b9b507ccf7d4497ce6d7249db889faa635f5d0311c", func := "astrarium/astrariumlaw01.LitsBack", spec := "litsBack", apart := false, narrowed := true }
def LitsBackUptoSaid : Prop := litsBackUptoRow.holds Try.pinned (OpenSpec.upto litsBackSpec)

/-- 'astrariumlaw01.LitsSorts', WHERE WHAT IT READS IS OF BULK AT MOST 1048576: true; the input reads as it did. -/
def litsSortsUptoRow : OpenClaim := { program := "ytpophiiejmhniaa", sum := "3aa30d10f21b59dd6adc11b9b507ccf7d4497ce6d7249db889faa635f5d0311c", func := "astrarium/astrariumlaw01.LitsSorts", spec := "litsSorts", recurses := true, apart := false, narrowed := true }
def LitsSortsUptoSaid : Prop := litsSortsUptoRow.holds Try.pinned (OpenSpec.upto litsSortsSpec)

end Rows
end Go.Proofs.Ytpophiiejmhniaa
