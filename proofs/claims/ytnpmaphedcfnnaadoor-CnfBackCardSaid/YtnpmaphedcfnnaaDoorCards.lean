/-
  DERIVED. GIVEN WITH THE SEED: THE CARDS: each row of YtnpmaphedcfnnaaDoorRows.lean that lists a variable, with what it lists TIED to the program's text (the seventh form; the later family's looks); each row that meets fmt, with fmt's text TOLD by the authors' own Lean function (tested against real Go, not proved from fmt's source: count such statements apart). THE CARD IS WHAT COUNTS. Prove the row's statement (the work); the ties are given (YtnpmaphedcfnnaaDoorTie.lean); close each card by the builder's one call (the guide's Derived/Test/ToyasCard.lean, 'card_holds'). Laid BY PROGRAM, IN A SANDBOX (cutbox-door.mjs). By AI agents, Wed Nov 11 2026. No macro, syntax, notation, axiom, sorry.
-/
import Derived.Test.YtnpmaphedcfnnaaDoorRows
import GoSem.ClaimSeven
namespace Go.Proofs.YtnpmaphedcfnnaaDoor
namespace Rows

/-- THE TIED CARD OF 'astrariumlaw18.CnfCounts'. -/
def cnfCountsCard : Claim7 := { stood := { row := cnfCountsRow, standIns := [], harness := (true, "cd6901d455fc84352e875f7bb55efc3ba0006449e1c08f20a93c22833ee257b7"), looks := true }, kinds := [], alts := [], laidByText := true, laidKinds := [.data, .data, .data], laidTests := true, laidLooks := .later }
def CnfCountsCardSaid : Prop := Claim7.holds Tryd.pinned (.plain (OpenSpec.ofChange cnfCountsSpec)) cnfCountsCard

/-- THE TIED CARD OF 'astrariumlaw18.CnfPlays'. -/
def cnfPlaysCard : Claim7 := { stood := { row := cnfPlaysRow, standIns := [], harness := (true, "cd6901d455fc84352e875f7bb55efc3ba0006449e1c08f20a93c22833ee257b7"), looks := true }, kinds := [], alts := [], laidByText := true, laidKinds := [.data, .data, .data], laidTests := true, laidLooks := .later }
def CnfPlaysCardSaid : Prop := Claim7.holds Tryd.pinned (.plain (OpenSpec.ofChange cnfPlaysSpec)) cnfPlaysCard

/-- THE TIED CARD OF 'astrariumlaw18.CnfNils'. -/
def cnfNilsCard : Claim7 := { stood := { row := cnfNilsRow, standIns := [], harness := (true, "cd6901d455fc84352e875f7bb55efc3ba0006449e1c08f20a93c22833ee257b7"), looks := true }, kinds := [], alts := [], laidByText := true, laidKinds := [.data, .data, .data], laidTests := true, laidLooks := .later }
def CnfNilsCardSaid : Prop := Claim7.holds Tryd.pinned (.plain (OpenSpec.ofChange cnfNilsSpec)) cnfNilsCard

/-- THE TIED CARD OF 'astrariumlaw18.CnfParses'. -/
def cnfParsesCard : Claim7 := { stood := { row := cnfParsesRow, standIns := [], harness := (true, "cd6901d455fc84352e875f7bb55efc3ba0006449e1c08f20a93c22833ee257b7"), looks := true }, kinds := [], alts := [], laidByText := true, laidKinds := [.data, .data, .data, .handle], laidTests := true, laidLooks := .later }
def CnfParsesCardSaid : Prop := Claim7.holds Tryd.pinned (.plain (OpenSpec.ofChange cnfParsesSpec)) cnfParsesCard

/-- THE TIED CARD OF 'astrariumlaw18.CnfBack'. -/
def cnfBackCard : Claim7 := { stood := { row := cnfBackRow, standIns := [], harness := (true, "cd6901d455fc84352e875f7bb55efc3ba0006449e1c08f20a93c22833ee257b7"), looks := true }, kinds := [], alts := [], laidByText := true, laidKinds := [.data, .data, .data, .handle], laidTests := true, laidLooks := .later }
def CnfBackCardSaid : Prop := Claim7.holds Tryd.pinned (.plain (OpenSpec.ofChange cnfBackSpec)) cnfBackCard

/-- THE SECOND FORM's CARD OF 'astrariumlaw18.CnfCounts'. -/
def cnfCountsUptoCard : Claim7 := { stood := { row := cnfCountsUptoRow, standIns := [], harness := (true, "cd6901d455fc84352e875f7bb55efc3ba0006449e1c08f20a93c22833ee257b7"), looks := true }, kinds := [], alts := [], laidByText := true, laidKinds := [.data, .data, .data], laidTests := true, laidLooks := .later }
def CnfCountsUptoCardSaid : Prop := Claim7.holds Tryd.pinned (.plain (OpenSpec.upto cnfCountsSpec)) cnfCountsUptoCard

/-- THE SECOND FORM's CARD OF 'astrariumlaw18.CnfPlays'. -/
def cnfPlaysUptoCard : Claim7 := { stood := { row := cnfPlaysUptoRow, standIns := [], harness := (true, "cd6901d455fc84352e875f7bb55efc3ba0006449e1c08f20a93c22833ee257b7"), looks := true }, kinds := [], alts := [], laidByText := true, laidKinds := [.data, .data, .data], laidTests := true, laidLooks := .later }
def CnfPlaysUptoCardSaid : Prop := Claim7.holds Tryd.pinned (.plain (OpenSpec.upto cnfPlaysSpec)) cnfPlaysUptoCard

/-- THE SECOND FORM's CARD OF 'astrariumlaw18.CnfNils'. -/
def cnfNilsUptoCard : Claim7 := { stood := { row := cnfNilsUptoRow, standIns := [], harness := (true, "cd6901d455fc84352e875f7bb55efc3ba0006449e1c08f20a93c22833ee257b7"), looks := true }, kinds := [], alts := [], laidByText := true, laidKinds := [.data, .data, .data], laidTests := true, laidLooks := .later }
def CnfNilsUptoCardSaid : Prop := Claim7.holds Tryd.pinned (.plain (OpenSpec.upto cnfNilsSpec)) cnfNilsUptoCard

/-- THE SECOND FORM's CARD OF 'astrariumlaw18.CnfParses'. -/
def cnfParsesUptoCard : Claim7 := { stood := { row := cnfParsesUptoRow, standIns := [], harness := (true, "cd6901d455fc84352e875f7bb55efc3ba0006449e1c08f20a93c22833ee257b7"), looks := true }, kinds := [], alts := [], laidByText := true, laidKinds := [.data, .data, .data, .handle], laidTests := true, laidLooks := .later }
def CnfParsesUptoCardSaid : Prop := Claim7.holds Tryd.pinned (.plain (OpenSpec.upto cnfParsesSpec)) cnfParsesUptoCard

/-- THE SECOND FORM's CARD OF 'astrariumlaw18.CnfBack'. -/
def cnfBackUptoCard : Claim7 := { stood := { row := cnfBackUptoRow, standIns := [], harness := (true, "cd6901d455fc84352e875f7bb55efc3ba0006449e1c08f20a93c22833ee257b7"), looks := true }, kinds := [], alts := [], laidByText := true, laidKinds := [.data, .data, .data, .handle], laidTests := true, laidLooks := .later }
def CnfBackUptoCardSaid : Prop := Claim7.holds Tryd.pinned (.plain (OpenSpec.upto cnfBackSpec)) cnfBackUptoCard
end Rows
end Go.Proofs.YtnpmaphedcfnnaaDoor
