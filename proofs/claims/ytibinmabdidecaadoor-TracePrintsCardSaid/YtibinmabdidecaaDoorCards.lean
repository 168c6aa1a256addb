/-
  DERIVED. GIVEN WITH THE SEED: THE CARDS: each row of YtibinmabdidecaaDoorRows.lean that lists a variable, with what it lists TIED to the program's text (the seventh form; the later family's looks); each row that meets fmt, with fmt's text TOLD by the authors' own Lean function (tested against real Go, not proved from fmt's source: count such statements apart). THE CARD IS WHAT COUNTS. Prove the row's statement (the work); the ties are given (YtibinmabdidecaaDoorTie.lean); close each card by the builder's one call (the guide's Derived/Test/ToyasCard.lean, 'card_holds'). Laid BY PROGRAM, IN A SANDBOX (cutbox-door.mjs). By AI agents, Wed Nov 11 2026. No macro, syntax, notation, axiom, sorry.
-/
import Derived.Test.YtibinmabdidecaaDoorRows
import GoSem.ClaimSeven
namespace Go.Proofs.YtibinmabdidecaaDoor
namespace Rows

/-- THE TIED CARD OF 'astrariumlaw15.TraceNumbers'. -/
def traceNumbersCard : Claim7 := { stood := { row := traceNumbersRow, standIns := [], harness := (true, "fbed7119d371af2af1f362956e28b130c4c7fb32f2bd67784dd70d25dde8dcad"), looks := false }, kinds := [], alts := [], laidByText := true, laidKinds := [.data, .data, .data], laidTests := true, laidLooks := .later }
def TraceNumbersCardSaid : Prop := Claim7.holds Tryd.pinned (.plain (OpenSpec.ofChange traceNumbersSpec)) traceNumbersCard

/-- THE TIED CARD OF 'astrariumlaw15.TracePrints'. -/
def tracePrintsCard : Claim7 := { stood := { row := tracePrintsRow, standIns := [], harness := (true, "fbed7119d371af2af1f362956e28b130c4c7fb32f2bd67784dd70d25dde8dcad"), looks := false }, kinds := [], alts := [], laidByText := true, laidKinds := [.data, .data, .data], laidTests := true, laidLooks := .later }
def TracePrintsCardSaid : Prop := Claim7.holds Tryd.pinned (.plain (OpenSpec.ofChange tracePrintsSpec)) tracePrintsCard

/-- THE SECOND FORM's CARD OF 'astrariumlaw15.TraceNumbers'. -/
def traceNumbersUptoCard : Claim7 := { stood := { row := traceNumbersUptoRow, standIns := [], harness := (true, "fbed7119d371af2af1f362956e28b130c4c7fb32f2bd67784dd70d25dde8dcad"), looks := false }, kinds := [], alts := [], laidByText := true, laidKinds := [.data, .data, .data], laidTests := true, laidLooks := .later }
def TraceNumbersUptoCardSaid : Prop := Claim7.holds Tryd.pinned (.plain (OpenSpec.upto traceNumbersSpec)) traceNumbersUptoCard

/-- THE SECOND FORM's CARD OF 'astrariumlaw15.TracePrints'. -/
def tracePrintsUptoCard : Claim7 := { stood := { row := tracePrintsUptoRow, standIns := [], harness := (true, "fbed7119d371af2af1f362956e28b130c4c7fb32f2bd67784dd70d25dde8dcad"), looks := false }, kinds := [], alts := [], laidByText := true, laidKinds := [.data, .data, .data], laidTests := true, laidLooks := .later }
def TracePrintsUptoCardSaid : Prop := Claim7.holds Tryd.pinned (.plain (OpenSpec.upto tracePrintsSpec)) tracePrintsUptoCard
end Rows
end Go.Proofs.YtibinmabdidecaaDoor
