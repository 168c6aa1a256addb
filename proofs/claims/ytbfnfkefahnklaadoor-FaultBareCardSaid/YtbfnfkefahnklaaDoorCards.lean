/-
  DERIVED. GIVEN WITH THE SEED: THE CARDS: each row of YtbfnfkefahnklaaDoorRows.lean that lists a variable, with what it lists TIED to the program's text (the seventh form; the later family's looks); each row that meets fmt, with fmt's text TOLD by the authors' own Lean function (tested against real Go, not proved from fmt's source: count such statements apart). THE CARD IS WHAT COUNTS. Prove the row's statement (the work); the ties are given (YtbfnfkefahnklaaDoorTie.lean); close each card by the builder's one call (the guide's Derived/Test/ToyasCard.lean, 'card_holds'). Laid BY PROGRAM, IN A SANDBOX (cutbox-door.mjs). By AI agents, Wed Nov 11 2026. No macro, syntax, notation, axiom, sorry.
-/
import Derived.Test.YtbfnfkefahnklaaDoorRows
import GoSem.ClaimSeven
namespace Go.Proofs.YtbfnfkefahnklaaDoor
namespace Rows

/-- THE TIED CARD OF 'astrariumlaw02.FaultTells'. -/
def faultTellsCard : Claim7 := { stood := { row := faultTellsRow, standIns := [], harness := (true, "a7a66f7ce30ffb602b4e5400cf532ba74308fa8a650d204dd378ae0433cb6423"), looks := true }, kinds := [], alts := [], laidByText := true, laidKinds := [.handle], laidTests := true, laidLooks := .later }
def FaultTellsCardSaid : Prop := Claim7.holds Tryd.pinned (.plain (OpenSpec.ofChange faultTellsSpec)) faultTellsCard

/-- THE TIED CARD OF 'astrariumlaw02.FaultBare'. -/
def faultBareCard : Claim7 := { stood := { row := faultBareRow, standIns := [], harness := (true, "a7a66f7ce30ffb602b4e5400cf532ba74308fa8a650d204dd378ae0433cb6423"), looks := true }, kinds := [], alts := [], laidByText := true, laidKinds := [.handle], laidTests := true, laidLooks := .later }
def FaultBareCardSaid : Prop := Claim7.holds Tryd.pinned (.plain (OpenSpec.ofChange faultBareSpec)) faultBareCard

/-- THE TIED CARD OF 'astrariumlaw02.FaultParts'. -/
def faultPartsCard : Claim7 := { stood := { row := faultPartsRow, standIns := [], harness := (true, "a7a66f7ce30ffb602b4e5400cf532ba74308fa8a650d204dd378ae0433cb6423"), looks := true }, kinds := [], alts := [], laidByText := true, laidKinds := [.handle], laidTests := true, laidLooks := .later }
def FaultPartsCardSaid : Prop := Claim7.holds Tryd.pinned (.plain (OpenSpec.ofChange faultPartsSpec)) faultPartsCard

/-- THE SECOND FORM's CARD OF 'astrariumlaw02.FaultTells'. -/
def faultTellsUptoCard : Claim7 := { stood := { row := faultTellsUptoRow, standIns := [], harness := (true, "a7a66f7ce30ffb602b4e5400cf532ba74308fa8a650d204dd378ae0433cb6423"), looks := true }, kinds := [], alts := [], laidByText := true, laidKinds := [.handle], laidTests := true, laidLooks := .later }
def FaultTellsUptoCardSaid : Prop := Claim7.holds Tryd.pinned (.plain (OpenSpec.upto faultTellsSpec)) faultTellsUptoCard

/-- THE SECOND FORM's CARD OF 'astrariumlaw02.FaultBare'. -/
def faultBareUptoCard : Claim7 := { stood := { row := faultBareUptoRow, standIns := [], harness := (true, "a7a66f7ce30ffb602b4e5400cf532ba74308fa8a650d204dd378ae0433cb6423"), looks := true }, kinds := [], alts := [], laidByText := true, laidKinds := [.handle], laidTests := true, laidLooks := .later }
def FaultBareUptoCardSaid : Prop := Claim7.holds Tryd.pinned (.plain (OpenSpec.upto faultBareSpec)) faultBareUptoCard

/-- THE SECOND FORM's CARD OF 'astrariumlaw02.FaultParts'. -/
def faultPartsUptoCard : Claim7 := { stood := { row := faultPartsUptoRow, standIns := [], harness := (true, "a7a66f7ce30ffb602b4e5400cf532ba74308fa8a650d204dd378ae0433cb6423"), looks := true }, kinds := [], alts := [], laidByText := true, laidKinds := [.handle], laidTests := true, laidLooks := .later }
def FaultPartsUptoCardSaid : Prop := Claim7.holds Tryd.pinned (.plain (OpenSpec.upto faultPartsSpec)) faultPartsUptoCard
end Rows
end Go.Proofs.YtbfnfkefahnklaaDoor
