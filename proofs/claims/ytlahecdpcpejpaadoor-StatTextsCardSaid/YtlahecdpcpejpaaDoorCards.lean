/-
  DERIVED. GIVEN WITH THE SEED: THE CARDS: each row of YtlahecdpcpejpaaDoorRows.lean that lists a variable, with what it lists TIED to the program's text (the seventh form; the later family's looks); each row that meets fmt, with fmt's text TOLD by the authors' own Lean function (tested against real Go, not proved from fmt's source: count such statements apart). THE CARD IS WHAT COUNTS. Prove the row's statement (the work); the ties are given (YtlahecdpcpejpaaDoorTie.lean); close each card by the builder's one call (the guide's Derived/Test/ToyasCard.lean, 'card_holds'). Laid BY PROGRAM, IN A SANDBOX (cutbox-door.mjs). By AI agents, Wed Nov 11 2026. No macro, syntax, notation, axiom, sorry.
-/
import Derived.Test.YtlahecdpcpejpaaDoorRows
import GoSem.ClaimSeven
namespace Go.Proofs.YtlahecdpcpejpaaDoor
namespace Rows

/-- THE TIED CARD OF 'astrariumlaw40.StatTexts'. -/
def statTextsCard : Claim7 := { stood := { row := statTextsRow, standIns := [], harness := (true, "20f116267cce99367fe785dc4a9907716f93f5c28dd0d72137a652e665ac7c7e"), looks := false }, kinds := [], alts := [], laidByText := true, laidKinds := [.data, .data, .data], laidTests := true, laidLooks := .later }
def StatTextsCardSaid : Prop := Claim7.holds Tryd.pinned (.plain (OpenSpec.ofChange statTextsSpec)) statTextsCard

/-- THE TIED CARD OF 'astrariumlaw40.StatLists'. -/
def statListsCard : Claim7 := { stood := { row := statListsRow, standIns := [], harness := (true, "20f116267cce99367fe785dc4a9907716f93f5c28dd0d72137a652e665ac7c7e"), looks := false }, kinds := [], alts := [], laidByText := true, laidKinds := [.data, .data, .data], laidTests := true, laidLooks := .later }
def StatListsCardSaid : Prop := Claim7.holds Tryd.pinned (.plain (OpenSpec.ofChange statListsSpec)) statListsCard

/-- THE SECOND FORM's CARD OF 'astrariumlaw40.StatTexts'. -/
def statTextsUptoCard : Claim7 := { stood := { row := statTextsUptoRow, standIns := [], harness := (true, "20f116267cce99367fe785dc4a9907716f93f5c28dd0d72137a652e665ac7c7e"), looks := false }, kinds := [], alts := [], laidByText := true, laidKinds := [.data, .data, .data], laidTests := true, laidLooks := .later }
def StatTextsUptoCardSaid : Prop := Claim7.holds Tryd.pinned (.plain (OpenSpec.upto statTextsSpec)) statTextsUptoCard

/-- THE SECOND FORM's CARD OF 'astrariumlaw40.StatLists'. -/
def statListsUptoCard : Claim7 := { stood := { row := statListsUptoRow, standIns := [], harness := (true, "20f116267cce99367fe785dc4a9907716f93f5c28dd0d72137a652e665ac7c7e"), looks := false }, kinds := [], alts := [], laidByText := true, laidKinds := [.data, .data, .data], laidTests := true, laidLooks := .later }
def StatListsUptoCardSaid : Prop := Claim7.holds Tryd.pinned (.plain (OpenSpec.upto statListsSpec)) statListsUptoCard
end Rows
end Go.Proofs.YtlahecdpcpejpaaDoor
