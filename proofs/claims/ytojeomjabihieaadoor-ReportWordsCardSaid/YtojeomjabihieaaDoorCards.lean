/-
  DERIVED. GIVEN WITH THE SEED: THE CARDS: each row of YtojeomjabihieaaDoorRows.lean that lists a variable, with what it lists TIED to the program's text (the seventh form; the later family's looks); each row that meets fmt, with fmt's text TOLD by the authors' own Lean function (tested against real Go, not proved from fmt's source: count such statements apart). THE CARD IS WHAT COUNTS. Prove the row's statement (the work); the ties are given (YtojeomjabihieaaDoorTie.lean); close each card by the builder's one call (the guide's Derived/Test/ToyasCard.lean, 'card_holds'). Laid BY PROGRAM, IN A SANDBOX (cutbox-door.mjs). By AI agents, Wed Nov 11 2026. No macro, syntax, notation, axiom, sorry.
-/
import Derived.Test.YtojeomjabihieaaDoorRows
import GoSem.ClaimSeven
namespace Go.Proofs.YtojeomjabihieaaDoor
namespace Rows

/-- THE TIED CARD OF 'astrariumlaw37.ReportWords'. -/
def reportWordsCard : Claim7 := { stood := { row := reportWordsRow, standIns := [], harness := (true, "77ffd7785f249ec8c3f46c6eb453add16ffb6bffa2afd97532b704b9db70a773"), looks := false }, kinds := [], alts := [], laidByText := true, laidKinds := [.data, .data, .data], laidTests := true, laidLooks := .later }
def ReportWordsCardSaid : Prop := Claim7.holds Tryd.pinned (.plain (OpenSpec.ofChange reportWordsSpec)) reportWordsCard

/-- THE TIED CARD OF 'astrariumlaw37.ReportPrints'. -/
def reportPrintsCard : Claim7 := { stood := { row := reportPrintsRow, standIns := [], harness := (true, "77ffd7785f249ec8c3f46c6eb453add16ffb6bffa2afd97532b704b9db70a773"), looks := false }, kinds := [], alts := [], laidByText := true, laidKinds := [.data, .data, .data], laidTests := true, laidLooks := .later }
def ReportPrintsCardSaid : Prop := Claim7.holds Tryd.pinned (.plain (OpenSpec.ofChange reportPrintsSpec)) reportPrintsCard

/-- THE SECOND FORM's CARD OF 'astrariumlaw37.ReportWords'. -/
def reportWordsUptoCard : Claim7 := { stood := { row := reportWordsUptoRow, standIns := [], harness := (true, "77ffd7785f249ec8c3f46c6eb453add16ffb6bffa2afd97532b704b9db70a773"), looks := false }, kinds := [], alts := [], laidByText := true, laidKinds := [.data, .data, .data], laidTests := true, laidLooks := .later }
def ReportWordsUptoCardSaid : Prop := Claim7.holds Tryd.pinned (.plain (OpenSpec.upto reportWordsSpec)) reportWordsUptoCard

/-- THE SECOND FORM's CARD OF 'astrariumlaw37.ReportPrints'. -/
def reportPrintsUptoCard : Claim7 := { stood := { row := reportPrintsUptoRow, standIns := [], harness := (true, "77ffd7785f249ec8c3f46c6eb453add16ffb6bffa2afd97532b704b9db70a773"), looks := false }, kinds := [], alts := [], laidByText := true, laidKinds := [.data, .data, .data], laidTests := true, laidLooks := .later }
def ReportPrintsUptoCardSaid : Prop := Claim7.holds Tryd.pinned (.plain (OpenSpec.upto reportPrintsSpec)) reportPrintsUptoCard
end Rows
end Go.Proofs.YtojeomjabihieaaDoor
