/-
  DERIVED. GIVEN WITH THE SEED: THE CARDS: each row of YtmoodkjkecjeaabGreatDoorRows.lean that lists a variable, with what it lists TIED to the program's text (the seventh form; the later family's looks); each row that meets fmt, with fmt's text TOLD by the authors' own Lean function (tested against real Go, not proved from fmt's source: count such statements apart). THE CARD IS WHAT COUNTS. Prove the row's statement (the work); the ties are given (YtmoodkjkecjeaabGreatDoorTie.lean); close each card by the builder's one call (the guide's Derived/Test/ToyasCard.lean, 'card_holds'). Laid BY PROGRAM, IN A SANDBOX (cutbox-door.mjs). By AI agents, Wed Nov 11 2026. No macro, syntax, notation, axiom, sorry.
-/
import Derived.Test.YtmoodkjkecjeaabGreatDoorRows
import GoSem.ClaimSeven
namespace Go.Proofs.YtmoodkjkecjeaabGreatDoor
namespace Rows

/-- THE TIED CARD OF 'laws.FnExactConfPrint'. -/
def fnExactConfPrintCard : Claim7 := { stood := { row := fnExactConfPrintRow, standIns := [], harness := (true, "32bc235cf8276a97b72ef35fd73b1d69b5264b21c53372f9257d3769df769f73"), looks := true }, kinds := [], alts := [], laidByText := true, laidKinds := [.data, .data, .data, .data, .sentinel, .sentinel, .pinned], laidTests := true, laidLooks := .later }
def FnExactConfPrintCardSaid : Prop := Claim7.holds Tryz.pinned (.plain (OpenSpec.ofChange fnExactConfPrintSpec)) fnExactConfPrintCard

/-- THE SECOND FORM's CARD OF 'laws.FnExactConfPrint'. -/
def fnExactConfPrintUptoCard : Claim7 := { stood := { row := fnExactConfPrintUptoRow, standIns := [], harness := (true, "32bc235cf8276a97b72ef35fd73b1d69b5264b21c53372f9257d3769df769f73"), looks := true }, kinds := [], alts := [], laidByText := true, laidKinds := [.data, .data, .data, .data, .sentinel, .sentinel, .pinned], laidTests := true, laidLooks := .later }
def FnExactConfPrintUptoCardSaid : Prop := Claim7.holds Tryz.pinned (.plain (OpenSpec.upto fnExactConfPrintSpec)) fnExactConfPrintUptoCard
end Rows
end Go.Proofs.YtmoodkjkecjeaabGreatDoor
