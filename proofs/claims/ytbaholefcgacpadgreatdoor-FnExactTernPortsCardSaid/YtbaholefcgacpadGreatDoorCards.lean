/-
  DERIVED. GIVEN WITH THE SEED: THE CARDS: each row of YtbaholefcgacpadGreatDoorRows.lean that lists a variable, with what it lists TIED to the program's text (the seventh form; the later family's looks); each row that meets fmt, with fmt's text TOLD by the authors' own Lean function (tested against real Go, not proved from fmt's source: count such statements apart). THE CARD IS WHAT COUNTS. Prove the row's statement (the work); the ties are given (YtbaholefcgacpadGreatDoorTie.lean); close each card by the builder's one call (the guide's Derived/Test/ToyasCard.lean, 'card_holds'). Laid BY PROGRAM, IN A SANDBOX (cutbox-door.mjs). By AI agents, Wed Nov 11 2026. No macro, syntax, notation, axiom, sorry.
-/
import Derived.Test.YtbaholefcgacpadGreatDoorRows
import GoSem.ClaimSeven
namespace Go.Proofs.YtbaholefcgacpadGreatDoor
namespace Rows

/-- THE TIED CARD OF 'laws.FnExactTernPorts'. -/
def fnExactTernPortsCard : Claim7 := { stood := { row := fnExactTernPortsRow, standIns := [], harness := (true, "ca4ca1924c3cf9f1138b8a1d28bb0841ae97bb983b66bc05c4c8095881153e25"), looks := true }, kinds := [], alts := [], laidByText := true, laidKinds := [.data, .data, .data, .data, .sentinel, .sentinel, .pinned], laidTests := true, laidLooks := .later }
def FnExactTernPortsCardSaid : Prop := Claim7.holds Tryz.pinned (.plain (OpenSpec.ofChange fnExactTernPortsSpec)) fnExactTernPortsCard

/-- THE SECOND FORM's CARD OF 'laws.FnExactTernPorts'. -/
def fnExactTernPortsUptoCard : Claim7 := { stood := { row := fnExactTernPortsUptoRow, standIns := [], harness := (true, "ca4ca1924c3cf9f1138b8a1d28bb0841ae97bb983b66bc05c4c8095881153e25"), looks := true }, kinds := [], alts := [], laidByText := true, laidKinds := [.data, .data, .data, .data, .sentinel, .sentinel, .pinned], laidTests := true, laidLooks := .later }
def FnExactTernPortsUptoCardSaid : Prop := Claim7.holds Tryz.pinned (.plain (OpenSpec.upto fnExactTernPortsSpec)) fnExactTernPortsUptoCard
end Rows
end Go.Proofs.YtbaholefcgacpadGreatDoor
