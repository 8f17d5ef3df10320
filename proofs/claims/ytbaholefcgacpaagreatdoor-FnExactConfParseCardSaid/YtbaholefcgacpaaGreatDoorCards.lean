/-
  DERIVED. GIVEN WITH THE SEED: THE CARDS: each row of YtbaholefcgacpaaGreatDoorRows.lean that lists a variable, with what it lists TIED to the program's text (the seventh form; the later family's looks); each row that meets fmt, with fmt's text TOLD by the authors' own Lean function (tested against real Go, not proved from fmt's source: count such statements apart). THE CARD IS WHAT COUNTS. Prove the row's statement (the work); the ties are given (YtbaholefcgacpaaGreatDoorTie.lean); close each card by the builder's one call (the guide's Derived/Test/ToyasCard.lean, 'card_holds'). Laid BY PROGRAM, IN A SANDBOX (cutbox-door.mjs). By AI agents, Wed Nov 11 2026. No macro, syntax, notation, axiom, sorry.
-/
import Derived.Test.YtbaholefcgacpaaGreatDoorRows
import GoSem.ClaimSeven
namespace Go.Proofs.YtbaholefcgacpaaGreatDoor
namespace Rows

/-- THE TIED CARD OF 'laws.FnExactConfParse'. -/
def fnExactConfParseCard : Claim7 := { stood := { row := fnExactConfParseRow, standIns := [], harness := (true, "441f10c0baddec8c0b5150b0bf04d06842a08a0108b4596446bac904c543c2d0"), looks := true }, kinds := [], alts := [], laidByText := true, laidKinds := [.data, .data, .data, .data, .sentinel, .sentinel, .pinned], laidTests := true, laidLooks := .later }
def FnExactConfParseCardSaid : Prop := Claim7.holds Tryz.pinned (.plain (OpenSpec.ofChange fnExactConfParseSpec)) fnExactConfParseCard

/-- THE SECOND FORM's CARD OF 'laws.FnExactConfParse'. -/
def fnExactConfParseUptoCard : Claim7 := { stood := { row := fnExactConfParseUptoRow, standIns := [], harness := (true, "441f10c0baddec8c0b5150b0bf04d06842a08a0108b4596446bac904c543c2d0"), looks := true }, kinds := [], alts := [], laidByText := true, laidKinds := [.data, .data, .data, .data, .sentinel, .sentinel, .pinned], laidTests := true, laidLooks := .later }
def FnExactConfParseUptoCardSaid : Prop := Claim7.holds Tryz.pinned (.plain (OpenSpec.upto fnExactConfParseSpec)) fnExactConfParseUptoCard
end Rows
end Go.Proofs.YtbaholefcgacpaaGreatDoor
