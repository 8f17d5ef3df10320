/-
  DERIVED. GIVEN WITH THE SEED: THE CARDS: each row of YtbaholefcgacpabGreatDoorRows.lean that lists a variable, with what it lists TIED to the program's text (the seventh form; the later family's looks); each row that meets fmt, with fmt's text TOLD by the authors' own Lean function (tested against real Go, not proved from fmt's source: count such statements apart). THE CARD IS WHAT COUNTS. Prove the row's statement (the work); the ties are given (YtbaholefcgacpabGreatDoorTie.lean); close each card by the builder's one call (the guide's Derived/Test/ToyasCard.lean, 'card_holds'). Laid BY PROGRAM, IN A SANDBOX (cutbox-door.mjs). By AI agents, Wed Nov 11 2026. No macro, syntax, notation, axiom, sorry.
-/
import Derived.Test.YtbaholefcgacpabGreatDoorRows
import GoSem.ClaimSeven
namespace Go.Proofs.YtbaholefcgacpabGreatDoor
namespace Rows

/-- THE TIED CARD OF 'laws.FnExactConfOpen'. -/
def fnExactConfOpenCard : Claim7 := { stood := { row := fnExactConfOpenRow, standIns := [], harness := (true, "293376c744312214ce4c296eb3ce0a17d7485b86569eec29db5e2f953e15fd20"), looks := true }, kinds := [], alts := [], laidByText := true, laidKinds := [.data, .data, .data, .data, .sentinel, .sentinel, .pinned], laidTests := true, laidLooks := .later }
def FnExactConfOpenCardSaid : Prop := Claim7.holds Tryz.pinned (.plain (OpenSpec.ofChange fnExactConfOpenSpec)) fnExactConfOpenCard

/-- THE SECOND FORM's CARD OF 'laws.FnExactConfOpen'. -/
def fnExactConfOpenUptoCard : Claim7 := { stood := { row := fnExactConfOpenUptoRow, standIns := [], harness := (true, "293376c744312214ce4c296eb3ce0a17d7485b86569eec29db5e2f953e15fd20"), looks := true }, kinds := [], alts := [], laidByText := true, laidKinds := [.data, .data, .data, .data, .sentinel, .sentinel, .pinned], laidTests := true, laidLooks := .later }
def FnExactConfOpenUptoCardSaid : Prop := Claim7.holds Tryz.pinned (.plain (OpenSpec.upto fnExactConfOpenSpec)) fnExactConfOpenUptoCard
end Rows
end Go.Proofs.YtbaholefcgacpabGreatDoor
