/-
  DERIVED. GIVEN WITH THE SEED: THE CARDS: each row of YtbaholefcgacpaeGreatDoorRows.lean that lists a variable, with what it lists TIED to the program's text (the seventh form; the later family's looks); each row that meets fmt, with fmt's text TOLD by the authors' own Lean function (tested against real Go, not proved from fmt's source: count such statements apart). THE CARD IS WHAT COUNTS. Prove the row's statement (the work); the ties are given (YtbaholefcgacpaeGreatDoorTie.lean); close each card by the builder's one call (the guide's Derived/Test/ToyasCard.lean, 'card_holds'). Laid BY PROGRAM, IN A SANDBOX (cutbox-door.mjs). By AI agents, Wed Nov 11 2026. No macro, syntax, notation, axiom, sorry.
-/
import Derived.Test.YtbaholefcgacpaeGreatDoorRows
import GoSem.ClaimSeven
namespace Go.Proofs.YtbaholefcgacpaeGreatDoor
namespace Rows

/-- THE TIED CARD OF 'laws.FnExactTernPortOf'. -/
def fnExactTernPortOfCard : Claim7 := { stood := { row := fnExactTernPortOfRow, standIns := [], harness := (true, "e20bc948adaa74f3d1991469246368f3cb7963995ff9c3c906f4d172f4baf6b7"), looks := true }, kinds := [], alts := [], laidByText := true, laidKinds := [.data, .data, .data, .data, .sentinel, .sentinel, .pinned], laidTests := true, laidLooks := .later }
def FnExactTernPortOfCardSaid : Prop := Claim7.holds Tryz.pinned (.plain (OpenSpec.ofChange fnExactTernPortOfSpec)) fnExactTernPortOfCard

/-- THE SECOND FORM's CARD OF 'laws.FnExactTernPortOf'. -/
def fnExactTernPortOfUptoCard : Claim7 := { stood := { row := fnExactTernPortOfUptoRow, standIns := [], harness := (true, "e20bc948adaa74f3d1991469246368f3cb7963995ff9c3c906f4d172f4baf6b7"), looks := true }, kinds := [], alts := [], laidByText := true, laidKinds := [.data, .data, .data, .data, .sentinel, .sentinel, .pinned], laidTests := true, laidLooks := .later }
def FnExactTernPortOfUptoCardSaid : Prop := Claim7.holds Tryz.pinned (.plain (OpenSpec.upto fnExactTernPortOfSpec)) fnExactTernPortOfUptoCard
end Rows
end Go.Proofs.YtbaholefcgacpaeGreatDoor
