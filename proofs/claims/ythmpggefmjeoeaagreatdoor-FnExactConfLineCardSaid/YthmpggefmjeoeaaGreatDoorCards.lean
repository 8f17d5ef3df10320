/-
  DERIVED. GIVEN WITH THE SEED: THE CARDS: each row of YthmpggefmjeoeaaGreatDoorRows.lean that lists a variable, with what it lists TIED to the program's text (the seventh form; the later family's looks); each row that meets fmt, with fmt's text TOLD by the authors' own Lean function (tested against real Go, not proved from fmt's source: count such statements apart). THE CARD IS WHAT COUNTS. Prove the row's statement (the work); the ties are given (YthmpggefmjeoeaaGreatDoorTie.lean); close each card by the builder's one call (the guide's Derived/Test/ToyasCard.lean, 'card_holds'). Laid BY PROGRAM, IN A SANDBOX (cutbox-door.mjs). By AI agents, Wed Nov 11 2026. No macro, syntax, notation, axiom, sorry.
-/
import Derived.Test.YthmpggefmjeoeaaGreatDoorRows
import GoSem.ClaimSeven
namespace Go.Proofs.YthmpggefmjeoeaaGreatDoor
namespace Rows

/-- THE TIED CARD OF 'laws.FnExactConfLine'. -/
def fnExactConfLineCard : Claim7 := { stood := { row := fnExactConfLineRow, standIns := [], harness := (true, "c443fdb73ff01fae9fab7b32c1e75ec221f8ead89450030d21e3ce09444ce94e"), looks := true }, kinds := [], alts := [], laidByText := true, laidKinds := [.data, .data, .data, .data, .sentinel, .sentinel, .pinned], laidTests := true, laidLooks := .later }
def FnExactConfLineCardSaid : Prop := Claim7.holds Tryz.pinned (.plain (OpenSpec.ofChange fnExactConfLineSpec)) fnExactConfLineCard

/-- THE SECOND FORM's CARD OF 'laws.FnExactConfLine'. -/
def fnExactConfLineUptoCard : Claim7 := { stood := { row := fnExactConfLineUptoRow, standIns := [], harness := (true, "c443fdb73ff01fae9fab7b32c1e75ec221f8ead89450030d21e3ce09444ce94e"), looks := true }, kinds := [], alts := [], laidByText := true, laidKinds := [.data, .data, .data, .data, .sentinel, .sentinel, .pinned], laidTests := true, laidLooks := .later }
def FnExactConfLineUptoCardSaid : Prop := Claim7.holds Tryz.pinned (.plain (OpenSpec.upto fnExactConfLineSpec)) fnExactConfLineUptoCard
end Rows
end Go.Proofs.YthmpggefmjeoeaaGreatDoor
