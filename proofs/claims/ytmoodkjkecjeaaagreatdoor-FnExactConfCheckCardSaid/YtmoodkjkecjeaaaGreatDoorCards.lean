/-
  DERIVED. GIVEN WITH THE SEED: THE CARDS: each row of YtmoodkjkecjeaaaGreatDoorRows.lean that lists a variable, with what it lists TIED to the program's text (the seventh form; the later family's looks); each row that meets fmt, with fmt's text TOLD by the authors' own Lean function (tested against real Go, not proved from fmt's source: count such statements apart). THE CARD IS WHAT COUNTS. Prove the row's statement (the work); the ties are given (YtmoodkjkecjeaaaGreatDoorTie.lean); close each card by the builder's one call (the guide's Derived/Test/ToyasCard.lean, 'card_holds'). Laid BY PROGRAM, IN A SANDBOX (cutbox-door.mjs). By AI agents, Wed Nov 11 2026. No macro, syntax, notation, axiom, sorry.
-/
import Derived.Test.YtmoodkjkecjeaaaGreatDoorRows
import GoSem.ClaimSeven
namespace Go.Proofs.YtmoodkjkecjeaaaGreatDoor
namespace Rows

/-- THE TIED CARD OF 'laws.FnExactConfCheck'. -/
def fnExactConfCheckCard : Claim7 := { stood := { row := fnExactConfCheckRow, standIns := [], harness := (true, "7e9cd4344af37d69610f5f5bc7c1c45d6d06aa98318e22521b861f2e8f53748e"), looks := true }, kinds := [], alts := [], laidByText := true, laidKinds := [.data, .data, .data, .data, .sentinel, .sentinel, .pinned], laidTests := true, laidLooks := .later }
def FnExactConfCheckCardSaid : Prop := Claim7.holds Tryz.pinned (.plain (OpenSpec.ofChange fnExactConfCheckSpec)) fnExactConfCheckCard

/-- THE SECOND FORM's CARD OF 'laws.FnExactConfCheck'. -/
def fnExactConfCheckUptoCard : Claim7 := { stood := { row := fnExactConfCheckUptoRow, standIns := [], harness := (true, "7e9cd4344af37d69610f5f5bc7c1c45d6d06aa98318e22521b861f2e8f53748e"), looks := true }, kinds := [], alts := [], laidByText := true, laidKinds := [.data, .data, .data, .data, .sentinel, .sentinel, .pinned], laidTests := true, laidLooks := .later }
def FnExactConfCheckUptoCardSaid : Prop := Claim7.holds Tryz.pinned (.plain (OpenSpec.upto fnExactConfCheckSpec)) fnExactConfCheckUptoCard
end Rows
end Go.Proofs.YtmoodkjkecjeaaaGreatDoor
