/-
  DERIVED. GIVEN WITH THE SEED: THE CARDS: each row of YtmoodkjkecjeaacGreatDoorRows.lean that lists a variable, with what it lists TIED to the program's text (the seventh form; the later family's looks); each row that meets fmt, with fmt's text TOLD by the authors' own Lean function (tested against real Go, not proved from fmt's source: count such statements apart). THE CARD IS WHAT COUNTS. Prove the row's statement (the work); the ties are given (YtmoodkjkecjeaacGreatDoorTie.lean); close each card by the builder's one call (the guide's Derived/Test/ToyasCard.lean, 'card_holds'). Laid BY PROGRAM, IN A SANDBOX (cutbox-door.mjs). By AI agents, Wed Nov 11 2026. No macro, syntax, notation, axiom, sorry.
-/
import Derived.Test.YtmoodkjkecjeaacGreatDoorRows
import GoSem.ClaimSeven
namespace Go.Proofs.YtmoodkjkecjeaacGreatDoor
namespace Rows

/-- THE TIED CARD OF 'laws.FnExactConfDiff'. -/
def fnExactConfDiffCard : Claim7 := { stood := { row := fnExactConfDiffRow, standIns := [], harness := (true, "fb87172d80e7ffdd21e04b95c20b3eead7083cc692841a2850834b57d608eecb"), looks := true }, kinds := [], alts := [], laidByText := true, laidKinds := [.data, .data, .data, .data, .sentinel, .sentinel, .pinned], laidTests := true, laidLooks := .later }
def FnExactConfDiffCardSaid : Prop := Claim7.holds Tryz.pinned (.plain (OpenSpec.ofChange fnExactConfDiffSpec)) fnExactConfDiffCard

/-- THE SECOND FORM's CARD OF 'laws.FnExactConfDiff'. -/
def fnExactConfDiffUptoCard : Claim7 := { stood := { row := fnExactConfDiffUptoRow, standIns := [], harness := (true, "fb87172d80e7ffdd21e04b95c20b3eead7083cc692841a2850834b57d608eecb"), looks := true }, kinds := [], alts := [], laidByText := true, laidKinds := [.data, .data, .data, .data, .sentinel, .sentinel, .pinned], laidTests := true, laidLooks := .later }
def FnExactConfDiffUptoCardSaid : Prop := Claim7.holds Tryz.pinned (.plain (OpenSpec.upto fnExactConfDiffSpec)) fnExactConfDiffUptoCard
end Rows
end Go.Proofs.YtmoodkjkecjeaacGreatDoor
