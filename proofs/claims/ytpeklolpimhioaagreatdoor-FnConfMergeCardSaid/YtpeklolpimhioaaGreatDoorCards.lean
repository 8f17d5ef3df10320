/-
  DERIVED. GIVEN WITH THE SEED: THE CARDS: each row of YtpeklolpimhioaaGreatDoorRows.lean that lists a variable, with what it lists TIED to the program's text (the seventh form; the later family's looks); each row that meets fmt, with fmt's text TOLD by the authors' own Lean function (tested against real Go, not proved from fmt's source: count such statements apart). THE CARD IS WHAT COUNTS. Prove the row's statement (the work); the ties are given (YtpeklolpimhioaaGreatDoorTie.lean); close each card by the builder's one call (the guide's Derived/Test/ToyasCard.lean, 'card_holds'). Laid BY PROGRAM, IN A SANDBOX (cutbox-door.mjs). By AI agents, Wed Nov 11 2026. No macro, syntax, notation, axiom, sorry.
-/
import Derived.Test.YtpeklolpimhioaaGreatDoorRows
import GoSem.ClaimSeven
namespace Go.Proofs.YtpeklolpimhioaaGreatDoor
namespace Rows

/-- THE TIED CARD OF 'laws.FnConfMerge'. -/
def fnConfMergeCard : Claim7 := { stood := { row := fnConfMergeRow, standIns := [], harness := (true, "5d1f068b78e96021462e8b07fc4850690fe20e39573953747ce801a759d08ca5"), looks := true }, kinds := [], alts := [], laidByText := true, laidKinds := [.data, .data, .data, .data, .sentinel, .sentinel, .pinned], laidTests := true, laidLooks := .later }
def FnConfMergeCardSaid : Prop := Claim7.holds Tryz.pinned (.plain (OpenSpec.ofChange fnConfMergeSpec)) fnConfMergeCard

/-- THE SECOND FORM's CARD OF 'laws.FnConfMerge'. -/
def fnConfMergeUptoCard : Claim7 := { stood := { row := fnConfMergeUptoRow, standIns := [], harness := (true, "5d1f068b78e96021462e8b07fc4850690fe20e39573953747ce801a759d08ca5"), looks := true }, kinds := [], alts := [], laidByText := true, laidKinds := [.data, .data, .data, .data, .sentinel, .sentinel, .pinned], laidTests := true, laidLooks := .later }
def FnConfMergeUptoCardSaid : Prop := Claim7.holds Tryz.pinned (.plain (OpenSpec.upto fnConfMergeSpec)) fnConfMergeUptoCard
end Rows
end Go.Proofs.YtpeklolpimhioaaGreatDoor
