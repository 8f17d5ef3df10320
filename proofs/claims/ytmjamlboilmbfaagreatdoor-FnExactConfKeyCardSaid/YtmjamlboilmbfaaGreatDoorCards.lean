/-
  DERIVED. GIVEN WITH THE SEED: THE CARDS: each row of YtmjamlboilmbfaaGreatDoorRows.lean that lists a variable, with what it lists TIED to the program's text (the seventh form; the later family's looks); each row that meets fmt, with fmt's text TOLD by the authors' own Lean function (tested against real Go, not proved from fmt's source: count such statements apart). THE CARD IS WHAT COUNTS. Prove the row's statement (the work); the ties are given (YtmjamlboilmbfaaGreatDoorTie.lean); close each card by the builder's one call (the guide's Derived/Test/ToyasCard.lean, 'card_holds'). Laid BY PROGRAM, IN A SANDBOX (cutbox-door.mjs). By AI agents, Wed Nov 11 2026. No macro, syntax, notation, axiom, sorry.
-/
import Derived.Test.YtmjamlboilmbfaaGreatDoorRows
import GoSem.ClaimSeven
namespace Go.Proofs.YtmjamlboilmbfaaGreatDoor
namespace Rows

/-- THE TIED CARD OF 'laws.FnExactConfKey'. -/
def fnExactConfKeyCard : Claim7 := { stood := { row := fnExactConfKeyRow, standIns := [], harness := (true, "3e57b43ad4fc89dab8b664a096e79e7034bec48aa89b9dc85442c340d9db0d62"), looks := true }, kinds := [], alts := [], laidByText := true, laidKinds := [.data, .data, .data, .data, .sentinel, .sentinel, .pinned], laidTests := true, laidLooks := .later }
def FnExactConfKeyCardSaid : Prop := Claim7.holds Tryz.pinned (.plain (OpenSpec.ofChange fnExactConfKeySpec)) fnExactConfKeyCard

/-- THE TIED CARD OF 'laws.FnExactConfCheck'. -/
def fnExactConfCheckCard : Claim7 := { stood := { row := fnExactConfCheckRow, standIns := [], harness := (true, "3e57b43ad4fc89dab8b664a096e79e7034bec48aa89b9dc85442c340d9db0d62"), looks := true }, kinds := [], alts := [], laidByText := true, laidKinds := [.data, .data, .data, .data, .sentinel, .sentinel, .pinned], laidTests := true, laidLooks := .later }
def FnExactConfCheckCardSaid : Prop := Claim7.holds Tryz.pinned (.plain (OpenSpec.ofChange fnExactConfCheckSpec)) fnExactConfCheckCard

/-- THE TIED CARD OF 'laws.FnExactConfPrint'. -/
def fnExactConfPrintCard : Claim7 := { stood := { row := fnExactConfPrintRow, standIns := [], harness := (true, "3e57b43ad4fc89dab8b664a096e79e7034bec48aa89b9dc85442c340d9db0d62"), looks := true }, kinds := [], alts := [], laidByText := true, laidKinds := [.data, .data, .data, .data, .sentinel, .sentinel, .pinned], laidTests := true, laidLooks := .later }
def FnExactConfPrintCardSaid : Prop := Claim7.holds Tryz.pinned (.plain (OpenSpec.ofChange fnExactConfPrintSpec)) fnExactConfPrintCard

/-- THE TIED CARD OF 'laws.FnExactConfDiff'. -/
def fnExactConfDiffCard : Claim7 := { stood := { row := fnExactConfDiffRow, standIns := [], harness := (true, "3e57b43ad4fc89dab8b664a096e79e7034bec48aa89b9dc85442c340d9db0d62"), looks := true }, kinds := [], alts := [], laidByText := true, laidKinds := [.data, .data, .data, .data, .sentinel, .sentinel, .pinned], laidTests := true, laidLooks := .later }
def FnExactConfDiffCardSaid : Prop := Claim7.holds Tryz.pinned (.plain (OpenSpec.ofChange fnExactConfDiffSpec)) fnExactConfDiffCard

/-- THE SECOND FORM's CARD OF 'laws.FnExactConfKey'. -/
def fnExactConfKeyUptoCard : Claim7 := { stood := { row := fnExactConfKeyUptoRow, standIns := [], harness := (true, "3e57b43ad4fc89dab8b664a096e79e7034bec48aa89b9dc85442c340d9db0d62"), looks := true }, kinds := [], alts := [], laidByText := true, laidKinds := [.data, .data, .data, .data, .sentinel, .sentinel, .pinned], laidTests := true, laidLooks := .later }
def FnExactConfKeyUptoCardSaid : Prop := Claim7.holds Tryz.pinned (.plain (OpenSpec.upto fnExactConfKeySpec)) fnExactConfKeyUptoCard

/-- THE SECOND FORM's CARD OF 'laws.FnExactConfCheck'. -/
def fnExactConfCheckUptoCard : Claim7 := { stood := { row := fnExactConfCheckUptoRow, standIns := [], harness := (true, "3e57b43ad4fc89dab8b664a096e79e7034bec48aa89b9dc85442c340d9db0d62"), looks := true }, kinds := [], alts := [], laidByText := true, laidKinds := [.data, .data, .data, .data, .sentinel, .sentinel, .pinned], laidTests := true, laidLooks := .later }
def FnExactConfCheckUptoCardSaid : Prop := Claim7.holds Tryz.pinned (.plain (OpenSpec.upto fnExactConfCheckSpec)) fnExactConfCheckUptoCard

/-- THE SECOND FORM's CARD OF 'laws.FnExactConfPrint'. -/
def fnExactConfPrintUptoCard : Claim7 := { stood := { row := fnExactConfPrintUptoRow, standIns := [], harness := (true, "3e57b43ad4fc89dab8b664a096e79e7034bec48aa89b9dc85442c340d9db0d62"), looks := true }, kinds := [], alts := [], laidByText := true, laidKinds := [.data, .data, .data, .data, .sentinel, .sentinel, .pinned], laidTests := true, laidLooks := .later }
def FnExactConfPrintUptoCardSaid : Prop := Claim7.holds Tryz.pinned (.plain (OpenSpec.upto fnExactConfPrintSpec)) fnExactConfPrintUptoCard

/-- THE SECOND FORM's CARD OF 'laws.FnExactConfDiff'. -/
def fnExactConfDiffUptoCard : Claim7 := { stood := { row := fnExactConfDiffUptoRow, standIns := [], harness := (true, "3e57b43ad4fc89dab8b664a096e79e7034bec48aa89b9dc85442c340d9db0d62"), looks := true }, kinds := [], alts := [], laidByText := true, laidKinds := [.data, .data, .data, .data, .sentinel, .sentinel, .pinned], laidTests := true, laidLooks := .later }
def FnExactConfDiffUptoCardSaid : Prop := Claim7.holds Tryz.pinned (.plain (OpenSpec.upto fnExactConfDiffSpec)) fnExactConfDiffUptoCard
end Rows
end Go.Proofs.YtmjamlboilmbfaaGreatDoor
