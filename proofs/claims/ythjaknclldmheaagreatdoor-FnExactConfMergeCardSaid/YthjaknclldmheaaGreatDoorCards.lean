/-
  DERIVED. GIVEN WITH THE SEED: THE CARDS: each row of YthjaknclldmheaaGreatDoorRows.lean that lists a variable, with what it lists TIED to the program's text (the seventh form; the later family's looks); each row that meets fmt, with fmt's text TOLD by the authors' own Lean function (tested against real Go, not proved from fmt's source: count such statements apart). THE CARD IS WHAT COUNTS. Prove the row's statement (the work); the ties are given (YthjaknclldmheaaGreatDoorTie.lean); close each card by the builder's one call (the guide's Derived/Test/ToyasCard.lean, 'card_holds'). Laid BY PROGRAM, IN A SANDBOX (cutbox-door.mjs). By AI agents, Wed Nov 11 2026. No macro, syntax, notation, axiom, sorry.
-/
import Derived.Test.YthjaknclldmheaaGreatDoorRows
import GoSem.ClaimSeven
namespace Go.Proofs.YthjaknclldmheaaGreatDoor
namespace Rows

/-- THE TIED CARD OF 'laws.FnExactConfDiff'. -/
def fnExactConfDiffCard : Claim7 := { stood := { row := fnExactConfDiffRow, standIns := [], harness := (true, "15a610af689f9a58b53d43f0323c8bf9531cef24e15499f2b85c69767026ebf9"), looks := true }, kinds := [], alts := [], laidByText := true, laidKinds := [.data, .data, .data, .data, .sentinel, .sentinel, .pinned], laidTests := true, laidLooks := .later }
def FnExactConfDiffCardSaid : Prop := Claim7.holds Tryz.pinned (.plain (OpenSpec.ofChange fnExactConfDiffSpec)) fnExactConfDiffCard

/-- THE TIED CARD OF 'laws.FnExactConfMay'. -/
def fnExactConfMayCard : Claim7 := { stood := { row := fnExactConfMayRow, standIns := [], harness := (true, "15a610af689f9a58b53d43f0323c8bf9531cef24e15499f2b85c69767026ebf9"), looks := true }, kinds := [], alts := [], laidByText := true, laidKinds := [.data, .data, .data, .data, .sentinel, .sentinel, .pinned], laidTests := true, laidLooks := .later }
def FnExactConfMayCardSaid : Prop := Claim7.holds Tryz.pinned (.plain (OpenSpec.ofChange fnExactConfMaySpec)) fnExactConfMayCard

/-- THE TIED CARD OF 'laws.FnExactConfMerge'. -/
def fnExactConfMergeCard : Claim7 := { stood := { row := fnExactConfMergeRow, standIns := [], harness := (true, "15a610af689f9a58b53d43f0323c8bf9531cef24e15499f2b85c69767026ebf9"), looks := true }, kinds := [], alts := [], laidByText := true, laidKinds := [.data, .data, .data, .data, .sentinel, .sentinel, .pinned], laidTests := true, laidLooks := .later }
def FnExactConfMergeCardSaid : Prop := Claim7.holds Tryz.pinned (.plain (OpenSpec.ofChange fnExactConfMergeSpec)) fnExactConfMergeCard

/-- THE TIED CARD OF 'laws.FnExactConfStoreOk'. -/
def fnExactConfStoreOkCard : Claim7 := { stood := { row := fnExactConfStoreOkRow, standIns := [], harness := (true, "15a610af689f9a58b53d43f0323c8bf9531cef24e15499f2b85c69767026ebf9"), looks := true }, kinds := [], alts := [], laidByText := true, laidKinds := [.data, .data, .data, .data, .sentinel, .sentinel, .pinned], laidTests := true, laidLooks := .later }
def FnExactConfStoreOkCardSaid : Prop := Claim7.holds Tryz.pinned (.plain (OpenSpec.ofChange fnExactConfStoreOkSpec)) fnExactConfStoreOkCard

/-- THE SECOND FORM's CARD OF 'laws.FnExactConfDiff'. -/
def fnExactConfDiffUptoCard : Claim7 := { stood := { row := fnExactConfDiffUptoRow, standIns := [], harness := (true, "15a610af689f9a58b53d43f0323c8bf9531cef24e15499f2b85c69767026ebf9"), looks := true }, kinds := [], alts := [], laidByText := true, laidKinds := [.data, .data, .data, .data, .sentinel, .sentinel, .pinned], laidTests := true, laidLooks := .later }
def FnExactConfDiffUptoCardSaid : Prop := Claim7.holds Tryz.pinned (.plain (OpenSpec.upto fnExactConfDiffSpec)) fnExactConfDiffUptoCard

/-- THE SECOND FORM's CARD OF 'laws.FnExactConfMay'. -/
def fnExactConfMayUptoCard : Claim7 := { stood := { row := fnExactConfMayUptoRow, standIns := [], harness := (true, "15a610af689f9a58b53d43f0323c8bf9531cef24e15499f2b85c69767026ebf9"), looks := true }, kinds := [], alts := [], laidByText := true, laidKinds := [.data, .data, .data, .data, .sentinel, .sentinel, .pinned], laidTests := true, laidLooks := .later }
def FnExactConfMayUptoCardSaid : Prop := Claim7.holds Tryz.pinned (.plain (OpenSpec.upto fnExactConfMaySpec)) fnExactConfMayUptoCard

/-- THE SECOND FORM's CARD OF 'laws.FnExactConfMerge'. -/
def fnExactConfMergeUptoCard : Claim7 := { stood := { row := fnExactConfMergeUptoRow, standIns := [], harness := (true, "15a610af689f9a58b53d43f0323c8bf9531cef24e15499f2b85c69767026ebf9"), looks := true }, kinds := [], alts := [], laidByText := true, laidKinds := [.data, .data, .data, .data, .sentinel, .sentinel, .pinned], laidTests := true, laidLooks := .later }
def FnExactConfMergeUptoCardSaid : Prop := Claim7.holds Tryz.pinned (.plain (OpenSpec.upto fnExactConfMergeSpec)) fnExactConfMergeUptoCard

/-- THE SECOND FORM's CARD OF 'laws.FnExactConfStoreOk'. -/
def fnExactConfStoreOkUptoCard : Claim7 := { stood := { row := fnExactConfStoreOkUptoRow, standIns := [], harness := (true, "15a610af689f9a58b53d43f0323c8bf9531cef24e15499f2b85c69767026ebf9"), looks := true }, kinds := [], alts := [], laidByText := true, laidKinds := [.data, .data, .data, .data, .sentinel, .sentinel, .pinned], laidTests := true, laidLooks := .later }
def FnExactConfStoreOkUptoCardSaid : Prop := Claim7.holds Tryz.pinned (.plain (OpenSpec.upto fnExactConfStoreOkSpec)) fnExactConfStoreOkUptoCard
end Rows
end Go.Proofs.YthjaknclldmheaaGreatDoor
