/-
  DERIVED. GIVEN WITH THE SEED: THE CARDS: each row of YtabmhncnckahfaaGreatDoorRows.lean that lists a variable, with what it lists TIED to the program's text (the seventh form; the later family's looks); each row that meets fmt, with fmt's text TOLD by the authors' own Lean function (tested against real Go, not proved from fmt's source: count such statements apart). THE CARD IS WHAT COUNTS. Prove the row's statement (the work); the ties are given (YtabmhncnckahfaaGreatDoorTie.lean); close each card by the builder's one call (the guide's Derived/Test/ToyasCard.lean, 'card_holds'). Laid BY PROGRAM, IN A SANDBOX (cutbox-door.mjs). By AI agents, Wed Nov 11 2026. No macro, syntax, notation, axiom, sorry.
-/
import Derived.Test.YtabmhncnckahfaaGreatDoorRows
import GoSem.ClaimSeven
namespace Go.Proofs.YtabmhncnckahfaaGreatDoor
namespace Rows

/-- THE TIED CARD OF 'laws.FnConfLine'. -/
def fnConfLineCard : Claim7 := { stood := { row := fnConfLineRow, standIns := [], harness := (true, "87bc95dfcaa8e9e218968918e478f37ec198287aa455e5fd6dbb275fe80df2ee"), looks := true }, kinds := [], alts := [], laidByText := true, laidKinds := [.data, .data, .data, .data, .sentinel, .sentinel, .pinned], laidTests := true, laidLooks := .later }
def FnConfLineCardSaid : Prop := Claim7.holds Tryz.pinned (.plain (OpenSpec.ofChange fnConfLineSpec)) fnConfLineCard

/-- THE TIED CARD OF 'laws.FnConfParse'. -/
def fnConfParseCard : Claim7 := { stood := { row := fnConfParseRow, standIns := [], harness := (true, "87bc95dfcaa8e9e218968918e478f37ec198287aa455e5fd6dbb275fe80df2ee"), looks := true }, kinds := [], alts := [], laidByText := true, laidKinds := [.data, .data, .data, .data, .sentinel, .sentinel, .pinned], laidTests := true, laidLooks := .later }
def FnConfParseCardSaid : Prop := Claim7.holds Tryz.pinned (.plain (OpenSpec.ofChange fnConfParseSpec)) fnConfParseCard

/-- THE TIED CARD OF 'laws.FnConfDiff'. -/
def fnConfDiffCard : Claim7 := { stood := { row := fnConfDiffRow, standIns := [], harness := (true, "87bc95dfcaa8e9e218968918e478f37ec198287aa455e5fd6dbb275fe80df2ee"), looks := true }, kinds := [], alts := [], laidByText := true, laidKinds := [.data, .data, .data, .data, .sentinel, .sentinel, .pinned], laidTests := true, laidLooks := .later }
def FnConfDiffCardSaid : Prop := Claim7.holds Tryz.pinned (.plain (OpenSpec.ofChange fnConfDiffSpec)) fnConfDiffCard

/-- THE TIED CARD OF 'laws.FnConfMay'. -/
def fnConfMayCard : Claim7 := { stood := { row := fnConfMayRow, standIns := [], harness := (true, "87bc95dfcaa8e9e218968918e478f37ec198287aa455e5fd6dbb275fe80df2ee"), looks := true }, kinds := [], alts := [], laidByText := true, laidKinds := [.data, .data, .data, .data, .sentinel, .sentinel, .pinned], laidTests := true, laidLooks := .later }
def FnConfMayCardSaid : Prop := Claim7.holds Tryz.pinned (.plain (OpenSpec.ofChange fnConfMaySpec)) fnConfMayCard

/-- THE SECOND FORM's CARD OF 'laws.FnConfLine'. -/
def fnConfLineUptoCard : Claim7 := { stood := { row := fnConfLineUptoRow, standIns := [], harness := (true, "87bc95dfcaa8e9e218968918e478f37ec198287aa455e5fd6dbb275fe80df2ee"), looks := true }, kinds := [], alts := [], laidByText := true, laidKinds := [.data, .data, .data, .data, .sentinel, .sentinel, .pinned], laidTests := true, laidLooks := .later }
def FnConfLineUptoCardSaid : Prop := Claim7.holds Tryz.pinned (.plain (OpenSpec.upto fnConfLineSpec)) fnConfLineUptoCard

/-- THE SECOND FORM's CARD OF 'laws.FnConfParse'. -/
def fnConfParseUptoCard : Claim7 := { stood := { row := fnConfParseUptoRow, standIns := [], harness := (true, "87bc95dfcaa8e9e218968918e478f37ec198287aa455e5fd6dbb275fe80df2ee"), looks := true }, kinds := [], alts := [], laidByText := true, laidKinds := [.data, .data, .data, .data, .sentinel, .sentinel, .pinned], laidTests := true, laidLooks := .later }
def FnConfParseUptoCardSaid : Prop := Claim7.holds Tryz.pinned (.plain (OpenSpec.upto fnConfParseSpec)) fnConfParseUptoCard

/-- THE SECOND FORM's CARD OF 'laws.FnConfDiff'. -/
def fnConfDiffUptoCard : Claim7 := { stood := { row := fnConfDiffUptoRow, standIns := [], harness := (true, "87bc95dfcaa8e9e218968918e478f37ec198287aa455e5fd6dbb275fe80df2ee"), looks := true }, kinds := [], alts := [], laidByText := true, laidKinds := [.data, .data, .data, .data, .sentinel, .sentinel, .pinned], laidTests := true, laidLooks := .later }
def FnConfDiffUptoCardSaid : Prop := Claim7.holds Tryz.pinned (.plain (OpenSpec.upto fnConfDiffSpec)) fnConfDiffUptoCard

/-- THE SECOND FORM's CARD OF 'laws.FnConfMay'. -/
def fnConfMayUptoCard : Claim7 := { stood := { row := fnConfMayUptoRow, standIns := [], harness := (true, "87bc95dfcaa8e9e218968918e478f37ec198287aa455e5fd6dbb275fe80df2ee"), looks := true }, kinds := [], alts := [], laidByText := true, laidKinds := [.data, .data, .data, .data, .sentinel, .sentinel, .pinned], laidTests := true, laidLooks := .later }
def FnConfMayUptoCardSaid : Prop := Claim7.holds Tryz.pinned (.plain (OpenSpec.upto fnConfMaySpec)) fnConfMayUptoCard
end Rows
end Go.Proofs.YtabmhncnckahfaaGreatDoor
