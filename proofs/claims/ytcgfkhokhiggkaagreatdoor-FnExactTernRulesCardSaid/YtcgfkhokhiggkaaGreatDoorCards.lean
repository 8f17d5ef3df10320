/-
  DERIVED. GIVEN WITH THE SEED: THE CARDS: each row of YtcgfkhokhiggkaaGreatDoorRows.lean that lists a variable, with what it lists TIED to the program's text (the seventh form; the later family's looks); each row that meets fmt, with fmt's text TOLD by the authors' own Lean function (tested against real Go, not proved from fmt's source: count such statements apart). THE CARD IS WHAT COUNTS. Prove the row's statement (the work); the ties are given (YtcgfkhokhiggkaaGreatDoorTie.lean); close each card by the builder's one call (the guide's Derived/Test/ToyasCard.lean, 'card_holds'). Laid BY PROGRAM, IN A SANDBOX (cutbox-door.mjs). By AI agents, Wed Nov 11 2026. No macro, syntax, notation, axiom, sorry.
-/
import Derived.Test.YtcgfkhokhiggkaaGreatDoorRows
import GoSem.ClaimSeven
namespace Go.Proofs.YtcgfkhokhiggkaaGreatDoor
namespace Rows

/-- THE TIED CARD OF 'laws.FnExactTernTells'. -/
def fnExactTernTellsCard : Claim7 := { stood := { row := fnExactTernTellsRow, standIns := [], harness := (true, "481831f645b998e5d714be1e32988d364b016d7c628d868fe59e5a50934a6bc7"), looks := true }, kinds := [], alts := [], laidByText := true, laidKinds := [.data, .data, .data, .data, .sentinel, .sentinel, .pinned], laidTests := true, laidLooks := .later }
def FnExactTernTellsCardSaid : Prop := Claim7.holds Tryz.pinned (.plain (OpenSpec.ofChange fnExactTernTellsSpec)) fnExactTernTellsCard

/-- THE TIED CARD OF 'laws.FnExactTernNat'. -/
def fnExactTernNatCard : Claim7 := { stood := { row := fnExactTernNatRow, standIns := [], harness := (true, "481831f645b998e5d714be1e32988d364b016d7c628d868fe59e5a50934a6bc7"), looks := true }, kinds := [], alts := [], laidByText := true, laidKinds := [.data, .data, .data, .data, .sentinel, .sentinel, .pinned], laidTests := true, laidLooks := .later }
def FnExactTernNatCardSaid : Prop := Claim7.holds Tryz.pinned (.plain (OpenSpec.ofChange fnExactTernNatSpec)) fnExactTernNatCard

/-- THE TIED CARD OF 'laws.FnExactTernVias'. -/
def fnExactTernViasCard : Claim7 := { stood := { row := fnExactTernViasRow, standIns := [], harness := (true, "481831f645b998e5d714be1e32988d364b016d7c628d868fe59e5a50934a6bc7"), looks := true }, kinds := [], alts := [], laidByText := true, laidKinds := [.data, .data, .data, .data, .sentinel, .sentinel, .pinned], laidTests := true, laidLooks := .later }
def FnExactTernViasCardSaid : Prop := Claim7.holds Tryz.pinned (.plain (OpenSpec.ofChange fnExactTernViasSpec)) fnExactTernViasCard

/-- THE TIED CARD OF 'laws.FnExactTernRules'. -/
def fnExactTernRulesCard : Claim7 := { stood := { row := fnExactTernRulesRow, standIns := [], harness := (true, "481831f645b998e5d714be1e32988d364b016d7c628d868fe59e5a50934a6bc7"), looks := true }, kinds := [], alts := [], laidByText := true, laidKinds := [.data, .data, .data, .data, .sentinel, .sentinel, .pinned], laidTests := true, laidLooks := .later }
def FnExactTernRulesCardSaid : Prop := Claim7.holds Tryz.pinned (.plain (OpenSpec.ofChange fnExactTernRulesSpec)) fnExactTernRulesCard

/-- THE SECOND FORM's CARD OF 'laws.FnExactTernTells'. -/
def fnExactTernTellsUptoCard : Claim7 := { stood := { row := fnExactTernTellsUptoRow, standIns := [], harness := (true, "481831f645b998e5d714be1e32988d364b016d7c628d868fe59e5a50934a6bc7"), looks := true }, kinds := [], alts := [], laidByText := true, laidKinds := [.data, .data, .data, .data, .sentinel, .sentinel, .pinned], laidTests := true, laidLooks := .later }
def FnExactTernTellsUptoCardSaid : Prop := Claim7.holds Tryz.pinned (.plain (OpenSpec.upto fnExactTernTellsSpec)) fnExactTernTellsUptoCard

/-- THE SECOND FORM's CARD OF 'laws.FnExactTernNat'. -/
def fnExactTernNatUptoCard : Claim7 := { stood := { row := fnExactTernNatUptoRow, standIns := [], harness := (true, "481831f645b998e5d714be1e32988d364b016d7c628d868fe59e5a50934a6bc7"), looks := true }, kinds := [], alts := [], laidByText := true, laidKinds := [.data, .data, .data, .data, .sentinel, .sentinel, .pinned], laidTests := true, laidLooks := .later }
def FnExactTernNatUptoCardSaid : Prop := Claim7.holds Tryz.pinned (.plain (OpenSpec.upto fnExactTernNatSpec)) fnExactTernNatUptoCard

/-- THE SECOND FORM's CARD OF 'laws.FnExactTernVias'. -/
def fnExactTernViasUptoCard : Claim7 := { stood := { row := fnExactTernViasUptoRow, standIns := [], harness := (true, "481831f645b998e5d714be1e32988d364b016d7c628d868fe59e5a50934a6bc7"), looks := true }, kinds := [], alts := [], laidByText := true, laidKinds := [.data, .data, .data, .data, .sentinel, .sentinel, .pinned], laidTests := true, laidLooks := .later }
def FnExactTernViasUptoCardSaid : Prop := Claim7.holds Tryz.pinned (.plain (OpenSpec.upto fnExactTernViasSpec)) fnExactTernViasUptoCard

/-- THE SECOND FORM's CARD OF 'laws.FnExactTernRules'. -/
def fnExactTernRulesUptoCard : Claim7 := { stood := { row := fnExactTernRulesUptoRow, standIns := [], harness := (true, "481831f645b998e5d714be1e32988d364b016d7c628d868fe59e5a50934a6bc7"), looks := true }, kinds := [], alts := [], laidByText := true, laidKinds := [.data, .data, .data, .data, .sentinel, .sentinel, .pinned], laidTests := true, laidLooks := .later }
def FnExactTernRulesUptoCardSaid : Prop := Claim7.holds Tryz.pinned (.plain (OpenSpec.upto fnExactTernRulesSpec)) fnExactTernRulesUptoCard
end Rows
end Go.Proofs.YtcgfkhokhiggkaaGreatDoor
