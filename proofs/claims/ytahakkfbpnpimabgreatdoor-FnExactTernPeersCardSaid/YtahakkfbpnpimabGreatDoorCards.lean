/-
  DERIVED. GIVEN WITH THE SEED: THE CARDS: each row of YtahakkfbpnpimabGreatDoorRows.lean that lists a variable, with what it lists TIED to the program's text (the seventh form; the later family's looks); each row that meets fmt, with fmt's text TOLD by the authors' own Lean function (tested against real Go, not proved from fmt's source: count such statements apart). THE CARD IS WHAT COUNTS. Prove the row's statement (the work); the ties are given (YtahakkfbpnpimabGreatDoorTie.lean); close each card by the builder's one call (the guide's Derived/Test/ToyasCard.lean, 'card_holds'). Laid BY PROGRAM, IN A SANDBOX (cutbox-door.mjs). By AI agents, Wed Nov 11 2026. No macro, syntax, notation, axiom, sorry.
-/
import Derived.Test.YtahakkfbpnpimabGreatDoorRows
import GoSem.ClaimSeven
namespace Go.Proofs.YtahakkfbpnpimabGreatDoor
namespace Rows

/-- THE TIED CARD OF 'laws.FnExactTernPeers'. -/
def fnExactTernPeersCard : Claim7 := { stood := { row := fnExactTernPeersRow, standIns := [], harness := (true, "a13407aeff80b9170c39225cde0b324fa9326d037bf6cab045b766428baef7f1"), looks := true }, kinds := [], alts := [], laidByText := true, laidKinds := [.data, .data, .data, .data, .sentinel, .sentinel, .pinned], laidTests := true, laidLooks := .later }
def FnExactTernPeersCardSaid : Prop := Claim7.holds Tryz.pinned (.plain (OpenSpec.ofChange fnExactTernPeersSpec)) fnExactTernPeersCard

/-- THE SECOND FORM's CARD OF 'laws.FnExactTernPeers'. -/
def fnExactTernPeersUptoCard : Claim7 := { stood := { row := fnExactTernPeersUptoRow, standIns := [], harness := (true, "a13407aeff80b9170c39225cde0b324fa9326d037bf6cab045b766428baef7f1"), looks := true }, kinds := [], alts := [], laidByText := true, laidKinds := [.data, .data, .data, .data, .sentinel, .sentinel, .pinned], laidTests := true, laidLooks := .later }
def FnExactTernPeersUptoCardSaid : Prop := Claim7.holds Tryz.pinned (.plain (OpenSpec.upto fnExactTernPeersSpec)) fnExactTernPeersUptoCard
end Rows
end Go.Proofs.YtahakkfbpnpimabGreatDoor
