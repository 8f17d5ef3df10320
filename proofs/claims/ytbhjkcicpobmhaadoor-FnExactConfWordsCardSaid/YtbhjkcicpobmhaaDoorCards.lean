/-
  DERIVED. GIVEN WITH THE SEED: THE CARDS: each row of YtbhjkcicpobmhaaDoorRows.lean that lists a variable, with what it lists TIED to the program's text (the seventh form; the later family's looks); each row that meets fmt, with fmt's text TOLD by the authors' own Lean function (tested against real Go, not proved from fmt's source: count such statements apart). THE CARD IS WHAT COUNTS. Prove the row's statement (the work); the ties are given (YtbhjkcicpobmhaaDoorTie.lean); close each card by the builder's one call (the guide's Derived/Test/ToyasCard.lean, 'card_holds'). Laid BY PROGRAM, IN A SANDBOX (cutbox-door.mjs). By AI agents, Wed Nov 11 2026. No macro, syntax, notation, axiom, sorry.
-/
import Derived.Test.YtbhjkcicpobmhaaDoorRows
import GoSem.ClaimSeven
namespace Go.Proofs.YtbhjkcicpobmhaaDoor
namespace Rows

/-- THE TIED CARD OF 'laws.FnExactConfWords'. -/
def fnExactConfWordsCard : Claim7 := { stood := { row := fnExactConfWordsRow, standIns := [], harness := (true, "61b3cd4906165ba346a990b7fbb72db98b21e5c6b0cd979eadca2e8773853641"), looks := false }, kinds := [], alts := [], laidByText := true, laidKinds := [.data, .pinned], laidTests := true, laidLooks := .later }
def FnExactConfWordsCardSaid : Prop := Claim7.holds Tryd.pinned (.plain (OpenSpec.ofChange fnExactConfWordsSpec)) fnExactConfWordsCard

/-- THE SECOND FORM's CARD OF 'laws.FnExactConfWords'. -/
def fnExactConfWordsUptoCard : Claim7 := { stood := { row := fnExactConfWordsUptoRow, standIns := [], harness := (true, "61b3cd4906165ba346a990b7fbb72db98b21e5c6b0cd979eadca2e8773853641"), looks := false }, kinds := [], alts := [], laidByText := true, laidKinds := [.data, .pinned], laidTests := true, laidLooks := .later }
def FnExactConfWordsUptoCardSaid : Prop := Claim7.holds Tryd.pinned (.plain (OpenSpec.upto fnExactConfWordsSpec)) fnExactConfWordsUptoCard
end Rows
end Go.Proofs.YtbhjkcicpobmhaaDoor
