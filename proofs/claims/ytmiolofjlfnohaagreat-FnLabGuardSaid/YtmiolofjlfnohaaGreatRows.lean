/-
  No cell of these rows narrows 'for every input' (looked for: loops, veiled, ifaces, maps, wideKeys, modest, calm, conditions, laid).
  DERIVED. THE GIVEN ROWS OF THIS SEAT. 3 by the template 'for every input the law returns true; each argument reads behind the call as it read before'; 0 by the template 'total and deterministic' (their statements: YtmiolofjlfnohaaGreatTotals.lean).
  GIVEN WITH THE SEED: the statements are not yours to turn. If you find one false, say at which input.
  Laid BY PROGRAM, IN A SANDBOX (cutbox-rows.mjs): the forced cells as the released guide's own fill.sh prints them over the translation 20b39c342282926f… (all of the seat's roots in one cut). By AI agents, Wed Nov 11 2026. No macro, syntax, notation, axiom, sorry.
-/
import Derived.Test.YtmiolofjlfnohaaGreatChecked
import GoSem.Claim
import GoSem.ClaimJoined
import GoSem.ClaimMapViews
import Derived.JoinedTies
import Derived.KernelRfl
namespace Go.Proofs.YtmiolofjlfnohaaGreat
/- THE CELL 'sum', in the pinned program and in every row, IS THE sha256 OF THE DUMP (.gsa) THAT YtmiolofjlfnohaaGreatProg.lean LOADS. Nothing in Lean hashes anything: it is a label: what it is worth is what the hold of that sum in a sandbox is worth. -/
noncomputable def Tryz.pinned : Pinned := { name := "ytmiolofjlfnohaagreat", sum := "20b39c342282926fc93f47b3ff36963dcfea55221ac2c6515887d064b9612523", checked := Tryz.checked }
namespace Rows
def none {H : Type} : Left H := { results := [], args := [] }

/-- 'laws.FnLabOrder': WHATEVER THE INPUT: true; the input reads as it did. -/
def fnLabOrderSpec : ChangeSpec := { name := "fnLabOrder", fn := fun _ => fun
  | [d] => { results := [.lit (.bool true)], args := [d] }
  | _ => none }
def fnLabOrderRow : OpenClaim := { program := "ytmiolofjlfnohaagreat", sum := "20b39c342282926fc93f47b3ff36963dcfea55221ac2c6515887d064b9612523", func := "loop.example/tern/laws.FnLabOrder", spec := "fnLabOrder", unfollowed := true, recurses := true, apart := false }
def FnLabOrderSaid : Prop := fnLabOrderRow.holds Tryz.pinned (OpenSpec.ofChange fnLabOrderSpec)

/-- ITS FALSE NEIGHBOUR: 'it returns false'. Refute it at one input. -/
def fnLabOrderWrong : ChangeSpec := { name := "fnLabOrder", fn := fun _ => fun
  | [d] => { results := [.lit (.bool false)], args := [d] }
  | _ => none }
def FnLabOrderWrongFalsely : Prop := fnLabOrderRow.holds Tryz.pinned (OpenSpec.ofChange fnLabOrderWrong)

/-- 'laws.FnLabTop': WHATEVER THE INPUT: true; the input reads as it did. -/
def fnLabTopSpec : ChangeSpec := { name := "fnLabTop", fn := fun _ => fun
  | [d] => { results := [.lit (.bool true)], args := [d] }
  | _ => none }
def fnLabTopRow : OpenClaim := { program := "ytmiolofjlfnohaagreat", sum := "20b39c342282926fc93f47b3ff36963dcfea55221ac2c6515887d064b9612523", func := "loop.example/tern/laws.FnLabTop", spec := "fnLabTop", unfollowed := true, recurses := true, apart := false }
def FnLabTopSaid : Prop := fnLabTopRow.holds Tryz.pinned (OpenSpec.ofChange fnLabTopSpec)

/-- ITS FALSE NEIGHBOUR: 'it returns false'. Refute it at one input. -/
def fnLabTopWrong : ChangeSpec := { name := "fnLabTop", fn := fun _ => fun
  | [d] => { results := [.lit (.bool false)], args := [d] }
  | _ => none }
def FnLabTopWrongFalsely : Prop := fnLabTopRow.holds Tryz.pinned (OpenSpec.ofChange fnLabTopWrong)

/-- 'laws.FnLabGuard': WHATEVER THE INPUT: true; the input reads as it did. -/
def fnLabGuardSpec : ChangeSpec := { name := "fnLabGuard", fn := fun _ => fun
  | [d] => { results := [.lit (.bool true)], args := [d] }
  | _ => none }
def fnLabGuardRow : OpenClaim := { program := "ytmiolofjlfnohaagreat", sum := "20b39c342282926fc93f47b3ff36963dcfea55221ac2c6515887d064b9612523", func := "loop.example/tern/laws.FnLabGuard", spec := "fnLabGuard", unfollowed := true, recurses := true, apart := false }
def FnLabGuardSaid : Prop := fnLabGuardRow.holds Tryz.pinned (OpenSpec.ofChange fnLabGuardSpec)

/-- ITS FALSE NEIGHBOUR: 'it returns false'. Refute it at one input. -/
def fnLabGuardWrong : ChangeSpec := { name := "fnLabGuard", fn := fun _ => fun
  | [d] => { results := [.lit (.bool false)], args := [d] }
  | _ => none }
def FnLabGuardWrongFalsely : Prop := fnLabGuardRow.holds Tryz.pinned (OpenSpec.ofChange fnLabGuardWrong)

/- THE SECOND FORM. 'bulk': how many values and letters a reading holds, each counted each time it is reached (what is shared counts as often as it is met; a slice's spare places count too). A statement '..UptoSaid' is the law's where the arguments, and the package variables that the reading takes, are together of bulk at most 1048576: NARROWER than '..Said'. Prove '..Said' where nothing that the law and all that it calls make is longer than what came in: it says more and counts as full. Else prove '..UptoSaid'. A law counts once. -/
mutual
def uptoBulk {H : Type} : DataW H → Nat
  | .lit (.string bytes) => bytes.length + 1
  | .lit _ => 1
  | .nil => 1
  | .ptr d => uptoBulk d + 1
  | .slice elems spare => uptoBulkAll elems + uptoBulkAll spare + 1
  | .agg parts => uptoBulkAll parts + 1
  | .iface _ d => uptoBulk d + 1
  | .map entries => uptoBulkEntries entries + 1
  | .held _ => 1
def uptoBulkAll {H : Type} : List (DataW H) → Nat
  | [] => 0
  | d :: r => uptoBulk d + uptoBulkAll r
def uptoBulkEntries {H : Type} : List (Lit × DataW H) → Nat
  | [] => 0
  | x :: r => uptoBulkEntry x + uptoBulkEntries r
def uptoBulkEntry {H : Type} : Lit × DataW H → Nat
  | (.string bytes, d) => bytes.length + uptoBulk d + 1
  | (_, d) => uptoBulk d + 1
 end
def uptoSmall : (H : Type) → List (DataW H) → Bool := fun _ ds => decide (uptoBulkAll ds ≤ 1048576)
def OpenSpec.upto (s : _root_.Go.ChangeSpec) : _root_.Go.OpenSpec := { _root_.Go.OpenSpec.ofChange s with cond := some uptoSmall }

/-- 'laws.FnLabOrder', WHERE WHAT IT READS IS OF BULK AT MOST 1048576: true; the input reads as it did. -/
def fnLabOrderUptoRow : OpenClaim := { program := "ytmiolofjlfnohaagreat", sum := "20b39c342282926fc93f47b3ff36963dcfea55221ac2c6515887d064b9612523", func := "loop.example/tern/laws.FnLabOrder", spec := "fnLabOrder", unfollowed := true, recurses := true, apart := false, narrowed := true }
def FnLabOrderUptoSaid : Prop := fnLabOrderUptoRow.holds Tryz.pinned (OpenSpec.upto fnLabOrderSpec)

/-- 'laws.FnLabTop', WHERE WHAT IT READS IS OF BULK AT MOST 1048576: true; the input reads as it did. -/
def fnLabTopUptoRow : OpenClaim := { program := "ytmiolofjlfnohaagreat", sum := "20b39c342282926fc93f47b3ff36963dcfea55221ac2c6515887d064b9612523", func := "loop.example/tern/laws.FnLabTop", spec := "fnLabTop", unfollowed := true, recurses := true, apart := false, narrowed := true }
def FnLabTopUptoSaid : Prop := fnLabTopUptoRow.holds Tryz.pinned (OpenSpec.upto fnLabTopSpec)

/-- 'laws.FnLabGuard', WHERE WHAT IT READS IS OF BULK AT MOST 1048576: true; the input reads as it did. -/
def fnLabGuardUptoRow : OpenClaim := { program := "ytmiolofjlfnohaagreat", sum := "20b39c342282926fc93f47b3ff36963dcfea55221ac2c6515887d064b9612523", func := "loop.example/tern/laws.FnLabGuard", spec := "fnLabGuard", unfollowed := true, recurses := true, apart := false, narrowed := true }
def FnLabGuardUptoSaid : Prop := fnLabGuardUptoRow.holds Tryz.pinned (OpenSpec.upto fnLabGuardSpec)

end Rows
end Go.Proofs.YtmiolofjlfnohaaGreat
