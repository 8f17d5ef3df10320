/-
  No cell of these rows narrows 'for every input' (looked for: loops, veiled, ifaces, maps, wideKeys, modest, calm, conditions, laid).
  DERIVED. THE GIVEN ROWS OF THIS SEAT. 3 by the template 'for every input the law returns true; each argument reads behind the call as it read before'; 0 by the template 'total and deterministic' (their statements: YtjobanclhkjniaaTotals.lean).
  GIVEN WITH THE SEED: the statements are not yours to turn. If you find one false, say at which input.
  Laid BY PROGRAM, IN A SANDBOX (cutbox-rows.mjs): the forced cells as the released guide's own fill.sh prints them over the translation 5f66d86012ebca15… (all of the seat's roots in one cut). By AI agents, Wed Nov 11 2026. No macro, syntax, notation, axiom, sorry.
-/
import Derived.Test.YtjobanclhkjniaaChecked
import GoSem.Claim
import GoSem.ClaimJoined
import GoSem.ClaimMapViews
import Derived.JoinedTies
import Derived.KernelRfl
namespace Go.Proofs.Ytjobanclhkjniaa
/- THE CELL 'sum', in the pinned program and in every row, IS THE sha256 OF THE DUMP (.gsa) THAT YtjobanclhkjniaaProg.lean LOADS. Nothing in Lean hashes anything: it is a label: what it is worth is what the hold of that sum in a sandbox is worth. -/
noncomputable def Try.pinned : Pinned := { name := "ytjobanclhkjniaa", sum := "5f66d86012ebca152fc4eb9759836e644cde01b2714ac96b2c92e5cee16f49ae", checked := Try.checked }
namespace Rows
def none {H : Type} : Left H := { results := [], args := [] }

/-- 'laws.FnExactTreeVectorOk': WHATEVER THE INPUT: true; the input reads as it did. -/
def fnExactTreeVectorOkSpec : ChangeSpec := { name := "fnExactTreeVectorOk", fn := fun _ => fun
  | [d] => { results := [.lit (.bool true)], args := [d] }
  | _ => none }
def fnExactTreeVectorOkRow : OpenClaim := { program := "ytjobanclhkjniaa", sum := "5f66d86012ebca152fc4eb9759836e644cde01b2714ac96b2c92e5cee16f49ae", func := "loop.example/tern/laws.FnExactTreeVectorOk", spec := "fnExactTreeVectorOk", apart := false }
def FnExactTreeVectorOkSaid : Prop := fnExactTreeVectorOkRow.holds Try.pinned (OpenSpec.ofChange fnExactTreeVectorOkSpec)

/-- ITS FALSE NEIGHBOUR: 'it returns false'. Refute it at one input. -/
def fnExactTreeVectorOkWrong : ChangeSpec := { name := "fnExactTreeVectorOk", fn := fun _ => fun
  | [d] => { results := [.lit (.bool false)], args := [d] }
  | _ => none }
def FnExactTreeVectorOkWrongFalsely : Prop := fnExactTreeVectorOkRow.holds Try.pinned (OpenSpec.ofChange fnExactTreeVectorOkWrong)

/-- 'laws.FnExactTernFlow': WHATEVER THE INPUT: true; the input reads as it did. -/
def fnExactTernFlowSpec : ChangeSpec := { name := "fnExactTernFlow", fn := fun _ => fun
  | [d] => { results := [.lit (.bool true)], args := [d] }
  | _ => none }
def fnExactTernFlowRow : OpenClaim := { program := "ytjobanclhkjniaa", sum := "5f66d86012ebca152fc4eb9759836e644cde01b2714ac96b2c92e5cee16f49ae", func := "loop.example/tern/laws.FnExactTernFlow", spec := "fnExactTernFlow", apart := false }
def FnExactTernFlowSaid : Prop := fnExactTernFlowRow.holds Try.pinned (OpenSpec.ofChange fnExactTernFlowSpec)

/-- ITS FALSE NEIGHBOUR: 'it returns false'. Refute it at one input. -/
def fnExactTernFlowWrong : ChangeSpec := { name := "fnExactTernFlow", fn := fun _ => fun
  | [d] => { results := [.lit (.bool false)], args := [d] }
  | _ => none }
def FnExactTernFlowWrongFalsely : Prop := fnExactTernFlowRow.holds Try.pinned (OpenSpec.ofChange fnExactTernFlowWrong)

/-- 'laws.FnExactLabOpen': WHATEVER THE INPUT: true; the input reads as it did. -/
def fnExactLabOpenSpec : ChangeSpec := { name := "fnExactLabOpen", fn := fun _ => fun
  | [d1, d2] => { results := [.lit (.bool true)], args := [d1, d2] }
  | _ => none }
def fnExactLabOpenRow : OpenClaim := { program := "ytjobanclhkjniaa", sum := "5f66d86012ebca152fc4eb9759836e644cde01b2714ac96b2c92e5cee16f49ae", func := "loop.example/tern/laws.FnExactLabOpen", spec := "fnExactLabOpen", apart := false }
def FnExactLabOpenSaid : Prop := fnExactLabOpenRow.holds Try.pinned (OpenSpec.ofChange fnExactLabOpenSpec)

/-- ITS FALSE NEIGHBOUR: 'it returns false'. Refute it at one input. -/
def fnExactLabOpenWrong : ChangeSpec := { name := "fnExactLabOpen", fn := fun _ => fun
  | [d1, d2] => { results := [.lit (.bool false)], args := [d1, d2] }
  | _ => none }
def FnExactLabOpenWrongFalsely : Prop := fnExactLabOpenRow.holds Try.pinned (OpenSpec.ofChange fnExactLabOpenWrong)

/- THE SECOND FORM. 'bulk': how many values and letters a reading holds, each counted each time it is reached (what is shared counts as often as it is met; a slice's spare places count too). A statement '..UptoSaid' is the law's where the arguments, and the package variables that the reading takes, are together of bulk at most 1048576: NARROWER than '..Said'. Prove '..Said' where nothing that the law and all that it calls make is longer than what came in: it says more and counts as full. Else prove '..UptoSaid'. A law counts once. -/
mutual
def uptoBulk {H : Type} : DataW H → Nat
  | .lit (.string bytes) => bytes.length + 1
  | .lit _ => 1
  | .nil => 1
  | .ptr d => uptoBulk d + 1
  | .slice elems spare => uptoBulkAll elems + uptoBulkAll spare + 1
  | .agg parts => uptoBulkAll parts + 1
  | .iface _ d => uptoBulk d + 1
  | .map entries => uptoBulkEntries entries + 1
  | .held _ => 1
def uptoBulkAll {H : Type} : List (DataW H) → Nat
  | [] => 0
  | d :: r => uptoBulk d + uptoBulkAll r
def uptoBulkEntries {H : Type} : List (Lit × DataW H) → Nat
  | [] => 0
  | x :: r => uptoBulkEntry x + uptoBulkEntries r
def uptoBulkEntry {H : Type} : Lit × DataW H → Nat
  | (.string bytes, d) => bytes.length + uptoBulk d + 1
  | (_, d) => uptoBulk d + 1
 end
def uptoSmall : (H : Type) → List (DataW H) → Bool := fun _ ds => decide (uptoBulkAll ds ≤ 1048576)
def OpenSpec.upto (s : _root_.Go.ChangeSpec) : _root_.Go.OpenSpec := { _root_.Go.OpenSpec.ofChange s with cond := some uptoSmall }

/-- 'laws.FnExactTreeVectorOk', WHERE WHAT IT READS IS OF BULK AT MOST 1048576: true; the input reads as it did. -/
def fnExactTreeVectorOkUptoRow : OpenClaim := { program := "ytjobanclhkjniaa", sum := "5f66d86012ebca152fc4eb9759836e644cde01b2714ac96b2c92e5cee16f49ae", func := "loop.example/tern/laws.FnExactTreeVectorOk", spec := "fnExactTreeVectorOk", apart := false, narrowed := true }
def FnExactTreeVectorOkUptoSaid : Prop := fnExactTreeVectorOkUptoRow.holds Try.pinned (OpenSpec.upto fnExactTreeVectorOkSpec)

/-- 'laws.FnExactTernFlow', WHERE WHAT IT READS IS OF BULK AT MOST 1048576: true; the input reads as it did. -/
def fnExactTernFlowUptoRow : OpenClaim := { program := "ytjobanclhkjniaa", sum := "5f66d86012ebca152fc4eb9759836e644cde01b2714ac96b2c92e5cee16f49ae", func := "loop.example/tern/laws.FnExactTernFlow", spec := "fnExactTernFlow", apart := false, narrowed := true }
def FnExactTernFlowUptoSaid : Prop := fnExactTernFlowUptoRow.holds Try.pinned (OpenSpec.upto fnExactTernFlowSpec)

/-- 'laws.FnExactLabOpen', WHERE WHAT IT READS IS OF BULK AT MOST 1048576: true; the input reads as it did. -/
def fnExactLabOpenUptoRow : OpenClaim := { program := "ytjobanclhkjniaa", sum := "5f66d86012ebca152fc4eb9759836e644cde01b2714ac96b2c92e5cee16f49ae", func := "loop.example/tern/laws.FnExactLabOpen", spec := "fnExactLabOpen", apart := false, narrowed := true }
def FnExactLabOpenUptoSaid : Prop := fnExactLabOpenUptoRow.holds Try.pinned (OpenSpec.upto fnExactLabOpenSpec)

end Rows
end Go.Proofs.Ytjobanclhkjniaa
