/-
  No cell of these rows narrows 'for every input' (looked for: loops, veiled, ifaces, maps, wideKeys, modest, calm, conditions, laid).
  DERIVED. THE GIVEN ROWS OF THIS SEAT. 6 by the template 'for every input the law returns true; each argument reads behind the call as it read before'; 0 by the template 'total and deterministic' (their statements: YtmiolofjlfnohaaTotals.lean).
  GIVEN WITH THE SEED: the statements are not yours to turn. If you find one false, say at which input.
  Laid BY PROGRAM, IN A SANDBOX (cutbox-rows.mjs): the forced cells as the released guide's own fill.sh prints them over the translation fa327964900ac095… (all of the seat's roots in one cut). By AI agents, Wed Nov 11 2026. No macro, syntax, notation, axiom, sorry.
-/
import Derived.Test.YtmiolofjlfnohaaChecked
import GoSem.Claim
import GoSem.ClaimJoined
import GoSem.ClaimMapViews
import Derived.JoinedTies
import Derived.KernelRfl
namespace Go.Proofs.Ytmiolofjlfnohaa
/- THE CELL 'sum', in the pinned program and in every row, IS THE sha256 OF THE DUMP (.gsa) THAT YtmiolofjlfnohaaProg.lean LOADS. Nothing in Lean hashes anything: it is a label: what it is worth is what the hold of that sum in a sandbox is worth. -/
noncomputable def Try.pinned : Pinned := { name := "ytmiolofjlfnohaa", sum := "fa327964900ac095803bc56e00e039684e8840e269b4b8a3f7f99188306ae301", checked := Try.checked }
namespace Rows
def none {H : Type} : Left H := { results := [], args := [] }

/-- 'laws.FnLabWay': WHATEVER THE INPUT: true; the input reads as it did. -/
def fnLabWaySpec : ChangeSpec := { name := "fnLabWay", fn := fun _ => fun
  | [d] => { results := [.lit (.bool true)], args := [d] }
  | _ => none }
def fnLabWayRow : OpenClaim := { program := "ytmiolofjlfnohaa", sum := "fa327964900ac095803bc56e00e039684e8840e269b4b8a3f7f99188306ae301", func := "loop.example/tern/laws.FnLabWay", spec := "fnLabWay", apart := false }
def FnLabWaySaid : Prop := fnLabWayRow.holds Try.pinned (OpenSpec.ofChange fnLabWaySpec)

/-- ITS FALSE NEIGHBOUR: 'it returns false'. Refute it at one input. -/
def fnLabWayWrong : ChangeSpec := { name := "fnLabWay", fn := fun _ => fun
  | [d] => { results := [.lit (.bool false)], args := [d] }
  | _ => none }
def FnLabWayWrongFalsely : Prop := fnLabWayRow.holds Try.pinned (OpenSpec.ofChange fnLabWayWrong)

/-- 'laws.FnLabNever': WHATEVER THE INPUT: true; the input reads as it did. -/
def fnLabNeverSpec : ChangeSpec := { name := "fnLabNever", fn := fun _ => fun
  | [d] => { results := [.lit (.bool true)], args := [d] }
  | _ => none }
def fnLabNeverRow : OpenClaim := { program := "ytmiolofjlfnohaa", sum := "fa327964900ac095803bc56e00e039684e8840e269b4b8a3f7f99188306ae301", func := "loop.example/tern/laws.FnLabNever", spec := "fnLabNever", unfollowed := true, recurses := true, apart := false }
def FnLabNeverSaid : Prop := fnLabNeverRow.holds Try.pinned (OpenSpec.ofChange fnLabNeverSpec)

/-- ITS FALSE NEIGHBOUR: 'it returns false'. Refute it at one input. -/
def fnLabNeverWrong : ChangeSpec := { name := "fnLabNever", fn := fun _ => fun
  | [d] => { results := [.lit (.bool false)], args := [d] }
  | _ => none }
def FnLabNeverWrongFalsely : Prop := fnLabNeverRow.holds Try.pinned (OpenSpec.ofChange fnLabNeverWrong)

/-- 'laws.FnLabTear': WHATEVER THE INPUT: true; the input reads as it did. -/
def fnLabTearSpec : ChangeSpec := { name := "fnLabTear", fn := fun _ => fun
  | [d] => { results := [.lit (.bool true)], args := [d] }
  | _ => none }
def fnLabTearRow : OpenClaim := { program := "ytmiolofjlfnohaa", sum := "fa327964900ac095803bc56e00e039684e8840e269b4b8a3f7f99188306ae301", func := "loop.example/tern/laws.FnLabTear", spec := "fnLabTear", unfollowed := true, recurses := true, apart := false }
def FnLabTearSaid : Prop := fnLabTearRow.holds Try.pinned (OpenSpec.ofChange fnLabTearSpec)

/-- ITS FALSE NEIGHBOUR: 'it returns false'. Refute it at one input. -/
def fnLabTearWrong : ChangeSpec := { name := "fnLabTear", fn := fun _ => fun
  | [d] => { results := [.lit (.bool false)], args := [d] }
  | _ => none }
def FnLabTearWrongFalsely : Prop := fnLabTearRow.holds Try.pinned (OpenSpec.ofChange fnLabTearWrong)

/-- 'laws.FnLabStep': WHATEVER THE INPUT: true; the input reads as it did. -/
def fnLabStepSpec : ChangeSpec := { name := "fnLabStep", fn := fun _ => fun
  | [d] => { results := [.lit (.bool true)], args := [d] }
  | _ => none }
def fnLabStepRow : OpenClaim := { program := "ytmiolofjlfnohaa", sum := "fa327964900ac095803bc56e00e039684e8840e269b4b8a3f7f99188306ae301", func := "loop.example/tern/laws.FnLabStep", spec := "fnLabStep", unfollowed := true, recurses := true, apart := false }
def FnLabStepSaid : Prop := fnLabStepRow.holds Try.pinned (OpenSpec.ofChange fnLabStepSpec)

/-- ITS FALSE NEIGHBOUR: 'it returns false'. Refute it at one input. -/
def fnLabStepWrong : ChangeSpec := { name := "fnLabStep", fn := fun _ => fun
  | [d] => { results := [.lit (.bool false)], args := [d] }
  | _ => none }
def FnLabStepWrongFalsely : Prop := fnLabStepRow.holds Try.pinned (OpenSpec.ofChange fnLabStepWrong)

/-- 'laws.FnLabInner': WHATEVER THE INPUT: true; the input reads as it did. -/
def fnLabInnerSpec : ChangeSpec := { name := "fnLabInner", fn := fun _ => fun
  | [d] => { results := [.lit (.bool true)], args := [d] }
  | _ => none }
def fnLabInnerRow : OpenClaim := { program := "ytmiolofjlfnohaa", sum := "fa327964900ac095803bc56e00e039684e8840e269b4b8a3f7f99188306ae301", func := "loop.example/tern/laws.FnLabInner", spec := "fnLabInner", unfollowed := true, recurses := true, apart := false }
def FnLabInnerSaid : Prop := fnLabInnerRow.holds Try.pinned (OpenSpec.ofChange fnLabInnerSpec)

/-- ITS FALSE NEIGHBOUR: 'it returns false'. Refute it at one input. -/
def fnLabInnerWrong : ChangeSpec := { name := "fnLabInner", fn := fun _ => fun
  | [d] => { results := [.lit (.bool false)], args := [d] }
  | _ => none }
def FnLabInnerWrongFalsely : Prop := fnLabInnerRow.holds Try.pinned (OpenSpec.ofChange fnLabInnerWrong)

/-- 'laws.FnLabLay': WHATEVER THE INPUT: true; the input reads as it did. -/
def fnLabLaySpec : ChangeSpec := { name := "fnLabLay", fn := fun _ => fun
  | [d] => { results := [.lit (.bool true)], args := [d] }
  | _ => none }
def fnLabLayRow : OpenClaim := { program := "ytmiolofjlfnohaa", sum := "fa327964900ac095803bc56e00e039684e8840e269b4b8a3f7f99188306ae301", func := "loop.example/tern/laws.FnLabLay", spec := "fnLabLay", unfollowed := true, recurses := true, apart := false }
def FnLabLaySaid : Prop := fnLabLayRow.holds Try.pinned (OpenSpec.ofChange fnLabLaySpec)

/-- ITS FALSE NEIGHBOUR: 'it returns false'. Refute it at one input. -/
def fnLabLayWrong : ChangeSpec := { name := "fnLabLay", fn := fun _ => fun
  | [d] => { results := [.lit (.bool false)], args := [d] }
  | _ => none }
def FnLabLayWrongFalsely : Prop := fnLabLayRow.holds Try.pinned (OpenSpec.ofChange fnLabLayWrong)

/- THE SECOND FORM. 'bulk': how many values and letters a reading holds, each counted each time it is reached (what is shared counts as often as it is met; a slice's spare places count too). A statement '..UptoSaid' is the law's where the arguments, and the package variables that the reading takes, are together of bulk at most 1048576: NARROWER than '..Said'. Prove '..Said' where nothing that the law and all that it calls make is longer than what came in: it says more and counts as full. Else prove '..UptoSaid'. A law counts once. -/
mutual
def uptoBulk {H : Type} : DataW H → Nat
  | .lit (.string bytes) => bytes.length + 1
  | .lit _ => 1
  | .nil => 1
  | .ptr d => uptoBulk d + 1
  | .slice elems spare => uptoBulkAll elems + uptoBulkAll spare + 1
  | .agg parts => uptoBulkAll parts + 1
  | .iface _ d => uptoBulk d + 1
  | .map entries => uptoBulkEntries entries + 1
  | .held _ => 1
def uptoBulkAll {H : Type} : List (DataW H) → Nat
  | [] => 0
  | d :: r => uptoBulk d + uptoBulkAll r
def uptoBulkEntries {H : Type} : List (Lit × DataW H) → Nat
  | [] => 0
  | x :: r => uptoBulkEntry x + uptoBulkEntries r
def uptoBulkEntry {H : Type} : Lit × DataW H → Nat
  | (.string bytes, d) => bytes.length + uptoBulk d + 1
  | (_, d) => uptoBulk d + 1
 end
def uptoSmall : (H : Type) → List (DataW H) → Bool := fun _ ds => decide (uptoBulkAll ds ≤ 1048576)
def OpenSpec.upto (s : _root_.Go.ChangeSpec) : _root_.Go.OpenSpec := { _root_.Go.OpenSpec.ofChange s with cond := some uptoSmall }

/-- 'laws.FnLabWay', WHERE WHAT IT READS IS OF BULK AT MOST 1048576: true; the input reads as it did. -/
def fnLabWayUptoRow : OpenClaim := { program := "ytmiolofjlfnohaa", sum := "fa327964900ac095803bc56e00e039684e8840e269b4b8a3f7f99188306ae301", func := "loop.example/tern/laws.FnLabWay", spec := "fnLabWay", apart := false, narrowed := true }
def FnLabWayUptoSaid : Prop := fnLabWayUptoRow.holds Try.pinned (OpenSpec.upto fnLabWaySpec)

/-- 'laws.FnLabNever', WHERE WHAT IT READS IS OF BULK AT MOST 1048576: true; the input reads as it did. -/
def fnLabNeverUptoRow : OpenClaim := { program := "ytmiolofjlfnohaa", sum := "fa327964900ac095803bc56e00e039684e8840e269b4b8a3f7f99188306ae301", func := "loop.example/tern/laws.FnLabNever", spec := "fnLabNever", unfollowed := true, recurses := true, apart := false, narrowed := true }
def FnLabNeverUptoSaid : Prop := fnLabNeverUptoRow.holds Try.pinned (OpenSpec.upto fnLabNeverSpec)

/-- 'laws.FnLabTear', WHERE WHAT IT READS IS OF BULK AT MOST 1048576: true; the input reads as it did. -/
def fnLabTearUptoRow : OpenClaim := { program := "ytmiolofjlfnohaa", sum := "fa327964900ac095803bc56e00e039684e8840e269b4b8a3f7f99188306ae301", func := "loop.example/tern/laws.FnLabTear", spec := "fnLabTear", unfollowed := true, recurses := true, apart := false, narrowed := true }
def FnLabTearUptoSaid : Prop := fnLabTearUptoRow.holds Try.pinned (OpenSpec.upto fnLabTearSpec)

/-- 'laws.FnLabStep', WHERE WHAT IT READS IS OF BULK AT MOST 1048576: true; the input reads as it did. -/
def fnLabStepUptoRow : OpenClaim := { program := "ytmiolofjlfnohaa", sum := "fa327964900ac095803bc56e00e039684e8840e269b4b8a3f7f99188306ae301", func := "loop.example/tern/laws.FnLabStep", spec := "fnLabStep", unfollowed := true, recurses := true, apart := false, narrowed := true }
def FnLabStepUptoSaid : Prop := fnLabStepUptoRow.holds Try.pinned (OpenSpec.upto fnLabStepSpec)

/-- 'laws.FnLabInner', WHERE WHAT IT READS IS OF BULK AT MOST 1048576: true; the input reads as it did. -/
def fnLabInnerUptoRow : OpenClaim := { program := "ytmiolofjlfnohaa", sum := "fa327964900ac095803bc56e00e039684e8840e269b4b8a3f7f99188306ae301", func := "loop.example/tern/laws.FnLabInner", spec := "fnLabInner", unfollowed := true, recurses := true, apart := false, narrowed := true }
def FnLabInnerUptoSaid : Prop := fnLabInnerUptoRow.holds Try.pinned (OpenSpec.upto fnLabInnerSpec)

/-- 'laws.FnLabLay', WHERE WHAT IT READS IS OF BULK AT MOST 1048576: true; the input reads as it did. -/
def fnLabLayUptoRow : OpenClaim := { program := "ytmiolofjlfnohaa", sum := "fa327964900ac095803bc56e00e039684e8840e269b4b8a3f7f99188306ae301", func := "loop.example/tern/laws.FnLabLay", spec := "fnLabLay", unfollowed := true, recurses := true, apart := false, narrowed := true }
def FnLabLayUptoSaid : Prop := fnLabLayUptoRow.holds Try.pinned (OpenSpec.upto fnLabLaySpec)

end Rows
end Go.Proofs.Ytmiolofjlfnohaa
