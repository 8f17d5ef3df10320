/-
  No cell of these rows narrows 'for every input' (looked for: loops, veiled, ifaces, maps, wideKeys, modest, calm, conditions, laid).
  DERIVED. THE GIVEN ROWS OF THIS SEAT. 15 by the template 'for every input the law returns true; each argument reads behind the call as it read before'; 0 by the template 'total and deterministic' (their statements: YtjefeigdapcleaaTotals.lean).
  GIVEN WITH THE SEED: the statements are not yours to turn. If you find one false, say at which input.
  Laid BY PROGRAM, IN A SANDBOX (cutbox-rows.mjs): the forced cells as the released guide's own fill.sh prints them over the translation 0420aa7b23266bb3… (all of the seat's roots in one cut). By AI agents, Wed Nov 11 2026. No macro, syntax, notation, axiom, sorry.
-/
import Derived.Test.YtjefeigdapcleaaChecked
import GoSem.Claim
import GoSem.ClaimJoined
import GoSem.ClaimMapViews
import Derived.JoinedTies
import Derived.KernelRfl
namespace Go.Proofs.Ytjefeigdapcleaa
/- THE CELL 'sum', in the pinned program and in every row, IS THE sha256 OF THE DUMP (.gsa) THAT YtjefeigdapcleaaProg.lean LOADS. Nothing in Lean hashes anything: it is a label: what it is worth is what the hold of that sum in a sandbox is worth. -/
noncomputable def Try.pinned : Pinned := { name := "ytjefeigdapcleaa", sum := "0420aa7b23266bb369a1800b4572faa7f4238a0d3250eb898b36323636dd4624", checked := Try.checked }
namespace Rows
def none {H : Type} : Left H := { results := [], args := [] }

/-- 'laws.FnExactLabOpen': WHATEVER THE INPUT: true; the input reads as it did. -/
def fnExactLabOpenSpec : ChangeSpec := { name := "fnExactLabOpen", fn := fun _ => fun
  | [d1, d2] => { results := [.lit (.bool true)], args := [d1, d2] }
  | _ => none }
def fnExactLabOpenRow : OpenClaim := { program := "ytjefeigdapcleaa", sum := "0420aa7b23266bb369a1800b4572faa7f4238a0d3250eb898b36323636dd4624", func := "loop.example/tern/laws.FnExactLabOpen", spec := "fnExactLabOpen", apart := false }
def FnExactLabOpenSaid : Prop := fnExactLabOpenRow.holds Try.pinned (OpenSpec.ofChange fnExactLabOpenSpec)

/-- ITS FALSE NEIGHBOUR: 'it returns false'. Refute it at one input. -/
def fnExactLabOpenWrong : ChangeSpec := { name := "fnExactLabOpen", fn := fun _ => fun
  | [d1, d2] => { results := [.lit (.bool false)], args := [d1, d2] }
  | _ => none }
def FnExactLabOpenWrongFalsely : Prop := fnExactLabOpenRow.holds Try.pinned (OpenSpec.ofChange fnExactLabOpenWrong)

/-- 'laws.FnExactLabNetOk': WHATEVER THE INPUT: true; the input reads as it did. -/
def fnExactLabNetOkSpec : ChangeSpec := { name := "fnExactLabNetOk", fn := fun _ => fun
  | [d] => { results := [.lit (.bool true)], args := [d] }
  | _ => none }
def fnExactLabNetOkRow : OpenClaim := { program := "ytjefeigdapcleaa", sum := "0420aa7b23266bb369a1800b4572faa7f4238a0d3250eb898b36323636dd4624", func := "loop.example/tern/laws.FnExactLabNetOk", spec := "fnExactLabNetOk", apart := false }
def FnExactLabNetOkSaid : Prop := fnExactLabNetOkRow.holds Try.pinned (OpenSpec.ofChange fnExactLabNetOkSpec)

/-- ITS FALSE NEIGHBOUR: 'it returns false'. Refute it at one input. -/
def fnExactLabNetOkWrong : ChangeSpec := { name := "fnExactLabNetOk", fn := fun _ => fun
  | [d] => { results := [.lit (.bool false)], args := [d] }
  | _ => none }
def FnExactLabNetOkWrongFalsely : Prop := fnExactLabNetOkRow.holds Try.pinned (OpenSpec.ofChange fnExactLabNetOkWrong)

/-- 'laws.FnExactLabLinked': WHATEVER THE INPUT: true; the input reads as it did. -/
def fnExactLabLinkedSpec : ChangeSpec := { name := "fnExactLabLinked", fn := fun _ => fun
  | [d1, d2, d3] => { results := [.lit (.bool true)], args := [d1, d2, d3] }
  | _ => none }
def fnExactLabLinkedRow : OpenClaim := { program := "ytjefeigdapcleaa", sum := "0420aa7b23266bb369a1800b4572faa7f4238a0d3250eb898b36323636dd4624", func := "loop.example/tern/laws.FnExactLabLinked", spec := "fnExactLabLinked", apart := false }
def FnExactLabLinkedSaid : Prop := fnExactLabLinkedRow.holds Try.pinned (OpenSpec.ofChange fnExactLabLinkedSpec)

/-- ITS FALSE NEIGHBOUR: 'it returns false'. Refute it at one input. -/
def fnExactLabLinkedWrong : ChangeSpec := { name := "fnExactLabLinked", fn := fun _ => fun
  | [d1, d2, d3] => { results := [.lit (.bool false)], args := [d1, d2, d3] }
  | _ => none }
def FnExactLabLinkedWrongFalsely : Prop := fnExactLabLinkedRow.holds Try.pinned (OpenSpec.ofChange fnExactLabLinkedWrong)

/-- 'laws.FnExactLabPath': WHATEVER THE INPUT: true; the input reads as it did. -/
def fnExactLabPathSpec : ChangeSpec := { name := "fnExactLabPath", fn := fun _ => fun
  | [d1, d2, d3] => { results := [.lit (.bool true)], args := [d1, d2, d3] }
  | _ => none }
def fnExactLabPathRow : OpenClaim := { program := "ytjefeigdapcleaa", sum := "0420aa7b23266bb369a1800b4572faa7f4238a0d3250eb898b36323636dd4624", func := "loop.example/tern/laws.FnExactLabPath", spec := "fnExactLabPath", apart := false }
def FnExactLabPathSaid : Prop := fnExactLabPathRow.holds Try.pinned (OpenSpec.ofChange fnExactLabPathSpec)

/-- ITS FALSE NEIGHBOUR: 'it returns false'. Refute it at one input. -/
def fnExactLabPathWrong : ChangeSpec := { name := "fnExactLabPath", fn := fun _ => fun
  | [d1, d2, d3] => { results := [.lit (.bool false)], args := [d1, d2, d3] }
  | _ => none }
def FnExactLabPathWrongFalsely : Prop := fnExactLabPathRow.holds Try.pinned (OpenSpec.ofChange fnExactLabPathWrong)

/-- 'laws.FnExactLabWay': WHATEVER THE INPUT: true; the input reads as it did. -/
def fnExactLabWaySpec : ChangeSpec := { name := "fnExactLabWay", fn := fun _ => fun
  | [d1, d2, d3, d4] => { results := [.lit (.bool true)], args := [d1, d2, d3, d4] }
  | _ => none }
def fnExactLabWayRow : OpenClaim := { program := "ytjefeigdapcleaa", sum := "0420aa7b23266bb369a1800b4572faa7f4238a0d3250eb898b36323636dd4624", func := "loop.example/tern/laws.FnExactLabWay", spec := "fnExactLabWay", apart := false }
def FnExactLabWaySaid : Prop := fnExactLabWayRow.holds Try.pinned (OpenSpec.ofChange fnExactLabWaySpec)

/-- ITS FALSE NEIGHBOUR: 'it returns false'. Refute it at one input. -/
def fnExactLabWayWrong : ChangeSpec := { name := "fnExactLabWay", fn := fun _ => fun
  | [d1, d2, d3, d4] => { results := [.lit (.bool false)], args := [d1, d2, d3, d4] }
  | _ => none }
def FnExactLabWayWrongFalsely : Prop := fnExactLabWayRow.holds Try.pinned (OpenSpec.ofChange fnExactLabWayWrong)

/-- 'laws.FnExactLabStep': WHATEVER THE INPUT: true; the input reads as it did. -/
def fnExactLabStepSpec : ChangeSpec := { name := "fnExactLabStep", fn := fun _ => fun
  | [d1, d2, d3] => { results := [.lit (.bool true)], args := [d1, d2, d3] }
  | _ => none }
def fnExactLabStepRow : OpenClaim := { program := "ytjefeigdapcleaa", sum := "0420aa7b23266bb369a1800b4572faa7f4238a0d3250eb898b36323636dd4624", func := "loop.example/tern/laws.FnExactLabStep", spec := "fnExactLabStep", unfollowed := true, recurses := true, apart := false }
def FnExactLabStepSaid : Prop := fnExactLabStepRow.holds Try.pinned (OpenSpec.ofChange fnExactLabStepSpec)

/-- ITS FALSE NEIGHBOUR: 'it returns false'. Refute it at one input. -/
def fnExactLabStepWrong : ChangeSpec := { name := "fnExactLabStep", fn := fun _ => fun
  | [d1, d2, d3] => { results := [.lit (.bool false)], args := [d1, d2, d3] }
  | _ => none }
def FnExactLabStepWrongFalsely : Prop := fnExactLabStepRow.holds Try.pinned (OpenSpec.ofChange fnExactLabStepWrong)

/-- 'laws.FnLabWay': WHATEVER THE INPUT: true; the input reads as it did. -/
def fnLabWaySpec : ChangeSpec := { name := "fnLabWay", fn := fun _ => fun
  | [d] => { results := [.lit (.bool true)], args := [d] }
  | _ => none }
def fnLabWayRow : OpenClaim := { program := "ytjefeigdapcleaa", sum := "0420aa7b23266bb369a1800b4572faa7f4238a0d3250eb898b36323636dd4624", func := "loop.example/tern/laws.FnLabWay", spec := "fnLabWay", apart := false }
def FnLabWaySaid : Prop := fnLabWayRow.holds Try.pinned (OpenSpec.ofChange fnLabWaySpec)

/-- ITS FALSE NEIGHBOUR: 'it returns false'. Refute it at one input. -/
def fnLabWayWrong : ChangeSpec := { name := "fnLabWay", fn := fun _ => fun
  | [d] => { results := [.lit (.bool false)], args := [d] }
  | _ => none }
def FnLabWayWrongFalsely : Prop := fnLabWayRow.holds Try.pinned (OpenSpec.ofChange fnLabWayWrong)

/-- 'laws.FnExactLabTear': WHATEVER THE INPUT: true; the input reads as it did. -/
def fnExactLabTearSpec : ChangeSpec := { name := "fnExactLabTear", fn := fun _ => fun
  | [d1, d2, d3] => { results := [.lit (.bool true)], args := [d1, d2, d3] }
  | _ => none }
def fnExactLabTearRow : OpenClaim := { program := "ytjefeigdapcleaa", sum := "0420aa7b23266bb369a1800b4572faa7f4238a0d3250eb898b36323636dd4624", func := "loop.example/tern/laws.FnExactLabTear", spec := "fnExactLabTear", unfollowed := true, recurses := true, apart := false }
def FnExactLabTearSaid : Prop := fnExactLabTearRow.holds Try.pinned (OpenSpec.ofChange fnExactLabTearSpec)

/-- ITS FALSE NEIGHBOUR: 'it returns false'. Refute it at one input. -/
def fnExactLabTearWrong : ChangeSpec := { name := "fnExactLabTear", fn := fun _ => fun
  | [d1, d2, d3] => { results := [.lit (.bool false)], args := [d1, d2, d3] }
  | _ => none }
def FnExactLabTearWrongFalsely : Prop := fnExactLabTearRow.holds Try.pinned (OpenSpec.ofChange fnExactLabTearWrong)

/-- 'laws.FnExactLabWalk': WHATEVER THE INPUT: true; the input reads as it did. -/
def fnExactLabWalkSpec : ChangeSpec := { name := "fnExactLabWalk", fn := fun _ => fun
  | [d1, d2, d3] => { results := [.lit (.bool true)], args := [d1, d2, d3] }
  | _ => none }
def fnExactLabWalkRow : OpenClaim := { program := "ytjefeigdapcleaa", sum := "0420aa7b23266bb369a1800b4572faa7f4238a0d3250eb898b36323636dd4624", func := "loop.example/tern/laws.FnExactLabWalk", spec := "fnExactLabWalk", unfollowed := true, recurses := true, apart := false }
def FnExactLabWalkSaid : Prop := fnExactLabWalkRow.holds Try.pinned (OpenSpec.ofChange fnExactLabWalkSpec)

/-- ITS FALSE NEIGHBOUR: 'it returns false'. Refute it at one input. -/
def fnExactLabWalkWrong : ChangeSpec := { name := "fnExactLabWalk", fn := fun _ => fun
  | [d1, d2, d3] => { results := [.lit (.bool false)], args := [d1, d2, d3] }
  | _ => none }
def FnExactLabWalkWrongFalsely : Prop := fnExactLabWalkRow.holds Try.pinned (OpenSpec.ofChange fnExactLabWalkWrong)

/-- 'laws.FnLabNever': WHATEVER THE INPUT: true; the input reads as it did. -/
def fnLabNeverSpec : ChangeSpec := { name := "fnLabNever", fn := fun _ => fun
  | [d] => { results := [.lit (.bool true)], args := [d] }
  | _ => none }
def fnLabNeverRow : OpenClaim := { program := "ytjefeigdapcleaa", sum := "0420aa7b23266bb369a1800b4572faa7f4238a0d3250eb898b36323636dd4624", func := "loop.example/tern/laws.FnLabNever", spec := "fnLabNever", unfollowed := true, recurses := true, apart := false }
def FnLabNeverSaid : Prop := fnLabNeverRow.holds Try.pinned (OpenSpec.ofChange fnLabNeverSpec)

/-- ITS FALSE NEIGHBOUR: 'it returns false'. Refute it at one input. -/
def fnLabNeverWrong : ChangeSpec := { name := "fnLabNever", fn := fun _ => fun
  | [d] => { results := [.lit (.bool false)], args := [d] }
  | _ => none }
def FnLabNeverWrongFalsely : Prop := fnLabNeverRow.holds Try.pinned (OpenSpec.ofChange fnLabNeverWrong)

/-- 'laws.FnLabTear': WHATEVER THE INPUT: true; the input reads as it did. -/
def fnLabTearSpec : ChangeSpec := { name := "fnLabTear", fn := fun _ => fun
  | [d] => { results := [.lit (.bool true)], args := [d] }
  | _ => none }
def fnLabTearRow : OpenClaim := { program := "ytjefeigdapcleaa", sum := "0420aa7b23266bb369a1800b4572faa7f4238a0d3250eb898b36323636dd4624", func := "loop.example/tern/laws.FnLabTear", spec := "fnLabTear", unfollowed := true, recurses := true, apart := false }
def FnLabTearSaid : Prop := fnLabTearRow.holds Try.pinned (OpenSpec.ofChange fnLabTearSpec)

/-- ITS FALSE NEIGHBOUR: 'it returns false'. Refute it at one input. -/
def fnLabTearWrong : ChangeSpec := { name := "fnLabTear", fn := fun _ => fun
  | [d] => { results := [.lit (.bool false)], args := [d] }
  | _ => none }
def FnLabTearWrongFalsely : Prop := fnLabTearRow.holds Try.pinned (OpenSpec.ofChange fnLabTearWrong)

/-- 'laws.FnLabStep': WHATEVER THE INPUT: true; the input reads as it did. -/
def fnLabStepSpec : ChangeSpec := { name := "fnLabStep", fn := fun _ => fun
  | [d] => { results := [.lit (.bool true)], args := [d] }
  | _ => none }
def fnLabStepRow : OpenClaim := { program := "ytjefeigdapcleaa", sum := "0420aa7b23266bb369a1800b4572faa7f4238a0d3250eb898b36323636dd4624", func := "loop.example/tern/laws.FnLabStep", spec := "fnLabStep", unfollowed := true, recurses := true, apart := false }
def FnLabStepSaid : Prop := fnLabStepRow.holds Try.pinned (OpenSpec.ofChange fnLabStepSpec)

/-- ITS FALSE NEIGHBOUR: 'it returns false'. Refute it at one input. -/
def fnLabStepWrong : ChangeSpec := { name := "fnLabStep", fn := fun _ => fun
  | [d] => { results := [.lit (.bool false)], args := [d] }
  | _ => none }
def FnLabStepWrongFalsely : Prop := fnLabStepRow.holds Try.pinned (OpenSpec.ofChange fnLabStepWrong)

/-- 'laws.FnLabInner': WHATEVER THE INPUT: true; the input reads as it did. -/
def fnLabInnerSpec : ChangeSpec := { name := "fnLabInner", fn := fun _ => fun
  | [d] => { results := [.lit (.bool true)], args := [d] }
  | _ => none }
def fnLabInnerRow : OpenClaim := { program := "ytjefeigdapcleaa", sum := "0420aa7b23266bb369a1800b4572faa7f4238a0d3250eb898b36323636dd4624", func := "loop.example/tern/laws.FnLabInner", spec := "fnLabInner", unfollowed := true, recurses := true, apart := false }
def FnLabInnerSaid : Prop := fnLabInnerRow.holds Try.pinned (OpenSpec.ofChange fnLabInnerSpec)

/-- ITS FALSE NEIGHBOUR: 'it returns false'. Refute it at one input. -/
def fnLabInnerWrong : ChangeSpec := { name := "fnLabInner", fn := fun _ => fun
  | [d] => { results := [.lit (.bool false)], args := [d] }
  | _ => none }
def FnLabInnerWrongFalsely : Prop := fnLabInnerRow.holds Try.pinned (OpenSpec.ofChange fnLabInnerWrong)

/-- 'laws.FnExactLabLay': WHATEVER THE INPUT: true; the input reads as it did. -/
def fnExactLabLaySpec : ChangeSpec := { name := "fnExactLabLay", fn := fun _ => fun
  | [d1, d2] => { results := [.lit (.bool true)], args := [d1, d2] }
  | _ => none }
def fnExactLabLayRow : OpenClaim := { program := "ytjefeigdapcleaa", sum := "0420aa7b23266bb369a1800b4572faa7f4238a0d3250eb898b36323636dd4624", func := "loop.example/tern/laws.FnExactLabLay", spec := "fnExactLabLay", unfollowed := true, recurses := true, apart := false }
def FnExactLabLaySaid : Prop := fnExactLabLayRow.holds Try.pinned (OpenSpec.ofChange fnExactLabLaySpec)

/-- ITS FALSE NEIGHBOUR: 'it returns false'. Refute it at one input. -/
def fnExactLabLayWrong : ChangeSpec := { name := "fnExactLabLay", fn := fun _ => fun
  | [d1, d2] => { results := [.lit (.bool false)], args := [d1, d2] }
  | _ => none }
def FnExactLabLayWrongFalsely : Prop := fnExactLabLayRow.holds Try.pinned (OpenSpec.ofChange fnExactLabLayWrong)

/-- 'laws.FnLabLay': WHATEVER THE INPUT: true; the input reads as it did. -/
def fnLabLaySpec : ChangeSpec := { name := "fnLabLay", fn := fun _ => fun
  | [d] => { results := [.lit (.bool true)], args := [d] }
  | _ => none }
def fnLabLayRow : OpenClaim := { program := "ytjefeigdapcleaa", sum := "0420aa7b23266bb369a1800b4572faa7f4238a0d3250eb898b36323636dd4624", func := "loop.example/tern/laws.FnLabLay", spec := "fnLabLay", unfollowed := true, recurses := true, apart := false }
def FnLabLaySaid : Prop := fnLabLayRow.holds Try.pinned (OpenSpec.ofChange fnLabLaySpec)

/-- ITS FALSE NEIGHBOUR: 'it returns false'. Refute it at one input. -/
def fnLabLayWrong : ChangeSpec := { name := "fnLabLay", fn := fun _ => fun
  | [d] => { results := [.lit (.bool false)], args := [d] }
  | _ => none }
def FnLabLayWrongFalsely : Prop := fnLabLayRow.holds Try.pinned (OpenSpec.ofChange fnLabLayWrong)

/- THE SECOND FORM. 'bulk': how many values and letters a reading holds, each counted each time it is reached (what is shared counts as often as it is met; a slice's spare places count too). A statement '..UptoSaid' is the law's where the arguments, and the package variables that the reading takes, are together of bulk at most 1048576: NARROWER than '..Said'. Prove '..Said' where nothing that the law and all that it calls make is longer than what came in: it says more and counts as full. Else prove '..UptoSaid'. A law counts once. -/
mutual
def uptoBulk {H : Type} : DataW H → Nat
  | .lit (.string bytes) => bytes.length + 1
  | .lit _ => 1
  | .nil => 1
  | .ptr d => uptoBulk d + 1
  | .slice elems spare => uptoBulkAll elems + uptoBulkAll spare + 1
  | .agg parts => uptoBulkAll parts + 1
  | .iface _ d => uptoBulk d + 1
  | .map entries => uptoBulkEntries entries + 1
  | .held _ => 1
def uptoBulkAll {H : Type} : List (DataW H) → Nat
  | [] => 0
  | d :: r => uptoBulk d + uptoBulkAll r
def uptoBulkEntries {H : Type} : List (Lit × DataW H) → Nat
  | [] => 0
  | x :: r => uptoBulkEntry x + uptoBulkEntries r
def uptoBulkEntry {H : Type} : Lit × DataW H → Nat
  | (.string bytes, d) => bytes.length + uptoBulk d + 1
  | (_, d) => uptoBulk d + 1
 end
def uptoSmall : (H : Type) → List (DataW H) → Bool := fun _ ds => decide (uptoBulkAll ds ≤ 1048576)
def OpenSpec.upto (s : _root_.Go.ChangeSpec) : _root_.Go.OpenSpec := { _root_.Go.OpenSpec.ofChange s with cond := some uptoSmall }

/-- 'laws.FnExactLabOpen', WHERE WHAT IT READS IS OF BULK AT MOST 1048576: true; the input reads as it did. -/
def fnExactLabOpenUptoRow : OpenClaim := { program := "ytjefeigdapcleaa", sum := "0420aa7b23266bb369a1800b4572faa7f4238a0d3250eb898b36323636dd4624", func := "loop.example/tern/laws.FnExactLabOpen", spec := "fnExactLabOpen", apart := false, narrowed := true }
def FnExactLabOpenUptoSaid : Prop := fnExactLabOpenUptoRow.holds Try.pinned (OpenSpec.upto fnExactLabOpenSpec)

/-- 'laws.FnExactLabNetOk', WHERE WHAT IT READS IS OF BULK AT MOST 1048576: true; the input reads as it did. -/
def fnExactLabNetOkUptoRow : OpenClaim := { program := "ytjefeigdapcleaa", sum := "0420aa7b23266bb369a1800b4572faa7f4238a0d3250eb898b36323636dd4624", func := "loop.example/tern/laws.FnExactLabNetOk", spec := "fnExactLabNetOk", apart := false, narrowed := true }
def FnExactLabNetOkUptoSaid : Prop := fnExactLabNetOkUptoRow.holds Try.pinned (OpenSpec.upto fnExactLabNetOkSpec)

/-- 'laws.FnExactLabLinked', WHERE WHAT IT READS IS OF BULK AT MOST 1048576: true; the input reads as it did. -/
def fnExactLabLinkedUptoRow : OpenClaim := { program := "ytjefeigdapcleaa", sum := "0420aa7b23266bb369a1800b4572faa7f4238a0d3250eb898b36323636dd4624", func := "loop.example/tern/laws.FnExactLabLinked", spec := "fnExactLabLinked", apart := false, narrowed := true }
def FnExactLabLinkedUptoSaid : Prop := fnExactLabLinkedUptoRow.holds Try.pinned (OpenSpec.upto fnExactLabLinkedSpec)

/-- 'laws.FnExactLabPath', WHERE WHAT IT READS IS OF BULK AT MOST 1048576: true; the input reads as it did. -/
def fnExactLabPathUptoRow : OpenClaim := { program := "ytjefeigdapcleaa", sum := "0420aa7b23266bb369a1800b4572faa7f4238a0d3250eb898b36323636dd4624", func := "loop.example/tern/laws.FnExactLabPath", spec := "fnExactLabPath", apart := false, narrowed := true }
def FnExactLabPathUptoSaid : Prop := fnExactLabPathUptoRow.holds Try.pinned (OpenSpec.upto fnExactLabPathSpec)

/-- 'laws.FnExactLabWay', WHERE WHAT IT READS IS OF BULK AT MOST 1048576: true; the input reads as it did. -/
def fnExactLabWayUptoRow : OpenClaim := { program := "ytjefeigdapcleaa", sum := "0420aa7b23266bb369a1800b4572faa7f4238a0d3250eb898b36323636dd4624", func := "loop.example/tern/laws.FnExactLabWay", spec := "fnExactLabWay", apart := false, narrowed := true }
def FnExactLabWayUptoSaid : Prop := fnExactLabWayUptoRow.holds Try.pinned (OpenSpec.upto fnExactLabWaySpec)

/-- 'laws.FnExactLabStep', WHERE WHAT IT READS IS OF BULK AT MOST 1048576: true; the input reads as it did. -/
def fnExactLabStepUptoRow : OpenClaim := { program := "ytjefeigdapcleaa", sum := "0420aa7b23266bb369a1800b4572faa7f4238a0d3250eb898b36323636dd4624", func := "loop.example/tern/laws.FnExactLabStep", spec := "fnExactLabStep", unfollowed := true, recurses := true, apart := false, narrowed := true }
def FnExactLabStepUptoSaid : Prop := fnExactLabStepUptoRow.holds Try.pinned (OpenSpec.upto fnExactLabStepSpec)

/-- 'laws.FnLabWay', WHERE WHAT IT READS IS OF BULK AT MOST 1048576: true; the input reads as it did. -/
def fnLabWayUptoRow : OpenClaim := { program := "ytjefeigdapcleaa", sum := "0420aa7b23266bb369a1800b4572faa7f4238a0d3250eb898b36323636dd4624", func := "loop.example/tern/laws.FnLabWay", spec := "fnLabWay", apart := false, narrowed := true }
def FnLabWayUptoSaid : Prop := fnLabWayUptoRow.holds Try.pinned (OpenSpec.upto fnLabWaySpec)

/-- 'laws.FnExactLabTear', WHERE WHAT IT READS IS OF BULK AT MOST 1048576: true; the input reads as it did. -/
def fnExactLabTearUptoRow : OpenClaim := { program := "ytjefeigdapcleaa", sum := "0420aa7b23266bb369a1800b4572faa7f4238a0d3250eb898b36323636dd4624", func := "loop.example/tern/laws.FnExactLabTear", spec := "fnExactLabTear", unfollowed := true, recurses := true, apart := false, narrowed := true }
def FnExactLabTearUptoSaid : Prop := fnExactLabTearUptoRow.holds Try.pinned (OpenSpec.upto fnExactLabTearSpec)

/-- 'laws.FnExactLabWalk', WHERE WHAT IT READS IS OF BULK AT MOST 1048576: true; the input reads as it did. -/
def fnExactLabWalkUptoRow : OpenClaim := { program := "ytjefeigdapcleaa", sum := "0420aa7b23266bb369a1800b4572faa7f4238a0d3250eb898b36323636dd4624", func := "loop.example/tern/laws.FnExactLabWalk", spec := "fnExactLabWalk", unfollowed := true, recurses := true, apart := false, narrowed := true }
def FnExactLabWalkUptoSaid : Prop := fnExactLabWalkUptoRow.holds Try.pinned (OpenSpec.upto fnExactLabWalkSpec)

/-- 'laws.FnLabNever', WHERE WHAT IT READS IS OF BULK AT MOST 1048576: true; the input reads as it did. -/
def fnLabNeverUptoRow : OpenClaim := { program := "ytjefeigdapcleaa", sum := "0420aa7b23266bb369a1800b4572faa7f4238a0d3250eb898b36323636dd4624", func := "loop.example/tern/laws.FnLabNever", spec := "fnLabNever", unfollowed := true, recurses := true, apart := false, narrowed := true }
def FnLabNeverUptoSaid : Prop := fnLabNeverUptoRow.holds Try.pinned (OpenSpec.upto fnLabNeverSpec)

/-- 'laws.FnLabTear', WHERE WHAT IT READS IS OF BULK AT MOST 1048576: true; the input reads as it did. -/
def fnLabTearUptoRow : OpenClaim := { program := "ytjefeigdapcleaa", sum := "0420aa7b23266bb369a1800b4572faa7f4238a0d3250eb898b36323636dd4624", func := "loop.example/tern/laws.FnLabTear", spec := "fnLabTear", unfollowed := true, recurses := true, apart := false, narrowed := true }
def FnLabTearUptoSaid : Prop := fnLabTearUptoRow.holds Try.pinned (OpenSpec.upto fnLabTearSpec)

/-- 'laws.FnLabStep', WHERE WHAT IT READS IS OF BULK AT MOST 1048576: true; the input reads as it did. -/
def fnLabStepUptoRow : OpenClaim := { program := "ytjefeigdapcleaa", sum := "0420aa7b23266bb369a1800b4572faa7f4238a0d3250eb898b36323636dd4624", func := "loop.example/tern/laws.FnLabStep", spec := "fnLabStep", unfollowed := true, recurses := true, apart := false, narrowed := true }
def FnLabStepUptoSaid : Prop := fnLabStepUptoRow.holds Try.pinned (OpenSpec.upto fnLabStepSpec)

/-- 'laws.FnLabInner', WHERE WHAT IT READS IS OF BULK AT MOST 1048576: true; the input reads as it did. -/
def fnLabInnerUptoRow : OpenClaim := { program := "ytjefeigdapcleaa", sum := "0420aa7b23266bb369a1800b4572faa7f4238a0d3250eb898b36323636dd4624", func := "loop.example/tern/laws.FnLabInner", spec := "fnLabInner", unfollowed := true, recurses := true, apart := false, narrowed := true }
def FnLabInnerUptoSaid : Prop := fnLabInnerUptoRow.holds Try.pinned (OpenSpec.upto fnLabInnerSpec)

/-- 'laws.FnExactLabLay', WHERE WHAT IT READS IS OF BULK AT MOST 1048576: true; the input reads as it did. -/
def fnExactLabLayUptoRow : OpenClaim := { program := "ytjefeigdapcleaa", sum := "0420aa7b23266bb369a1800b4572faa7f4238a0d3250eb898b36323636dd4624", func := "loop.example/tern/laws.FnExactLabLay", spec := "fnExactLabLay", unfollowed := true, recurses := true, apart := false, narrowed := true }
def FnExactLabLayUptoSaid : Prop := fnExactLabLayUptoRow.holds Try.pinned (OpenSpec.upto fnExactLabLaySpec)

/-- 'laws.FnLabLay', WHERE WHAT IT READS IS OF BULK AT MOST 1048576: true; the input reads as it did. -/
def fnLabLayUptoRow : OpenClaim := { program := "ytjefeigdapcleaa", sum := "0420aa7b23266bb369a1800b4572faa7f4238a0d3250eb898b36323636dd4624", func := "loop.example/tern/laws.FnLabLay", spec := "fnLabLay", unfollowed := true, recurses := true, apart := false, narrowed := true }
def FnLabLayUptoSaid : Prop := fnLabLayUptoRow.holds Try.pinned (OpenSpec.upto fnLabLaySpec)

end Rows
end Go.Proofs.Ytjefeigdapcleaa
