/-
  No cell of these rows narrows 'for every input' (looked for: loops, veiled, ifaces, maps, wideKeys, modest, calm, conditions, laid).
  DERIVED. THE GIVEN ROWS OF THIS SEAT. 5 by the template 'for every input the law returns true; each argument reads behind the call as it read before'; 0 by the template 'total and deterministic' (their statements: YtjefeigdapcleaaGreatTotals.lean).
  GIVEN WITH THE SEED: the statements are not yours to turn. If you find one false, say at which input.
  Laid BY PROGRAM, IN A SANDBOX (cutbox-rows.mjs): the forced cells as the released guide's own fill.sh prints them over the translation b4e4086019383a4f… (all of the seat's roots in one cut). By AI agents, Wed Nov 11 2026. No macro, syntax, notation, axiom, sorry.
-/
import Derived.Test.YtjefeigdapcleaaGreatChecked
import GoSem.Claim
import GoSem.ClaimJoined
import GoSem.ClaimMapViews
import Derived.JoinedTies
import Derived.KernelRfl
namespace Go.Proofs.YtjefeigdapcleaaGreat
/- THE CELL 'sum', in the pinned program and in every row, IS THE sha256 OF THE DUMP (.gsa) THAT YtjefeigdapcleaaGreatProg.lean LOADS. Nothing in Lean hashes anything: it is a label: what it is worth is what the hold of that sum in a sandbox is worth. -/
noncomputable def Tryz.pinned : Pinned := { name := "ytjefeigdapcleaagreat", sum := "b4e4086019383a4f7ee409a6119929c7bb066a45e189f09de3b927dfdd0482e7", checked := Tryz.checked }
namespace Rows
def none {H : Type} : Left H := { results := [], args := [] }

/-- 'laws.FnLabOrder': WHATEVER THE INPUT: true; the input reads as it did. -/
def fnLabOrderSpec : ChangeSpec := { name := "fnLabOrder", fn := fun _ => fun
  | [d] => { results := [.lit (.bool true)], args := [d] }
  | _ => none }
def fnLabOrderRow : OpenClaim := { program := "ytjefeigdapcleaagreat", sum := "b4e4086019383a4f7ee409a6119929c7bb066a45e189f09de3b927dfdd0482e7", func := "loop.example/tern/laws.FnLabOrder", spec := "fnLabOrder", unfollowed := true, recurses := true, apart := false }
def FnLabOrderSaid : Prop := fnLabOrderRow.holds Tryz.pinned (OpenSpec.ofChange fnLabOrderSpec)

/-- ITS FALSE NEIGHBOUR: 'it returns false'. Refute it at one input. -/
def fnLabOrderWrong : ChangeSpec := { name := "fnLabOrder", fn := fun _ => fun
  | [d] => { results := [.lit (.bool false)], args := [d] }
  | _ => none }
def FnLabOrderWrongFalsely : Prop := fnLabOrderRow.holds Tryz.pinned (OpenSpec.ofChange fnLabOrderWrong)

/-- 'laws.FnLabTop': WHATEVER THE INPUT: true; the input reads as it did. -/
def fnLabTopSpec : ChangeSpec := { name := "fnLabTop", fn := fun _ => fun
  | [d] => { results := [.lit (.bool true)], args := [d] }
  | _ => none }
def fnLabTopRow : OpenClaim := { program := "ytjefeigdapcleaagreat", sum := "b4e4086019383a4f7ee409a6119929c7bb066a45e189f09de3b927dfdd0482e7", func := "loop.example/tern/laws.FnLabTop", spec := "fnLabTop", unfollowed := true, recurses := true, apart := false }
def FnLabTopSaid : Prop := fnLabTopRow.holds Tryz.pinned (OpenSpec.ofChange fnLabTopSpec)

/-- ITS FALSE NEIGHBOUR: 'it returns false'. Refute it at one input. -/
def fnLabTopWrong : ChangeSpec := { name := "fnLabTop", fn := fun _ => fun
  | [d] => { results := [.lit (.bool false)], args := [d] }
  | _ => none }
def FnLabTopWrongFalsely : Prop := fnLabTopRow.holds Tryz.pinned (OpenSpec.ofChange fnLabTopWrong)

/-- 'laws.FnLabGuard': WHATEVER THE INPUT: true; the input reads as it did. -/
def fnLabGuardSpec : ChangeSpec := { name := "fnLabGuard", fn := fun _ => fun
  | [d] => { results := [.lit (.bool true)], args := [d] }
  | _ => none }
def fnLabGuardRow : OpenClaim := { program := "ytjefeigdapcleaagreat", sum := "b4e4086019383a4f7ee409a6119929c7bb066a45e189f09de3b927dfdd0482e7", func := "loop.example/tern/laws.FnLabGuard", spec := "fnLabGuard", unfollowed := true, recurses := true, apart := false }
def FnLabGuardSaid : Prop := fnLabGuardRow.holds Tryz.pinned (OpenSpec.ofChange fnLabGuardSpec)

/-- ITS FALSE NEIGHBOUR: 'it returns false'. Refute it at one input. -/
def fnLabGuardWrong : ChangeSpec := { name := "fnLabGuard", fn := fun _ => fun
  | [d] => { results := [.lit (.bool false)], args := [d] }
  | _ => none }
def FnLabGuardWrongFalsely : Prop := fnLabGuardRow.holds Tryz.pinned (OpenSpec.ofChange fnLabGuardWrong)

/-- 'laws.FnExactLabGuard': WHATEVER THE INPUT: true; the input reads as it did. -/
def fnExactLabGuardSpec : ChangeSpec := { name := "fnExactLabGuard", fn := fun _ => fun
  | [d1, d2, d3] => { results := [.lit (.bool true)], args := [d1, d2, d3] }
  | _ => none }
def fnExactLabGuardRow : OpenClaim := { program := "ytjefeigdapcleaagreat", sum := "b4e4086019383a4f7ee409a6119929c7bb066a45e189f09de3b927dfdd0482e7", func := "loop.example/tern/laws.FnExactLabGuard", spec := "fnExactLabGuard", unfollowed := true, recurses := true, apart := false }
def FnExactLabGuardSaid : Prop := fnExactLabGuardRow.holds Tryz.pinned (OpenSpec.ofChange fnExactLabGuardSpec)

/-- ITS FALSE NEIGHBOUR: 'it returns false'. Refute it at one input. -/
def fnExactLabGuardWrong : ChangeSpec := { name := "fnExactLabGuard", fn := fun _ => fun
  | [d1, d2, d3] => { results := [.lit (.bool false)], args := [d1, d2, d3] }
  | _ => none }
def FnExactLabGuardWrongFalsely : Prop := fnExactLabGuardRow.holds Tryz.pinned (OpenSpec.ofChange fnExactLabGuardWrong)

/-- 'laws.FnExactLabGuardAll': WHATEVER THE INPUT: true; the input reads as it did. -/
def fnExactLabGuardAllSpec : ChangeSpec := { name := "fnExactLabGuardAll", fn := fun _ => fun
  | [d] => { results := [.lit (.bool true)], args := [d] }
  | _ => none }
def fnExactLabGuardAllRow : OpenClaim := { program := "ytjefeigdapcleaagreat", sum := "b4e4086019383a4f7ee409a6119929c7bb066a45e189f09de3b927dfdd0482e7", func := "loop.example/tern/laws.FnExactLabGuardAll", spec := "fnExactLabGuardAll", unfollowed := true, recurses := true, apart := false }
def FnExactLabGuardAllSaid : Prop := fnExactLabGuardAllRow.holds Tryz.pinned (OpenSpec.ofChange fnExactLabGuardAllSpec)

/-- ITS FALSE NEIGHBOUR: 'it returns false'. Refute it at one input. -/
def fnExactLabGuardAllWrong : ChangeSpec := { name := "fnExactLabGuardAll", fn := fun _ => fun
  | [d] => { results := [.lit (.bool false)], args := [d] }
  | _ => none }
def FnExactLabGuardAllWrongFalsely : Prop := fnExactLabGuardAllRow.holds Tryz.pinned (OpenSpec.ofChange fnExactLabGuardAllWrong)

/- THE SECOND FORM. 'bulk': how many values and letters a reading holds, each counted each time it is reached (what is shared counts as often as it is met; a slice's spare places count too). A statement '..UptoSaid' is the law's where the arguments, and the package variables that the reading takes, are together of bulk at most 1048576: NARROWER than '..Said'. Prove '..Said' where nothing that the law and all that it calls make is longer than what came in: it says more and counts as full. Else prove '..UptoSaid'. A law counts once. -/
mutual
def uptoBulk {H : Type} : DataW H → Nat
  | .lit (.string bytes) => bytes.length + 1
  | .lit _ => 1
  | .nil => 1
  | .ptr d => uptoBulk d + 1
  | .slice elems spare => uptoBulkAll elems + uptoBulkAll spare + 1
  | .agg parts => uptoBulkAll parts + 1
  | .iface _ d => uptoBulk d + 1
  | .map entries => uptoBulkEntries entries + 1
  | .held _ => 1
def uptoBulkAll {H : Type} : List (DataW H) → Nat
  | [] => 0
  | d :: r => uptoBulk d + uptoBulkAll r
def uptoBulkEntries {H : Type} : List (Lit × DataW H) → Nat
  | [] => 0
  | x :: r => uptoBulkEntry x + uptoBulkEntries r
def uptoBulkEntry {H : Type} : Lit × DataW H → Nat
  | (.string bytes, d) => bytes.length + uptoBulk d + 1
  | (_, d) => uptoBulk d + 1
 end
def uptoSmall : (H : Type) → List (DataW H) → Bool := fun _ ds => decide (uptoBulkAll ds ≤ 1048576)
def OpenSpec.upto (s : _root_.Go.ChangeSpec) : _root_.Go.OpenSpec := { _root_.Go.OpenSpec.ofChange s with cond := some uptoSmall }

/-- 'laws.FnLabOrder', WHERE WHAT IT READS IS OF BULK AT MOST 1048576: true; the input reads as it did. -/
def fnLabOrderUptoRow : OpenClaim := { program := "ytjefeigdapcleaagreat", sum := "b4e4086019383a4f7ee409a6119929c7bb066a45e189f09de3b927dfdd0482e7", func := "loop.example/tern/laws.FnLabOrder", spec := "fnLabOrder", unfollowed := true, recurses := true, apart := false, narrowed := true }
def FnLabOrderUptoSaid : Prop := fnLabOrderUptoRow.holds Tryz.pinned (OpenSpec.upto fnLabOrderSpec)

/-- 'laws.FnLabTop', WHERE WHAT IT READS IS OF BULK AT MOST 1048576: true; the input reads as it did. -/
def fnLabTopUptoRow : OpenClaim := { program := "ytjefeigdapcleaagreat", sum := "b4e4086019383a4f7ee409a6119929c7bb066a45e189f09de3b927dfdd0482e7", func := "loop.example/tern/laws.FnLabTop", spec := "fnLabTop", unfollowed := true, recurses := true, apart := false, narrowed := true }
def FnLabTopUptoSaid : Prop := fnLabTopUptoRow.holds Tryz.pinned (OpenSpec.upto fnLabTopSpec)

/-- 'laws.FnLabGuard', WHERE WHAT IT READS IS OF BULK AT MOST 1048576: true; the input reads as it did. -/
def fnLabGuardUptoRow : OpenClaim := { program := "ytjefeigdapcleaagreat", sum := "b4e4086019383a4f7ee409a6119929c7bb066a45e189f09de3b927dfdd0482e7", func := "loop.example/tern/laws.FnLabGuard", spec := "fnLabGuard", unfollowed := true, recurses := true, apart := false, narrowed := true }
def FnLabGuardUptoSaid : Prop := fnLabGuardUptoRow.holds Tryz.pinned (OpenSpec.upto fnLabGuardSpec)

/-- 'laws.FnExactLabGuard', WHERE WHAT IT READS IS OF BULK AT MOST 1048576: true; the input reads as it did. -/
def fnExactLabGuardUptoRow : OpenClaim := { program := "ytjefeigdapcleaagreat", sum := "b4e4086019383a4f7ee409a6119929c7bb066a45e189f09de3b927dfdd0482e7", func := "loop.example/tern/laws.FnExactLabGuard", spec := "fnExactLabGuard", unfollowed := true, recurses := true, apart := false, narrowed := true }
def FnExactLabGuardUptoSaid : Prop := fnExactLabGuardUptoRow.holds Tryz.pinned (OpenSpec.upto fnExactLabGuardSpec)

/-- 'laws.FnExactLabGuardAll', WHERE WHAT IT READS IS OF BULK AT MOST 1048576: true; the input reads as it did. -/
def fnExactLabGuardAllUptoRow : OpenClaim := { program := "ytjefeigdapcleaagreat", sum := "b4e4086019383a4f7ee409a6119929c7bb066a45e189f09de3b927dfdd0482e7", func := "loop.example/tern/laws.FnExactLabGuardAll", spec := "fnExactLabGuardAll", unfollowed := true, recurses := true, apart := false, narrowed := true }
def FnExactLabGuardAllUptoSaid : Prop := fnExactLabGuardAllUptoRow.holds Tryz.pinned (OpenSpec.upto fnExactLabGuardAllSpec)

end Rows
end Go.Proofs.YtjefeigdapcleaaGreat
