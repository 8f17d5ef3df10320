/-
  No cell of these rows narrows 'for every input' (looked for: loops, veiled, ifaces, maps, wideKeys, modest, calm, conditions, laid).
  DERIVED. THE GIVEN ROWS OF THIS SEAT. 9 by the template 'for every input the law returns true; each argument reads behind the call as it read before'; 0 by the template 'total and deterministic' (their statements: YtjcgnlpimefhpaaTotals.lean).
  GIVEN WITH THE SEED: the statements are not yours to turn. If you find one false, say at which input.
  Laid BY PROGRAM, IN A SANDBOX (cutbox-rows.mjs): the forced cells as the released guide's own fill.sh prints them over the translation bafa585337d65e4d… (all of the seat's roots in one cut). By AI agents, Wed Nov 11 2026. No macro, syntax, notation, axiom, sorry.
-/
import Derived.Test.YtjcgnlpimefhpaaChecked
import GoSem.Claim
import GoSem.ClaimJoined
import GoSem.ClaimMapViews
import Derived.JoinedTies
import Derived.KernelRfl
namespace Go.Proofs.Ytjcgnlpimefhpaa
/- THE CELL 'sum', in the pinned program and in every row, IS THE sha256 OF THE DUMP (.gsa) THAT YtjcgnlpimefhpaaProg.lean LOADS. Nothing in Lean hashes anything: it is a label: what it is worth is what the hold of that sum in a sandbox is worth. -/
noncomputable def Try.pinned : Pinned := { name := "ytjcgnlpimefhpaa", sum := "bafa585337d65e4db9eac0fa127cb446bd0ff129e5e39b47f95591e664275364", checked := Try.checked }
namespace Rows
def none {H : Type} : Left H := { results := [], args := [] }

/-- 'laws.FnExactTernLay': WHATEVER THE INPUT: true; the input reads as it did. -/
def fnExactTernLaySpec : ChangeSpec := { name := "fnExactTernLay", fn := fun _ => fun
  | [d1, d2, d3, d4] => { results := [.lit (.bool true)], args := [d1, d2, d3, d4] }
  | _ => none }
def fnExactTernLayRow : OpenClaim := { program := "ytjcgnlpimefhpaa", sum := "bafa585337d65e4db9eac0fa127cb446bd0ff129e5e39b47f95591e664275364", func := "loop.example/tern/laws.FnExactTernLay", spec := "fnExactTernLay", apart := false }
def FnExactTernLaySaid : Prop := fnExactTernLayRow.holds Try.pinned (OpenSpec.ofChange fnExactTernLaySpec)

/-- ITS FALSE NEIGHBOUR: 'it returns false'. Refute it at one input. -/
def fnExactTernLayWrong : ChangeSpec := { name := "fnExactTernLay", fn := fun _ => fun
  | [d1, d2, d3, d4] => { results := [.lit (.bool false)], args := [d1, d2, d3, d4] }
  | _ => none }
def FnExactTernLayWrongFalsely : Prop := fnExactTernLayRow.holds Try.pinned (OpenSpec.ofChange fnExactTernLayWrong)

/-- 'laws.FnExactHelloNew': WHATEVER THE INPUT: true; the input reads as it did. -/
def fnExactHelloNewSpec : ChangeSpec := { name := "fnExactHelloNew", fn := fun _ => fun
  | [d1, d2, d3, d4, d5] => { results := [.lit (.bool true)], args := [d1, d2, d3, d4, d5] }
  | _ => none }
def fnExactHelloNewRow : OpenClaim := { program := "ytjcgnlpimefhpaa", sum := "bafa585337d65e4db9eac0fa127cb446bd0ff129e5e39b47f95591e664275364", func := "loop.example/tern/laws.FnExactHelloNew", spec := "fnExactHelloNew", inPlace := ["slices.overlaps[loop.example/tern/impl.HelloEntry]"], unfollowed := true, recurses := true, apart := false }
def FnExactHelloNewSaid : Prop := fnExactHelloNewRow.holds Try.pinned (OpenSpec.ofChange fnExactHelloNewSpec)

/-- ITS FALSE NEIGHBOUR: 'it returns false'. Refute it at one input. -/
def fnExactHelloNewWrong : ChangeSpec := { name := "fnExactHelloNew", fn := fun _ => fun
  | [d1, d2, d3, d4, d5] => { results := [.lit (.bool false)], args := [d1, d2, d3, d4, d5] }
  | _ => none }
def FnExactHelloNewWrongFalsely : Prop := fnExactHelloNewRow.holds Try.pinned (OpenSpec.ofChange fnExactHelloNewWrong)

/-- 'laws.FnExactHelloUse': WHATEVER THE INPUT: true; the input reads as it did. -/
def fnExactHelloUseSpec : ChangeSpec := { name := "fnExactHelloUse", fn := fun _ => fun
  | [d] => { results := [.lit (.bool true)], args := [d] }
  | _ => none }
def fnExactHelloUseRow : OpenClaim := { program := "ytjcgnlpimefhpaa", sum := "bafa585337d65e4db9eac0fa127cb446bd0ff129e5e39b47f95591e664275364", func := "loop.example/tern/laws.FnExactHelloUse", spec := "fnExactHelloUse", inPlace := ["slices.overlaps[loop.example/tern/impl.HelloEntry]"], unfollowed := true, recurses := true, apart := false }
def FnExactHelloUseSaid : Prop := fnExactHelloUseRow.holds Try.pinned (OpenSpec.ofChange fnExactHelloUseSpec)

/-- ITS FALSE NEIGHBOUR: 'it returns false'. Refute it at one input. -/
def fnExactHelloUseWrong : ChangeSpec := { name := "fnExactHelloUse", fn := fun _ => fun
  | [d] => { results := [.lit (.bool false)], args := [d] }
  | _ => none }
def FnExactHelloUseWrongFalsely : Prop := fnExactHelloUseRow.holds Try.pinned (OpenSpec.ofChange fnExactHelloUseWrong)

/-- 'laws.FnExactHelloWorldOk': WHATEVER THE INPUT: true; the input reads as it did. -/
def fnExactHelloWorldOkSpec : ChangeSpec := { name := "fnExactHelloWorldOk", fn := fun _ => fun
  | [d] => { results := [.lit (.bool true)], args := [d] }
  | _ => none }
def fnExactHelloWorldOkRow : OpenClaim := { program := "ytjcgnlpimefhpaa", sum := "bafa585337d65e4db9eac0fa127cb446bd0ff129e5e39b47f95591e664275364", func := "loop.example/tern/laws.FnExactHelloWorldOk", spec := "fnExactHelloWorldOk", inPlace := ["slices.overlaps[loop.example/tern/impl.HelloEntry]"], unfollowed := true, recurses := true, apart := false }
def FnExactHelloWorldOkSaid : Prop := fnExactHelloWorldOkRow.holds Try.pinned (OpenSpec.ofChange fnExactHelloWorldOkSpec)

/-- ITS FALSE NEIGHBOUR: 'it returns false'. Refute it at one input. -/
def fnExactHelloWorldOkWrong : ChangeSpec := { name := "fnExactHelloWorldOk", fn := fun _ => fun
  | [d] => { results := [.lit (.bool false)], args := [d] }
  | _ => none }
def FnExactHelloWorldOkWrongFalsely : Prop := fnExactHelloWorldOkRow.holds Try.pinned (OpenSpec.ofChange fnExactHelloWorldOkWrong)

/-- 'laws.FnExactHelloKnow': WHATEVER THE INPUT: true; the input reads as it did. -/
def fnExactHelloKnowSpec : ChangeSpec := { name := "fnExactHelloKnow", fn := fun _ => fun
  | [d] => { results := [.lit (.bool true)], args := [d] }
  | _ => none }
def fnExactHelloKnowRow : OpenClaim := { program := "ytjcgnlpimefhpaa", sum := "bafa585337d65e4db9eac0fa127cb446bd0ff129e5e39b47f95591e664275364", func := "loop.example/tern/laws.FnExactHelloKnow", spec := "fnExactHelloKnow", inPlace := ["slices.overlaps[loop.example/tern/impl.HelloEntry]"], unfollowed := true, recurses := true, apart := false }
def FnExactHelloKnowSaid : Prop := fnExactHelloKnowRow.holds Try.pinned (OpenSpec.ofChange fnExactHelloKnowSpec)

/-- ITS FALSE NEIGHBOUR: 'it returns false'. Refute it at one input. -/
def fnExactHelloKnowWrong : ChangeSpec := { name := "fnExactHelloKnow", fn := fun _ => fun
  | [d] => { results := [.lit (.bool false)], args := [d] }
  | _ => none }
def FnExactHelloKnowWrongFalsely : Prop := fnExactHelloKnowRow.holds Try.pinned (OpenSpec.ofChange fnExactHelloKnowWrong)

/-- 'laws.FnExactHelloTrue': WHATEVER THE INPUT: true; the input reads as it did. -/
def fnExactHelloTrueSpec : ChangeSpec := { name := "fnExactHelloTrue", fn := fun _ => fun
  | [d] => { results := [.lit (.bool true)], args := [d] }
  | _ => none }
def fnExactHelloTrueRow : OpenClaim := { program := "ytjcgnlpimefhpaa", sum := "bafa585337d65e4db9eac0fa127cb446bd0ff129e5e39b47f95591e664275364", func := "loop.example/tern/laws.FnExactHelloTrue", spec := "fnExactHelloTrue", inPlace := ["slices.overlaps[loop.example/tern/impl.HelloEntry]"], unfollowed := true, recurses := true, apart := false }
def FnExactHelloTrueSaid : Prop := fnExactHelloTrueRow.holds Try.pinned (OpenSpec.ofChange fnExactHelloTrueSpec)

/-- ITS FALSE NEIGHBOUR: 'it returns false'. Refute it at one input. -/
def fnExactHelloTrueWrong : ChangeSpec := { name := "fnExactHelloTrue", fn := fun _ => fun
  | [d] => { results := [.lit (.bool false)], args := [d] }
  | _ => none }
def FnExactHelloTrueWrongFalsely : Prop := fnExactHelloTrueRow.holds Try.pinned (OpenSpec.ofChange fnExactHelloTrueWrong)

/-- 'laws.FnExactHelloSay': WHATEVER THE INPUT: true; the input reads as it did. -/
def fnExactHelloSaySpec : ChangeSpec := { name := "fnExactHelloSay", fn := fun _ => fun
  | [d] => { results := [.lit (.bool true)], args := [d] }
  | _ => none }
def fnExactHelloSayRow : OpenClaim := { program := "ytjcgnlpimefhpaa", sum := "bafa585337d65e4db9eac0fa127cb446bd0ff129e5e39b47f95591e664275364", func := "loop.example/tern/laws.FnExactHelloSay", spec := "fnExactHelloSay", inPlace := ["slices.overlaps[loop.example/tern/impl.HelloEntry]"], unfollowed := true, recurses := true, apart := false }
def FnExactHelloSaySaid : Prop := fnExactHelloSayRow.holds Try.pinned (OpenSpec.ofChange fnExactHelloSaySpec)

/-- ITS FALSE NEIGHBOUR: 'it returns false'. Refute it at one input. -/
def fnExactHelloSayWrong : ChangeSpec := { name := "fnExactHelloSay", fn := fun _ => fun
  | [d] => { results := [.lit (.bool false)], args := [d] }
  | _ => none }
def FnExactHelloSayWrongFalsely : Prop := fnExactHelloSayRow.holds Try.pinned (OpenSpec.ofChange fnExactHelloSayWrong)

/-- 'laws.FnHelloRead': WHATEVER THE INPUT: true; the input reads as it did. -/
def fnHelloReadSpec : ChangeSpec := { name := "fnHelloRead", fn := fun _ => fun
  | [d1, d2] => { results := [.lit (.bool true)], args := [d1, d2] }
  | _ => none }
def fnHelloReadRow : OpenClaim := { program := "ytjcgnlpimefhpaa", sum := "bafa585337d65e4db9eac0fa127cb446bd0ff129e5e39b47f95591e664275364", func := "loop.example/tern/laws.FnHelloRead", spec := "fnHelloRead", unfollowed := true, recurses := true, apart := false }
def FnHelloReadSaid : Prop := fnHelloReadRow.holds Try.pinned (OpenSpec.ofChange fnHelloReadSpec)

/-- ITS FALSE NEIGHBOUR: 'it returns false'. Refute it at one input. -/
def fnHelloReadWrong : ChangeSpec := { name := "fnHelloRead", fn := fun _ => fun
  | [d1, d2] => { results := [.lit (.bool false)], args := [d1, d2] }
  | _ => none }
def FnHelloReadWrongFalsely : Prop := fnHelloReadRow.holds Try.pinned (OpenSpec.ofChange fnHelloReadWrong)

/-- 'laws.FnExactHelloOpen': WHATEVER THE INPUT: true; the input reads as it did. -/
def fnExactHelloOpenSpec : ChangeSpec := { name := "fnExactHelloOpen", fn := fun _ => fun
  | [d1, d2, d3, d4, d5] => { results := [.lit (.bool true)], args := [d1, d2, d3, d4, d5] }
  | _ => none }
def fnExactHelloOpenRow : OpenClaim := { program := "ytjcgnlpimefhpaa", sum := "bafa585337d65e4db9eac0fa127cb446bd0ff129e5e39b47f95591e664275364", func := "loop.example/tern/laws.FnExactHelloOpen", spec := "fnExactHelloOpen", inPlace := ["slices.overlaps[loop.example/tern/impl.HelloEntry]"], unfollowed := true, recurses := true, apart := false }
def FnExactHelloOpenSaid : Prop := fnExactHelloOpenRow.holds Try.pinned (OpenSpec.ofChange fnExactHelloOpenSpec)

/-- ITS FALSE NEIGHBOUR: 'it returns false'. Refute it at one input. -/
def fnExactHelloOpenWrong : ChangeSpec := { name := "fnExactHelloOpen", fn := fun _ => fun
  | [d1, d2, d3, d4, d5] => { results := [.lit (.bool false)], args := [d1, d2, d3, d4, d5] }
  | _ => none }
def FnExactHelloOpenWrongFalsely : Prop := fnExactHelloOpenRow.holds Try.pinned (OpenSpec.ofChange fnExactHelloOpenWrong)

/- THE SECOND FORM. 'bulk': how many values and letters a reading holds, each counted each time it is reached (what is shared counts as often as it is met; a slice's spare places count too). A statement '..UptoSaid' is the law's where the arguments, and the package variables that the reading takes, are together of bulk at most 1048576: NARROWER than '..Said'. Prove '..Said' where nothing that the law and all that it calls make is longer than what came in: it says more and counts as full. Else prove '..UptoSaid'. A law counts once. -/
mutual
def uptoBulk {H : Type} : DataW H → Nat
  | .lit (.string bytes) => bytes.length + 1
  | .lit _ => 1
  | .nil => 1
  | .ptr d => uptoBulk d + 1
  | .slice elems spare => uptoBulkAll elems + uptoBulkAll spare + 1
  | .agg parts => uptoBulkAll parts + 1
  | .iface _ d => uptoBulk d + 1
  | .map entries => uptoBulkEntries entries + 1
  | .held _ => 1
def uptoBulkAll {H : Type} : List (DataW H) → Nat
  | [] => 0
  | d :: r => uptoBulk d + uptoBulkAll r
def uptoBulkEntries {H : Type} : List (Lit × DataW H) → Nat
  | [] => 0
  | x :: r => uptoBulkEntry x + uptoBulkEntries r
def uptoBulkEntry {H : Type} : Lit × DataW H → Nat
  | (.string bytes, d) => bytes.length + uptoBulk d + 1
  | (_, d) => uptoBulk d + 1
 end
def uptoSmall : (H : Type) → List (DataW H) → Bool := fun _ ds => decide (uptoBulkAll ds ≤ 1048576)
def OpenSpec.upto (s : _root_.Go.ChangeSpec) : _root_.Go.OpenSpec := { _root_.Go.OpenSpec.ofChange s with cond := some uptoSmall }

/-- 'laws.FnExactTernLay', WHERE WHAT IT READS IS OF BULK AT MOST 1048576: true; the input reads as it did. -/
def fnExactTernLayUptoRow : OpenClaim := { program := "ytjcgnlpimefhpaa", sum := "bafa585337d65e4db9eac0fa127cb446bd0ff129e5e39b47f95591e664275364", func := "loop.example/tern/laws.FnExactTernLay", spec := "fnExactTernLay", apart := false, narrowed := true }
def FnExactTernLayUptoSaid : Prop := fnExactTernLayUptoRow.holds Try.pinned (OpenSpec.upto fnExactTernLaySpec)

/-- 'laws.FnExactHelloNew', WHERE WHAT IT READS IS OF BULK AT MOST 1048576: true; the input reads as it did. -/
def fnExactHelloNewUptoRow : OpenClaim := { program := "ytjcgnlpimefhpaa", sum := "bafa585337d65e4db9eac0fa127cb446bd0ff129e5e39b47f95591e664275364", func := "loop.example/tern/laws.FnExactHelloNew", spec := "fnExactHelloNew", inPlace := ["slices.overlaps[loop.example/tern/impl.HelloEntry]"], unfollowed := true, recurses := true, apart := false, narrowed := true }
def FnExactHelloNewUptoSaid : Prop := fnExactHelloNewUptoRow.holds Try.pinned (OpenSpec.upto fnExactHelloNewSpec)

/-- 'laws.FnExactHelloUse', WHERE WHAT IT READS IS OF BULK AT MOST 1048576: true; the input reads as it did. -/
def fnExactHelloUseUptoRow : OpenClaim := { program := "ytjcgnlpimefhpaa", sum := "bafa585337d65e4db9eac0fa127cb446bd0ff129e5e39b47f95591e664275364", func := "loop.example/tern/laws.FnExactHelloUse", spec := "fnExactHelloUse", inPlace := ["slices.overlaps[loop.example/tern/impl.HelloEntry]"], unfollowed := true, recurses := true, apart := false, narrowed := true }
def FnExactHelloUseUptoSaid : Prop := fnExactHelloUseUptoRow.holds Try.pinned (OpenSpec.upto fnExactHelloUseSpec)

/-- 'laws.FnExactHelloWorldOk', WHERE WHAT IT READS IS OF BULK AT MOST 1048576: true; the input reads as it did. -/
def fnExactHelloWorldOkUptoRow : OpenClaim := { program := "ytjcgnlpimefhpaa", sum := "bafa585337d65e4db9eac0fa127cb446bd0ff129e5e39b47f95591e664275364", func := "loop.example/tern/laws.FnExactHelloWorldOk", spec := "fnExactHelloWorldOk", inPlace := ["slices.overlaps[loop.example/tern/impl.HelloEntry]"], unfollowed := true, recurses := true, apart := false, narrowed := true }
def FnExactHelloWorldOkUptoSaid : Prop := fnExactHelloWorldOkUptoRow.holds Try.pinned (OpenSpec.upto fnExactHelloWorldOkSpec)

/-- 'laws.FnExactHelloKnow', WHERE WHAT IT READS IS OF BULK AT MOST 1048576: true; the input reads as it did. -/
def fnExactHelloKnowUptoRow : OpenClaim := { program := "ytjcgnlpimefhpaa", sum := "bafa585337d65e4db9eac0fa127cb446bd0ff129e5e39b47f95591e664275364", func := "loop.example/tern/laws.FnExactHelloKnow", spec := "fnExactHelloKnow", inPlace := ["slices.overlaps[loop.example/tern/impl.HelloEntry]"], unfollowed := true, recurses := true, apart := false, narrowed := true }
def FnExactHelloKnowUptoSaid : Prop := fnExactHelloKnowUptoRow.holds Try.pinned (OpenSpec.upto fnExactHelloKnowSpec)

/-- 'laws.FnExactHelloTrue', WHERE WHAT IT READS IS OF BULK AT MOST 1048576: true; the input reads as it did. -/
def fnExactHelloTrueUptoRow : OpenClaim := { program := "ytjcgnlpimefhpaa", sum := "bafa585337d65e4db9eac0fa127cb446bd0ff129e5e39b47f95591e664275364", func := "loop.example/tern/laws.FnExactHelloTrue", spec := "fnExactHelloTrue", inPlace := ["slices.overlaps[loop.example/tern/impl.HelloEntry]"], unfollowed := true, recurses := true, apart := false, narrowed := true }
def FnExactHelloTrueUptoSaid : Prop := fnExactHelloTrueUptoRow.holds Try.pinned (OpenSpec.upto fnExactHelloTrueSpec)

/-- 'laws.FnExactHelloSay', WHERE WHAT IT READS IS OF BULK AT MOST 1048576: true; the input reads as it did. -/
def fnExactHelloSayUptoRow : OpenClaim := { program := "ytjcgnlpimefhpaa", sum := "bafa585337d65e4db9eac0fa127cb446bd0ff129e5e39b47f95591e664275364", func := "loop.example/tern/laws.FnExactHelloSay", spec := "fnExactHelloSay", inPlace := ["slices.overlaps[loop.example/tern/impl.HelloEntry]"], unfollowed := true, recurses := true, apart := false, narrowed := true }
def FnExactHelloSayUptoSaid : Prop := fnExactHelloSayUptoRow.holds Try.pinned (OpenSpec.upto fnExactHelloSaySpec)

/-- 'laws.FnHelloRead', WHERE WHAT IT READS IS OF BULK AT MOST 1048576: true; the input reads as it did. -/
def fnHelloReadUptoRow : OpenClaim := { program := "ytjcgnlpimefhpaa", sum := "bafa585337d65e4db9eac0fa127cb446bd0ff129e5e39b47f95591e664275364", func := "loop.example/tern/laws.FnHelloRead", spec := "fnHelloRead", unfollowed := true, recurses := true, apart := false, narrowed := true }
def FnHelloReadUptoSaid : Prop := fnHelloReadUptoRow.holds Try.pinned (OpenSpec.upto fnHelloReadSpec)

/-- 'laws.FnExactHelloOpen', WHERE WHAT IT READS IS OF BULK AT MOST 1048576: true; the input reads as it did. -/
def fnExactHelloOpenUptoRow : OpenClaim := { program := "ytjcgnlpimefhpaa", sum := "bafa585337d65e4db9eac0fa127cb446bd0ff129e5e39b47f95591e664275364", func := "loop.example/tern/laws.FnExactHelloOpen", spec := "fnExactHelloOpen", inPlace := ["slices.overlaps[loop.example/tern/impl.HelloEntry]"], unfollowed := true, recurses := true, apart := false, narrowed := true }
def FnExactHelloOpenUptoSaid : Prop := fnExactHelloOpenUptoRow.holds Try.pinned (OpenSpec.upto fnExactHelloOpenSpec)

end Rows
end Go.Proofs.Ytjcgnlpimefhpaa
