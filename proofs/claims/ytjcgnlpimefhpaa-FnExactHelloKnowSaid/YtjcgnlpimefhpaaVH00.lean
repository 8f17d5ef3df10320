/- functions, through the machine -/
import Derived.Test.YtjcgnlpimefhpaaRows
import Derived.Test.YtjcgnlpimefhpaaINS
namespace Go.Proofs.Ytjcgnlpimefhpaa
open Go.RowKit
set_option maxRecDepth 100000
set_option linter.unusedVariables false
set_option linter.unusedSimpArgs false
theorem mixed : Try.prog.follows .mixedOrders = true := Checked.mixed Try.checked
def F216_s0 (n : Int) : (Int × Int) → Lp (Int × Int) Int := fun (out, i40) =>
  bif (decide (i40 < 16)) then (.next ((IntKind.i64.wrap (out * 2)), (i40 + 1))) else (.done (out, i40))
def F216 (n : Int) : Int :=
  (runL (F216_s0 n) ((Int.toNat (16 - n)) + 1) (1, n)).fin (fun r => r) (fun (out, i40) => out)
def S216 (R : Int) (n : Int) : Spec := ⟨[.r (.c (.v (.int .i64 n)))], .v (.int .i64 R), 0 ≤ n ∧ n ≤ 16⟩
theorem ok216 (n : Int) : (S216 (F216 n) n).ok Try.prog 216 :=
  fnG_ok mixed (fn := Try.f216) (ct := .seq (.no) (.seq (.no) (.seq (.seq (.no) (.blk (.loop (ι := Nat × (Int × Int)) (fun i => (fun (out : Int) (i40 : Int) => (⟨[(3, some (.v (.int .i64 out))), (4, some (.v (.int .i64 i40)))], [], 0⟩ : St)) i.2.1 i.2.2) (fun i => runL (F216_s0 n) i.1 i.2 = (runL (F216_s0 n) ((Int.toNat (16 - n)) + 1) (1, n)) ∧ (fun (out : Int) (i40 : Int) => (Int.toNat (16 - i40) < i.1 ∧ 0 ≤ i40)) i.2.1 i.2.2) (fun i => i.1) (((Int.toNat (16 - n)) + 1), (1, n)) (fun i => (fun (out : Int) (i40 : Int) => (.seq (.seq (.no) (.cond (.no) (.no))) (.seq (.blk (.no)) (.reg [(1, .bnd)])))) i.2.1 i.2.2)))) (.seq (.no) (.no))))) Try.func216 (fun (hp : 0 ≤ n ∧ n ≤ 16) => (fun (hpre0 : 0 ≤ n) (hpre1 : n ≤ 16) => And.intro (And.intro (rfl) (And.intro (rfl) ((And.intro (rfl : runL (F216_s0 n) ((Int.toNat (16 - n)) + 1) (1, n) = (runL (F216_s0 n) ((Int.toNat (16 - n)) + 1) (1, n))) (And.intro ((Nat.lt_succ_self _ : Int.toNat (16 - n) < ((Int.toNat (16 - n)) + 1))) ((by omega : 0 ≤ n)))))) : ((.int .i64 1 : Value) = .int .i64 1) ∧ ((.int .i64 n : Value) = .int .i64 n) ∧ (runL (F216_s0 n) ((Int.toNat (16 - n)) + 1) (1, n) = (runL (F216_s0 n) ((Int.toNat (16 - n)) + 1) (1, n)) ∧ Int.toNat (16 - n) < ((Int.toNat (16 - n)) + 1) ∧ 0 ≤ n)) (fun (i0 : Nat × (Int × Int)) (hi0 : runL (F216_s0 n) i0.1 i0.2 = (runL (F216_s0 n) ((Int.toNat (16 - n)) + 1) (1, n)) ∧ (fun (out : Int) (i40 : Int) => (Int.toNat (16 - i40) < i0.1 ∧ 0 ≤ i40)) i0.2.1 i0.2.2) => (fun (m0 : Nat) (out : Int) (i40 : Int) (hI0 : runL (F216_s0 n) (m0 + 1) (out, i40) = (runL (F216_s0 n) ((Int.toNat (16 - n)) + 1) (1, n))) (_ : Int.toNat (16 - i40) < m0 + 1) (hl0 : m0 < i0.1) (_ : 0 ≤ i40) => And.intro (fun h2 : (decide (i40 < 16)) = true => (fun _ : i40 < 16 => And.intro ((by unfold i64ok; omega : i64ok (i40 + 1))) (Exists.intro (p := fun j : Nat × (Int × Int) => (fun (out_ : Int) (i40_ : Int) => (((.int .i64 (IntKind.i64.wrap (out * 2)) : Value) = .int .i64 out_) ∧ ((.int .i64 (i40 + 1) : Value) = .int .i64 i40_) ∧ ((runL (F216_s0 n) j.1 j.2 = (runL (F216_s0 n) ((Int.toNat (16 - n)) + 1) (1, n)) ∧ Int.toNat (16 - i40_) < j.1 ∧ 0 ≤ i40_) ∧ j.1 < i0.1))) j.2.1 j.2.2) (m0, ((IntKind.i64.wrap (out * 2)), (i40 + 1))) (And.intro (rfl) (And.intro (rfl) (And.intro (And.intro (runL_next hI0 (condT h2 (rfl))) (And.intro ((by omega : Int.toNat (16 - (i40 + 1)) < m0)) ((by omega : 0 ≤ (i40 + 1))))) hl0))))) (of_decide_eq_true h2)) (fun h2 : (decide (i40 < 16)) = false => (fun _ : ¬ i40 < 16 => (fun hD0_3 : (runL (F216_s0 n) ((Int.toNat (16 - n)) + 1) (1, n)) = Lp.done (out, i40) => (fun hF : (out : Int) = (F216 n) => And.intro (congrArg (fun r : Int => (.int .i64 r : Value)) hF) (trivial)) (finD hD0_3 (rfl))) (runL_done hI0 (condF h2 (rfl)))) (of_decide_eq_false h2))) (i0.1 - 1) i0.2.1 i0.2.2 (hd1 hi0.1 hi0.2.1) (hd2 hi0.2.1) (hd3 hi0.2.1) hi0.2.2)) hp.1 hp.2) (by kernel_rfl)
structure NetPrefix where
  Addr : Int
  Len : Int
  deriving DecidableEq, Inhabited
def eNetPrefix (x : NetPrefix) : List Dat := [.v (.int .i64 x.Addr), .v (.int .i64 x.Len)]
def F223 (p : NetPrefix) : Int :=
  (IntKind.i64.wrap (1 * 2 ^ (min (16 - p.Len).toNat IntKind.i64.bits)))
def S223 (R : Int) (p : NetPrefix) : Spec := ⟨[.r (.g (eNetPrefix p))], .v (.int .i64 R), 0 ≤ p.Len ∧ p.Len ≤ 16⟩
theorem ok223 (p : NetPrefix) : (S223 (F223 p) p).ok Try.prog 223 :=
  fnG_ok mixed (fn := Try.f223) (ct := .seq (.no) (.seq (.reg [(2, .bnd)]) (.no))) Try.func223 (fun (hp : 0 ≤ p.Len ∧ p.Len ≤ 16) => (fun (hpre0 : 0 ≤ p.Len) (hpre1 : p.Len ≤ 16) => And.intro ((by unfold i64ok; omega : i64ok (16 - p.Len))) (And.intro ((by omega : 0 ≤ (16 - p.Len))) ((fun hF : ((IntKind.i64.wrap (1 * 2 ^ (min (16 - p.Len).toNat IntKind.i64.bits))) : Int) = (F223 p) => And.intro (congrArg (fun r : Int => (.int .i64 r : Value)) hF) (trivial)) (rfl)))) hp.1 hp.2) (by kernel_rfl)

end Go.Proofs.Ytjcgnlpimefhpaa
