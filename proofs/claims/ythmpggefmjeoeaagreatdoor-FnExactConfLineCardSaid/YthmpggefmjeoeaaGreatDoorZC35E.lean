/- Texts put together: VFF, PFF, PCL0, VCL, PCL, VCLL, PCLL, C35; then what leads to it. -/
import Derived.Test.YthmpggefmjeoeaaGreatDoorRows
import Derived.Test.YthmpggefmjeoeaaGreatDoorCards
import Derived.Test.YthmpggefmjeoeaaGreatDoorTie
import Derived.Deep.DeepHandedRow
import Derived.Deep.DeepLaidRun
import Derived.JoinedCond
import Derived.Lib.LaidU8
import Derived.Test.YthmpggefmjeoeaaGreatDoorZC35D
namespace Go.Proofs.YthmpggefmjeoeaaGreatDoor
open Go.RowKit
set_option maxRecDepth 100000
set_option linter.unusedVariables false
set_option linter.unusedSimpArgs false
def F54 (word : ByteArray) (p1 : Int) (p2 : Int) : Bool :=
  (decide (p1 ≤ (F55 word) ∧ (F55 word) ≤ p2))
def S54 (word : ByteArray) (p1 : Int) (p2 : Int) : Spec := ⟨[.r (.c (.v (.string word))), .rp ([.v (vI p1)]), .rp ([.v (vI p2)])], .v (.bool (F54 word p1 p2)), word.size ≤ 1048576⟩
theorem ok54 (word : ByteArray) (p1 : Int) (p2 : Int) : (S54 word p1 p2).ok Tryz.prog 54 false :=
  fnG_ok mixed (fn := Tryz.f54) (ct := .seq (.no) (.seq (.reg [(1, .call 55 (S55 word) (ok55 word) none), (4, .call 19 (S19 (decide (p1 ≤ (F55 word) ∧ (F55 word) ≤ p2)) (F55 word) p1 p2) ((oa19 (F55 word) p1 p2).to false) none)]) (.no))) Tryz.func54 (fun (hpre0 : word.size ≤ 1048576) => ai (((by omega : word.size ≤ 1048576))) (ai ((Imp.refl (.v (.string word)))) (ai (trivial) (ai ((Imp.refl (.v (vI (F55 word))))) (ai ((Imp.refl (.v (vI p1)))) (ai ((Imp.refl (.v (vI p2)))) ((fun hF : ((decide (p1 ≤ (F55 word) ∧ (F55 word) ≤ p2)) : Bool) = (F54 word p1 p2) => ai (congrArg (fun r : Bool => (.bool r : Value)) hF) (trivial)) (rfl)))))))) (by kernel_rfl)
def F39 (low : Int) (high : Int) : Unit :=
  ()
def S39 (low : Int) (high : Int) : Spec := ⟨[.r (.c (.v (vI low))), .r (.c (.v (vI high)))], .cl 54 [.pt 3 [.v (vI low)], .pt 3 [.v (vI high)]], True⟩
theorem ok39 (low : Int) (high : Int) : (S39 low high).ok Tryz.prog 39 :=
  fnG_ok mixed (fn := Tryz.f39) (ct := .seq (.no) (.seq (.no) (.no))) Tryz.func39 (fun (_ : True) => (fun hF : (() : Unit) = (F39 low high) => ai ((Imps.refl [.v (vI low)])) (ai ((Imps.refl [.v (vI high)])) (trivial))) (rfl)) (by kernel_rfl)
def F58 (word : ByteArray) (p1 : List ByteArray) : Bool :=
  (F59 p1 word)
def S58 (word : ByteArray) (p1 : List ByteArray) : Spec := ⟨[.r (.c (.v (.string word))), .rp ([.l 1 eStr p1])], .v (.bool (F58 word p1)), word.size ≤ 1048576⟩
theorem ok58 (word : ByteArray) (p1 : List ByteArray) : (S58 word p1).ok Tryz.prog 58 :=
  fnG_ok mixed (fn := Tryz.f58) (ct := .seq (.no) (.seq (.reg [(2, .call 59 (S59 p1 word) (ok59 p1 word) none)]) (.no))) Tryz.func58 (fun (hpre0 : word.size ≤ 1048576) => ai (trivial) (ai ((Imp.refl (.l 1 eStr p1))) (ai ((Imp.refl (.v (.string word)))) ((fun hF : ((F59 p1 word) : Bool) = (F58 word p1) => ai (congrArg (fun r : Bool => (.bool r : Value)) hF) (trivial)) (rfl))))) (by kernel_rfl)
def F43 (words : List ByteArray) : Unit :=
  ()
def S43 (words : List ByteArray) : Spec := ⟨[.ow (.l 1 eStr words) none], .cl 58 [.pt 25 [.l 1 eStr words]], True⟩
theorem ok43 (words : List ByteArray) : (S43 words).ok Tryz.prog 43 :=
  fnG_ok mixed (fn := Tryz.f43) (ct := .seq (.no) (.seq (.no) (.no))) Tryz.func43 (fun (_ : True) => (fun hF : (() : Unit) = (F43 words) => ai ((Imps.refl [.l 1 eStr words])) (trivial)) (rfl)) (by kernel_rfl)
structure formR where
  word : ByteArray
  key : Int
  checks : SV
  deriving Inhabited
def eformR (x : formR) : List Dat := [.v (.string x.word), .v (vI x.key), .v (sv x.checks)]
def F46 (f : formR) (p1 : ByteArray) : Bool :=
  (!(f.word.toList == p1.toList))
def S46 (f : formR) (p1 : ByteArray) : Spec := ⟨[.r (.g (eformR f)), .rp ([.v (.string p1)])], .v (.bool (F46 f p1)), True⟩
theorem ok46 (f : formR) (p1 : ByteArray) : (S46 f p1).ok Tryz.prog 46 :=
  fnG_ok mixed (fn := Tryz.f46) (ct := .seq (.no) (.seq (.no) (.no))) Tryz.func46 (fun (_ : True) => (fun hF : ((!(f.word.toList == p1.toList)) : Bool) = (F46 f p1) => ai (congrArg (fun r : Bool => (.bool r : Value)) hF) (trivial)) (rfl)) (by kernel_rfl)
def fs66 (p : formR → Bool) : FnSpec := ⟨formR, fun i => [.g (eformR i)], fun i => .bool (p i)⟩
def F61_s0 (s : List formR) (f : formR → Bool) : Int → Lp Int Int := fun v8 =>
  bif (decide (v8 < (s.length : Int))) then (bif (f (s.getD (Int.toNat v8) default)) then (.ret v8) else (.next (v8 + 1))) else (.done v8)
def F61 (s : List formR) (f : formR → Bool) : Int :=
  (runL (F61_s0 s f) ((Int.toNat ((s.length : Int) - 0)) + 1) 0).fin (fun r => r) (fun v8 => (-1))
def S61 (R : Int) (s : List formR) (f : formR → Bool) : Spec := ⟨[.r (.c (.l 3 eformR s)), .fn (fs66 f)], .v (vI R), True⟩
theorem ok61 (s : List formR) (f : formR → Bool) : (S61 (F61 s f) s f).ok Tryz.prog 61 false :=
  fnG_ok mixed (fn := Tryz.f61) (ct := .seqk [(0, 0)] (.no) (.seq (.seqk [(0, 0)] (.no) (.blk (.loop (ι := Nat × Int) (fun i => (fun (v8 : Int) => (⟨[(0, some (.h 0 0)), (1, some (.h 1 0)), (7, some (.v (vI (s.length : Int)))), (8, some (.v (vI v8)))], [(0, some (.shr none (.l 3 eformR s))), (1, some (.fn (fs66 f)))], 2⟩ : St)) i.2) (fun i => runL (F61_s0 s f) i.1 i.2 = (runL (F61_s0 s f) ((Int.toNat ((s.length : Int) - 0)) + 1) 0) ∧ (fun (v8 : Int) => (Int.toNat ((s.length : Int) - v8) < i.1 ∧ (0 : Int) ≤ v8)) i.2) (fun i => i.1) (((Int.toNat ((s.length : Int) - 0)) + 1), 0) (fun i => (fun (v8 : Int) => (.seq (.no) (.seq (.cond (.no) (.no)) (.seq (.blk (.seq (.no) (.seq (.reg [(5, .fnv (fs66 f) (s.getD (Int.toNat v8) default))]) (.cond (.seq (.no) (.no)) (.no))))) (.reg [(0, .bnd)]))))) i.2)))) (.seq (.no) (.no)))) Tryz.func61 (fun (_ : True) => fun (_ : s.length ≤ 9223372036854775807) => fun (_ : s.length ≤ 9223372036854775807) => ai (ai (rfl) (ai (rfl) (ai ((Imp.refl _)) (ai (rfl) ((ai (rfl : runL (F61_s0 s f) ((Int.toNat ((s.length : Int) - 0)) + 1) 0 = (runL (F61_s0 s f) ((Int.toNat ((s.length : Int) - 0)) + 1) 0)) (ai ((Nat.lt_succ_self _ : Int.toNat ((s.length : Int) - 0) < ((Int.toNat ((s.length : Int) - 0)) + 1))) ((by omega : (0 : Int) ≤ 0)))))))) : ((.int .i64 (s.length : Int) : Value) = .int .i64 (s.length : Int)) ∧ ((.int .i64 0 : Value) = .int .i64 0) ∧ (Imp (.l 3 eformR s) (.l 3 eformR s)) ∧ (fs66 f = fs66 f) ∧ (runL (F61_s0 s f) ((Int.toNat ((s.length : Int) - 0)) + 1) 0 = (runL (F61_s0 s f) ((Int.toNat ((s.length : Int) - 0)) + 1) 0) ∧ Int.toNat ((s.length : Int) - 0) < ((Int.toNat ((s.length : Int) - 0)) + 1) ∧ (0 : Int) ≤ 0)) (fun (i0 : Nat × Int) (hi0 : runL (F61_s0 s f) i0.1 i0.2 = (runL (F61_s0 s f) ((Int.toNat ((s.length : Int) - 0)) + 1) 0) ∧ (fun (v8 : Int) => (Int.toNat ((s.length : Int) - v8) < i0.1 ∧ (0 : Int) ≤ v8)) i0.2) => (fun (m0 : Nat) (v8 : Int) (hI0 : runL (F61_s0 s f) (m0 + 1) v8 = (runL (F61_s0 s f) ((Int.toNat ((s.length : Int) - 0)) + 1) 0)) (_ : Int.toNat ((s.length : Int) - v8) < m0 + 1) (hl0 : m0 < i0.1) (_ : (0 : Int) ≤ v8) => ai (fun h2 : (decide (v8 < (s.length : Int))) = true => (fun _ : v8 < (s.length : Int) => ai ((by omega : 0 ≤ v8 ∧ v8 < (s.length : Int))) (ai ((Eq.refl (fs66 f))) (ai ((Imps.refl (eformR (s.getD (Int.toNat v8) default)))) (ai (fun h3 : (f (s.getD (Int.toNat v8) default)) = true => (fun hF : (v8 : Int) = (F61 s f) => ai (congrArg (fun r : Int => (.int .i64 r : Value)) hF) (trivial)) (finR (runL_ret hI0 (condT h2 (condT h3 (rfl)))) rfl)) (fun h3 : (f (s.getD (Int.toNat v8) default)) = false => ai ((by unfold i64ok; omega : i64ok (v8 + 1))) (Exists.intro (p := fun j : Nat × Int => (fun (v8_ : Int) => (((.int .i64 (s.length : Int) : Value) = .int .i64 (s.length : Int)) ∧ ((.int .i64 (v8 + 1) : Value) = .int .i64 v8_) ∧ (Imp (.l 3 eformR s) (.l 3 eformR s)) ∧ (fs66 f = fs66 f) ∧ ((runL (F61_s0 s f) j.1 j.2 = (runL (F61_s0 s f) ((Int.toNat ((s.length : Int) - 0)) + 1) 0) ∧ Int.toNat ((s.length : Int) - v8_) < j.1 ∧ (0 : Int) ≤ v8_) ∧ j.1 < i0.1))) j.2) (m0, (v8 + 1)) (ai (rfl) (ai (rfl) (ai ((Imp.refl _)) (ai (rfl) (ai (ai (runL_next hI0 (condT h2 (condF h3 (rfl)))) (ai ((by omega : Int.toNat ((s.length : Int) - (v8 + 1)) < m0)) ((by omega : (0 : Int) ≤ (v8 + 1))))) hl0))))))))))) (of_decide_eq_true h2)) (fun h2 : (decide (v8 < (s.length : Int))) = false => (fun _ : ¬ v8 < (s.length : Int) => (fun hD0_4 : (runL (F61_s0 s f) ((Int.toNat ((s.length : Int) - 0)) + 1) 0) = Lp.done v8 => (fun hF : ((-1) : Int) = (F61 s f) => ai (congrArg (fun r : Int => (.int .i64 r : Value)) hF) (trivial)) (finD hD0_4 (rfl))) (runL_done hI0 (condF h2 (rfl)))) (of_decide_eq_false h2))) (i0.1 - 1) i0.2 (hd1 hi0.1 hi0.2.1) (hd2 hi0.2.1) (hd3 hi0.2.1) hi0.2.2)) (by kernel_rfl)
theorem as61 (s : List formR) (f : formR → Bool) : F61 s f = (idxI f s) := by
  exact idx_loop f s (F61_s0 s f) (fun i => rfl)
theorem oa61 (s : List formR) (f : formR → Bool) : (S61 (idxI f s) s f).ok Tryz.prog 61 false := by
  intro hp; have h := ok61 s f hp; rw [as61 s f] at h; exact h
theorem g61_0 (s : List formR) (f : formR → Bool) : (idxI f s) < (s.length : Int) := by
  exact idxI_lt f s
theorem g61_1 (s : List formR) (f : formR → Bool) : -1 ≤ (idxI f s) := by
  (show -1 ≤ idxI f s; unfold idxI; cases first (fun k => f (s.getD k default)) s.length <;> simp only [oix] <;> omega)
def F45_s0 (s : List formR) (del : formR → Bool) : (Int × Int × List formR) → Lp (Int × Int × List formR) (List formR) := fun (i41, j1, xs) =>
  bif (decide (j1 < (xs.length : Int))) then (bif (!(del (xs.getD (Int.toNat j1) default))) then (.next ((i41 + 1), (j1 + 1), (xs.set (i41).toNat (xs.getD (Int.toNat j1) default)))) else (.next (i41, (j1 + 1), xs))) else (.done (i41, j1, xs))
def F45_j0 (s : List formR) (del : formR → Bool) : Lp (List formR × Int) (List formR) :=
  (runL (F45_s0 s del) ((Int.toNat ((s.length : Int) - ((idxI del s) + 1))) + 1) ((idxI del s), ((idxI del s) + 1), s)).fin Lp.ret (fun (i41, j1, xs) => .done (xs, i41))
def F45 (s : List formR) (del : formR → Bool) : List formR :=
  bif ((idxI del s) == (-1)) then s else ((F45_j0 s del).fin (fun r => r) (fun (s1, i40) => ((s1.take (Int.toNat i40) ++ List.replicate (s1.drop (Int.toNat i40)).length ((⟨(⟨#[]⟩ : ByteArray), 0, (⟨none, 0, 0⟩ : SV)⟩ : formR) : formR) ++ s1.drop ((Int.toNat i40) + (s1.drop (Int.toNat i40)).length)).take (Int.toNat i40))))
def S45 (R : List formR) (s : List formR) (del : formR → Bool) : Spec := ⟨[.ow (.l 3 eformR s) none, .fn (fs66 del)], .ow (.l 3 eformR R), s.length ≤ 1000000000⟩
theorem ok45 (s : List formR) (del : formR → Bool) : (S45 (F45 s del) s del).ok Tryz.prog 45 false :=
  fnG_ok mixed (fn := Tryz.f45) (ct := .seqk [(0, 0)] (.no) (.seq (.reg [(2, .call 61 (S61 (idxI del s) s del) (oa61 s del) none)]) (.seq (.seq (.no) (.cond (.seq (.no) (.no)) (.no))) (.cut (ι := List formR × Int) (fun j => (fun (s1 : List formR) (i40 : Int) => (⟨[(0, some (.h 0 0)), (5, some (.v (vI i40)))], [(0, some (.own 0 (.l 3 eformR s1)))], 1⟩ : St)) j.1 j.2) (fun j => (fun (s1 : List formR) (i40 : Int) => ((F45_j0 s del) = Lp.done j ∧ (0 ≤ i40 ∧ i40 ≤ (s1.length : Int)))) j.1 j.2) (.seqk [(0, 0)] (.reg [(1, .bnd)]) (.blk (.loop (ι := Nat × (Int × Int × List formR)) (fun i => (fun (i41 : Int) (j1 : Int) (xs : List formR) => (⟨[(0, some (.h 0 0)), (1, some (.h 1 0)), (5, some (.v (vI i41))), (6, some (.v (vI j1)))], [(0, some (.own 0 (.l 3 eformR xs))), (1, some (.fn (fs66 del)))], 2⟩ : St)) i.2.1 i.2.2.1 i.2.2.2) (fun i => runL (F45_s0 s del) i.1 i.2 = (runL (F45_s0 s del) ((Int.toNat ((s.length : Int) - ((idxI del s) + 1))) + 1) ((idxI del s), ((idxI del s) + 1), s)) ∧ (fun (i41 : Int) (j1 : Int) (xs : List formR) => (Int.toNat ((xs.length : Int) - j1) < i.1 ∧ (0 ≤ i41 ∧ i41 < j1) ∧ j1 ≤ (xs.length : Int) ∧ xs.length ≤ 1000000000 ∧ xs.length = s.length)) i.2.1 i.2.2.1 i.2.2.2) (fun i => i.1) (((Int.toNat ((s.length : Int) - ((idxI del s) + 1))) + 1), ((idxI del s), ((idxI del s) + 1), s)) (fun i => (fun (i41 : Int) (j1 : Int) (xs : List formR) => (.seq (.seq (.no) (.cond (.no) (.no))) (.seq (.blk (.seq (.no) (.seq (.reg [(2, .fnv (fs66 del) (xs.getD (Int.toNat j1) default))]) (.cond (.seq (.reg [(4, .dat (.l 3 eformR (xs.set (i41).toNat (xs.getD (Int.toNat j1) default))))]) (.reg [(1, .bnd)])) (.no))))) (.reg [(1, .bnd)])))) i.2.1 i.2.2.1 i.2.2.2)))) (fun j => (fun (s1 : List formR) (i40 : Int) => (.seq (.reg [(2, .part), (3, .dat (.l 3 eformR (s1.take (Int.toNat i40) ++ List.replicate (s1.drop (Int.toNat i40)).length ((⟨(⟨#[]⟩ : ByteArray), 0, (⟨none, 0, 0⟩ : SV)⟩ : formR) : formR) ++ s1.drop ((Int.toNat i40) + (s1.drop (Int.toNat i40)).length))))]) (.seq (.reg [(2, .own)]) (.no)))) j.1 j.2))))) Tryz.func45 (fun (hpre0 : s.length ≤ 1000000000) => fun (_ : s.length ≤ 9223372036854775807) => ai (trivial) (ai ((Imp.refl (.l 3 eformR s))) (ai ((Eq.refl (fs66 del))) ((fun gv1 : (idxI del s) < (s.length : Int) => (fun gv2 : -1 ≤ (idxI del s) => ai (fun h3 : ((idxI del s) == (-1)) = true => (fun _ : (idxI del s) = (-1) => (fun hF : (s : List formR) = (F45 s del) => ai (Imp.of_eq (congrArg (fun r : List formR => Dat.l 3 eformR r) hF)) (trivial)) (condT h3 (rfl))) (eq_of_beq h3)) (fun h3 : ((idxI del s) == (-1)) = false => (fun _ : ¬ (idxI del s) = (-1) => ai (ai ((by unfold i64ok; first | omega | (simp only [lens] at * <;> omega) : i64ok ((idxI del s) + 1))) (fun (_ : s.length ≤ 9223372036854775807) => ai (ai (rfl) (ai (rfl) (ai ((Imp.refl _)) (ai (rfl) ((ai (rfl : runL (F45_s0 s del) ((Int.toNat ((s.length : Int) - ((idxI del s) + 1))) + 1) ((idxI del s), ((idxI del s) + 1), s) = (runL (F45_s0 s del) ((Int.toNat ((s.length : Int) - ((idxI del s) + 1))) + 1) ((idxI del s), ((idxI del s) + 1), s))) (ai ((Nat.lt_succ_self _ : Int.toNat ((s.length : Int) - ((idxI del s) + 1)) < ((Int.toNat ((s.length : Int) - ((idxI del s) + 1))) + 1))) (ai ((by first | omega | (simp only [lens] at * <;> omega) : 0 ≤ (idxI del s) ∧ (idxI del s) < ((idxI del s) + 1))) (ai ((by first | omega | (simp only [lens] at * <;> omega) : ((idxI del s) + 1) ≤ (s.length : Int))) (ai ((by first | omega | (simp only [lens] at * <;> omega) : s.length ≤ 1000000000)) ((by first | omega | (simp only [lens] at * <;> omega) : s.length = s.length))))))))))) : ((.int .i64 (idxI del s) : Value) = .int .i64 (idxI del s)) ∧ ((.int .i64 ((idxI del s) + 1) : Value) = .int .i64 ((idxI del s) + 1)) ∧ (Imp (.l 3 eformR s) (.l 3 eformR s)) ∧ (fs66 del = fs66 del) ∧ (runL (F45_s0 s del) ((Int.toNat ((s.length : Int) - ((idxI del s) + 1))) + 1) ((idxI del s), ((idxI del s) + 1), s) = (runL (F45_s0 s del) ((Int.toNat ((s.length : Int) - ((idxI del s) + 1))) + 1) ((idxI del s), ((idxI del s) + 1), s)) ∧ Int.toNat ((s.length : Int) - ((idxI del s) + 1)) < ((Int.toNat ((s.length : Int) - ((idxI del s) + 1))) + 1) ∧ (0 ≤ (idxI del s) ∧ (idxI del s) < ((idxI del s) + 1)) ∧ ((idxI del s) + 1) ≤ (s.length : Int) ∧ s.length ≤ 1000000000 ∧ s.length = s.length)) (fun (i0 : Nat × (Int × Int × List formR)) (hi0 : runL (F45_s0 s del) i0.1 i0.2 = (runL (F45_s0 s del) ((Int.toNat ((s.length : Int) - ((idxI del s) + 1))) + 1) ((idxI del s), ((idxI del s) + 1), s)) ∧ (fun (i41 : Int) (j1 : Int) (xs : List formR) => (Int.toNat ((xs.length : Int) - j1) < i0.1 ∧ (0 ≤ i41 ∧ i41 < j1) ∧ j1 ≤ (xs.length : Int) ∧ xs.length ≤ 1000000000 ∧ xs.length = s.length)) i0.2.1 i0.2.2.1 i0.2.2.2) => (fun (m0 : Nat) (i41 : Int) (j1 : Int) (xs : List formR) (hI0 : runL (F45_s0 s del) (m0 + 1) (i41, j1, xs) = (runL (F45_s0 s del) ((Int.toNat ((s.length : Int) - ((idxI del s) + 1))) + 1) ((idxI del s), ((idxI del s) + 1), s))) (_ : Int.toNat ((xs.length : Int) - j1) < m0 + 1) (hl0 : m0 < i0.1) (_ : 0 ≤ i41 ∧ i41 < j1) (_ : j1 ≤ (xs.length : Int)) (_ : xs.length ≤ 1000000000) (_ : xs.length = s.length) => ai (fun h5 : (decide (j1 < (xs.length : Int))) = true => (fun _ : j1 < (xs.length : Int) => ai ((by first | omega | (simp only [lens] at * <;> omega) : 0 ≤ j1 ∧ j1 < (xs.length : Int))) (ai ((Eq.refl (fs66 del))) (ai ((Imps.refl (eformR (xs.getD (Int.toNat j1) default)))) (ai (fun h6 : (!(del (xs.getD (Int.toNat j1) default))) = true => (fun _ : (del (xs.getD (Int.toNat j1) default)) = false => ai ((by first | omega | (simp only [lens] at * <;> omega) : 0 ≤ i41 ∧ i41 < (xs.length : Int))) (ai ((SetOK.mk eformR xs (xs.getD (Int.toNat j1) default) rfl (by exact ai (Imp.refl _) (ai (Imp.refl _) (ai (Imp.refl _) (trivial)))) : SetOK (.l 3 eformR xs) (i41).toNat (eformR (xs.getD (Int.toNat i41) default)) [.v (.string ((xs.getD (Int.toNat j1) default).word)), .v (vI ((xs.getD (Int.toNat j1) default).key)), .v (sv ((xs.getD (Int.toNat j1) default).checks))] (.l 3 eformR (xs.set (i41).toNat (xs.getD (Int.toNat j1) default))))) (ai ((by unfold i64ok; first | omega | (simp only [lens] at * <;> omega) : i64ok (i41 + 1))) (ai ((by unfold i64ok; first | omega | (simp only [lens] at * <;> omega) : i64ok (j1 + 1))) (Exists.intro (p := fun j : Nat × (Int × Int × List formR) => (fun (i41_ : Int) (j1_ : Int) (xs_ : List formR) => (((.int .i64 (i41 + 1) : Value) = .int .i64 i41_) ∧ ((.int .i64 (j1 + 1) : Value) = .int .i64 j1_) ∧ (Imp (.l 3 eformR (xs.set (i41).toNat (xs.getD (Int.toNat j1) default))) (.l 3 eformR xs_)) ∧ (fs66 del = fs66 del) ∧ ((runL (F45_s0 s del) j.1 j.2 = (runL (F45_s0 s del) ((Int.toNat ((s.length : Int) - ((idxI del s) + 1))) + 1) ((idxI del s), ((idxI del s) + 1), s)) ∧ Int.toNat ((xs_.length : Int) - j1_) < j.1 ∧ (0 ≤ i41_ ∧ i41_ < j1_) ∧ j1_ ≤ (xs_.length : Int) ∧ xs_.length ≤ 1000000000 ∧ xs_.length = s.length) ∧ j.1 < i0.1))) j.2.1 j.2.2.1 j.2.2.2) (m0, ((i41 + 1), (j1 + 1), (xs.set (i41).toNat (xs.getD (Int.toNat j1) default)))) (ai (rfl) (ai (rfl) (ai ((Imp.refl _)) (ai (rfl) (ai (ai (runL_next hI0 (condT h5 (condT h6 (rfl)))) (ai ((by first | omega | (simp only [lens] at * <;> omega) : Int.toNat (((xs.set (i41).toNat (xs.getD (Int.toNat j1) default)).length : Int) - (j1 + 1)) < m0)) (ai ((by first | omega | (simp only [lens] at * <;> omega) : 0 ≤ (i41 + 1) ∧ (i41 + 1) < (j1 + 1))) (ai ((by first | omega | (simp only [lens] at * <;> omega) : (j1 + 1) ≤ ((xs.set (i41).toNat (xs.getD (Int.toNat j1) default)).length : Int))) (ai ((by first | omega | (simp only [lens] at * <;> omega) : (xs.set (i41).toNat (xs.getD (Int.toNat j1) default)).length ≤ 1000000000)) ((by first | omega | (simp only [lens] at * <;> omega) : (xs.set (i41).toNat (xs.getD (Int.toNat j1) default)).length = s.length))))))) hl0)))))))))) ((notET h6))) (fun h6 : (!(del (xs.getD (Int.toNat j1) default))) = false => (fun _ : (del (xs.getD (Int.toNat j1) default)) = true => ai ((by unfold i64ok; first | omega | (simp only [lens] at * <;> omega) : i64ok (j1 + 1))) (Exists.intro (p := fun j : Nat × (Int × Int × List formR) => (fun (i41_ : Int) (j1_ : Int) (xs_ : List formR) => (((.int .i64 i41 : Value) = .int .i64 i41_) ∧ ((.int .i64 (j1 + 1) : Value) = .int .i64 j1_) ∧ (Imp (.l 3 eformR xs) (.l 3 eformR xs_)) ∧ (fs66 del = fs66 del) ∧ ((runL (F45_s0 s del) j.1 j.2 = (runL (F45_s0 s del) ((Int.toNat ((s.length : Int) - ((idxI del s) + 1))) + 1) ((idxI del s), ((idxI del s) + 1), s)) ∧ Int.toNat ((xs_.length : Int) - j1_) < j.1 ∧ (0 ≤ i41_ ∧ i41_ < j1_) ∧ j1_ ≤ (xs_.length : Int) ∧ xs_.length ≤ 1000000000 ∧ xs_.length = s.length) ∧ j.1 < i0.1))) j.2.1 j.2.2.1 j.2.2.2) (m0, (i41, (j1 + 1), xs)) (ai (rfl) (ai (rfl) (ai ((Imp.refl _)) (ai (rfl) (ai (ai (runL_next hI0 (condT h5 (condF h6 (rfl)))) (ai ((by first | omega | (simp only [lens] at * <;> omega) : Int.toNat ((xs.length : Int) - (j1 + 1)) < m0)) (ai ((by first | omega | (simp only [lens] at * <;> omega) : 0 ≤ i41 ∧ i41 < (j1 + 1))) (ai ((by first | omega | (simp only [lens] at * <;> omega) : (j1 + 1) ≤ (xs.length : Int))) (ai ((by first | omega | (simp only [lens] at * <;> omega) : xs.length ≤ 1000000000)) ((by first | omega | (simp only [lens] at * <;> omega) : xs.length = s.length))))))) hl0))))))) ((notEF h6))))))) (of_decide_eq_true h5)) (fun h5 : (decide (j1 < (xs.length : Int))) = false => (fun _ : ¬ j1 < (xs.length : Int) => (fun hD0_7 : (runL (F45_s0 s del) ((Int.toNat ((s.length : Int) - ((idxI del s) + 1))) + 1) ((idxI del s), ((idxI del s) + 1), s)) = Lp.done (i41, j1, xs) => Exists.intro (p := fun j : List formR × Int => (fun (s1_ : List formR) (i40_ : Int) => (((.int .i64 i41 : Value) = .int .i64 i40_) ∧ (Imp (.l 3 eformR xs) (.l 3 eformR s1_)) ∧ (F45_j0 s del) = Lp.done j ∧ (0 ≤ i40_ ∧ i40_ ≤ (s1_.length : Int)))) j.1 j.2) ((xs, i41)) (ai (rfl) (ai ((Imp.refl _)) (ai (Eq.symm (finD hD0_7 (rfl))) ((by first | omega | (simp only [lens] at * <;> omega) : 0 ≤ i41 ∧ i41 ≤ (xs.length : Int))))))) (runL_done hI0 (condF h5 (rfl)))) (of_decide_eq_false h5))) (i0.1 - 1) i0.2.1 i0.2.2.1 i0.2.2.2 (hd1 hi0.1 hi0.2.1) (hd2 hi0.2.1) (hd3 hi0.2.1) hi0.2.2.1 hi0.2.2.2.1 hi0.2.2.2.2.1 hi0.2.2.2.2.2))) (fun (j : List formR × Int) (hj : (fun (s1 : List formR) (i40 : Int) => ((F45_j0 s del) = Lp.done j ∧ (0 ≤ i40 ∧ i40 ≤ (s1.length : Int)))) j.1 j.2) => (fun (s1 : List formR) (i40 : Int) (hJ0_8 : (F45_j0 s del) = Lp.done (s1, i40)) (_ : 0 ≤ i40 ∧ i40 ≤ (s1.length : Int)) => ai ((by first | omega | (simp only [lens] at * <;> omega) : 0 ≤ i40 ∧ i40 ≤ (s1.length : Int) ∧ (s1.length : Int) ≤ (s1.length : Int))) (ai ((ClearOK.mk eformR s1 ((⟨(⟨#[]⟩ : ByteArray), 0, (⟨none, 0, 0⟩ : SV)⟩ : formR) : formR) rfl (fun y e he => by simp only [eformR, List.mem_cons, List.not_mem_nil, or_false] at he; rcases he with rfl | rfl | rfl <;> exact ⟨_, rfl⟩) : ClearOK (.l 3 eformR s1) (Int.toNat i40) (s1.drop (Int.toNat i40)).length 3 [.string (⟨#[]⟩ : ByteArray), .int .i64 0, .slice none 0 0] (.l 3 eformR (s1.take (Int.toNat i40) ++ List.replicate (s1.drop (Int.toNat i40)).length ((⟨(⟨#[]⟩ : ByteArray), 0, (⟨none, 0, 0⟩ : SV)⟩ : formR) : formR) ++ s1.drop ((Int.toNat i40) + (s1.drop (Int.toNat i40)).length))))) (ai ((by first | omega | (simp only [lens] at * <;> omega) : 0 ≤ (0 : Int) ∧ (0 : Int) ≤ i40 ∧ i40 ≤ ((s1.take (Int.toNat i40) ++ List.replicate (s1.drop (Int.toNat i40)).length ((⟨(⟨#[]⟩ : ByteArray), 0, (⟨none, 0, 0⟩ : SV)⟩ : formR) : formR) ++ s1.drop ((Int.toNat i40) + (s1.drop (Int.toNat i40)).length)).length : Int))) ((fun hF : (((s1.take (Int.toNat i40) ++ List.replicate (s1.drop (Int.toNat i40)).length ((⟨(⟨#[]⟩ : ByteArray), 0, (⟨none, 0, 0⟩ : SV)⟩ : formR) : formR) ++ s1.drop ((Int.toNat i40) + (s1.drop (Int.toNat i40)).length)).take (Int.toNat i40)) : List formR) = (F45 s del) => ai (Imp.of_eq (congrArg (fun r : List formR => Dat.l 3 eformR r) hF)) (trivial)) (condF h3 (finD hJ0_8 (rfl))))))) j.1 j.2 hj.1 hj.2)) (beqF h3))) (g61_1 s del)) (g61_0 s del))))) (by kernel_rfl)
theorem as45 (s : List formR) (del : formR → Bool) : F45 s del = (s.filter (fun x => !(del x))) := by
  exact del_loop del s _ (F45_s0 s del) (fun i j xs => rfl)
theorem oa45 (s : List formR) (del : formR → Bool) : (S45 (s.filter (fun x => !(del x))) s del).ok Tryz.prog 45 false := by
  intro hp; have h := ok45 s del hp; rw [as45 s del] at h; exact h
def fsB24 (p : ByteArray → Bool) : FnSpec := ⟨ByteArray, fun i => [.c (.x (BX i 1048576))], fun i => .bool (p i)⟩
def eFn24 (p : ByteArray → Bool) : List Dat := [.x (FnX Tryz.prog (fsB24 p))]
structure form where
  word : ByteArray
  key : Int
  checks : List (ByteArray → Bool)
  deriving Inhabited
def eform (x : form) : List Dat := [.v (.string x.word), .v (vI x.key), .l 1 eFn24 x.checks]
def raw25 (x : Nat → SV) : List formR := [⟨(⟨#[104, 111, 115, 116]⟩ : ByteArray), 1, x 0⟩, ⟨(⟨#[117, 115, 101, 114]⟩ : ByteArray), 2, x 1⟩, ⟨(⟨#[112, 111, 114, 116]⟩ : ByteArray), 2, x 2⟩, ⟨(⟨#[112, 111, 114, 116]⟩ : ByteArray), 2, x 3⟩, ⟨(⟨#[114, 117, 108, 101]⟩ : ByteArray), 3, x 4⟩, ⟨(⟨#[114, 111, 117, 116, 101]⟩ : ByteArray), 3, x 5⟩, ⟨(⟨#[112, 101, 101, 114]⟩ : ByteArray), 2, x 6⟩, ⟨(⟨#[110, 97, 116]⟩ : ByteArray), 1, x 7⟩, ⟨(⟨#[100, 111, 111, 114]⟩ : ByteArray), 3, x 8⟩]
def all25 : List form := [⟨(⟨#[104, 111, 115, 116]⟩ : ByteArray), 1, [(fun x0 => F40 x0)]⟩, ⟨(⟨#[117, 115, 101, 114]⟩ : ByteArray), 2, [(fun x0 => F40 x0), (fun x0 => F41 x0)]⟩, ⟨(⟨#[112, 111, 114, 116]⟩ : ByteArray), 2, [(fun x0 => F54 x0 0 7), (fun x0 => F42 x0)]⟩, ⟨(⟨#[112, 111, 114, 116]⟩ : ByteArray), 2, [(fun x0 => F54 x0 0 7), (fun x0 => F42 x0), (fun x0 => F58 x0 ([(⟨#[105, 110]⟩ : ByteArray)] : List ByteArray)), (fun x0 => F40 x0)]⟩, ⟨(⟨#[114, 117, 108, 101]⟩ : ByteArray), 3, [(fun x0 => F40 x0), (fun x0 => F54 x0 0 99), (fun x0 => F58 x0 ([(⟨#[112, 101, 114, 109, 105, 116]⟩ : ByteArray), (⟨#[100, 101, 110, 121]⟩ : ByteArray)] : List ByteArray)), (fun x0 => F42 x0), (fun x0 => F42 x0), (fun x0 => F54 x0 0 7)]⟩, ⟨(⟨#[114, 111, 117, 116, 101]⟩ : ByteArray), 3, [(fun x0 => F42 x0), (fun x0 => F44 x0)]⟩, ⟨(⟨#[112, 101, 101, 114]⟩ : ByteArray), 2, [(fun x0 => F44 x0), (fun x0 => F54 x0 1 9), (fun x0 => F54 x0 1 999999)]⟩, ⟨(⟨#[110, 97, 116]⟩ : ByteArray), 1, [(fun x0 => F42 x0), (fun x0 => F44 x0), (fun x0 => F54 x0 1 65535), (fun x0 => F54 x0 1 65535)]⟩, ⟨(⟨#[100, 111, 111, 114]⟩ : ByteArray), 3, [(fun x0 => F54 x0 1 7), (fun x0 => F54 x0 1 65535), (fun x0 => F44 x0), (fun x0 => F54 x0 1 65535)]⟩]
def know25 (x : Nat → SV) : List (Value × Dat) := [(sv (x 0), .l 1 eFn24 [(fun x0 => F40 x0)]), (sv (x 1), .l 1 eFn24 [(fun x0 => F40 x0), (fun x0 => F41 x0)]), (sv (x 2), .l 1 eFn24 [(fun x0 => F54 x0 0 7), (fun x0 => F42 x0)]), (sv (x 3), .l 1 eFn24 [(fun x0 => F54 x0 0 7), (fun x0 => F42 x0), (fun x0 => F58 x0 ([(⟨#[105, 110]⟩ : ByteArray)] : List ByteArray)), (fun x0 => F40 x0)]), (sv (x 4), .l 1 eFn24 [(fun x0 => F40 x0), (fun x0 => F54 x0 0 99), (fun x0 => F58 x0 ([(⟨#[112, 101, 114, 109, 105, 116]⟩ : ByteArray), (⟨#[100, 101, 110, 121]⟩ : ByteArray)] : List ByteArray)), (fun x0 => F42 x0), (fun x0 => F42 x0), (fun x0 => F54 x0 0 7)]), (sv (x 5), .l 1 eFn24 [(fun x0 => F42 x0), (fun x0 => F44 x0)]), (sv (x 6), .l 1 eFn24 [(fun x0 => F44 x0), (fun x0 => F54 x0 1 9), (fun x0 => F54 x0 1 999999)]), (sv (x 7), .l 1 eFn24 [(fun x0 => F42 x0), (fun x0 => F44 x0), (fun x0 => F54 x0 1 65535), (fun x0 => F54 x0 1 65535)]), (sv (x 8), .l 1 eFn24 [(fun x0 => F54 x0 1 7), (fun x0 => F54 x0 1 65535), (fun x0 => F44 x0), (fun x0 => F54 x0 1 65535)])]
def fh40 : FnH Tryz.prog := ⟨true, 40, fsB24 (fun x0 => F40 x0), [], rfl, True, fun i => ok_bx (ok40 i)⟩
theorem ca40 : callable Tryz.prog 40 = true := by kernel_rfl
def fh41 : FnH Tryz.prog := ⟨true, 41, fsB24 (fun x0 => F41 x0), [], rfl, True, fun i => ok_bx (ok41 i)⟩
theorem ca41 : callable Tryz.prog 41 = true := by kernel_rfl
def fh42 : FnH Tryz.prog := ⟨false, 42, fsB24 (fun x0 => F42 x0), [], rfl, True, fun i => ok_bx (ok42 i)⟩
theorem ca42 : callable Tryz.prog 42 = true := by kernel_rfl
def fh44 : FnH Tryz.prog := ⟨false, 44, fsB24 (fun x0 => F44 x0), [], rfl, True, fun i => ok_bx (ok44 i)⟩
theorem ca44 : callable Tryz.prog 44 = true := by kernel_rfl
def fh54 (a b : Int) : FnH Tryz.prog := ⟨false, 54, fsB24 (fun x0 => F54 x0 a b), [.rp [.v (vI a)], .rp [.v (vI b)]], rfl, True, fun i => ok_bx (ok54 i a b)⟩
theorem ca54 : callable Tryz.prog 54 = true := by kernel_rfl
def fh58 (l : List ByteArray) : FnH Tryz.prog := ⟨true, 58, fsB24 (fun x0 => F58 x0 l), [.rp [.l 1 eStr l]], rfl, True, fun i => ok_bx (ok58 i l)⟩
theorem ca58 : callable Tryz.prog 58 = true := by kernel_rfl
theorem hk25_0 (word : ByteArray) : HandOK Tryz.prog 45 (fun _ : Unit => (⟨[(1, some (.p 0 0)), (5, some (.h 1 0)), (8, some (.h 2 0))], [(0, some (.box 9 [.v (.string word)])), (1, some (.arr 9 [.v (.string (⟨#[104, 111, 115, 116]⟩ : ByteArray)), .v (vI 1), .h 2 0, .v (.string (⟨#[117, 115, 101, 114]⟩ : ByteArray)), .v (vI 2), .h 3 0, .v (.string (⟨#[112, 111, 114, 116]⟩ : ByteArray)), .v (vI 2), .h 4 0, .v (.string (⟨#[112, 111, 114, 116]⟩ : ByteArray)), .v (vI 2), .h 7 0, .v (.string (⟨#[114, 117, 108, 101]⟩ : ByteArray)), .v (vI 3), .h 12 0, .v (.string (⟨#[114, 111, 117, 116, 101]⟩ : ByteArray)), .v (vI 3), .h 19 0, .v (.string (⟨#[112, 101, 101, 114]⟩ : ByteArray)), .v (vI 2), .h 20 0, .v (.string (⟨#[110, 97, 116]⟩ : ByteArray)), .v (vI 1), .h 25 0, .v (.string (⟨#[100, 111, 111, 114]⟩ : ByteArray)), .v (vI 3), .h 28 0])), (2, some (.arr 1 [.cl 40 []])), (3, some (.arr 2 [.cl 40 [], .cl 41 []])), (4, some (.arr 2 [.cl 54 [.p 5 0, .p 6 0], .cl 42 []])), (5, some (.box 3 [.v (vI 0)])), (6, some (.box 3 [.v (vI 7)])), (7, some (.arr 4 [.cl 54 [.p 8 0, .p 9 0], .cl 42 [], .cl 58 [.p 10 0], .cl 40 []])), (8, some (.box 3 [.v (vI 0)])), (9, some (.box 3 [.v (vI 7)])), (10, some (.box 25 [.h 11 0])), (11, some (.own 11 (.l 1 eStr ([(⟨#[105, 110]⟩ : ByteArray)] : List ByteArray)))), (12, some (.arr 6 [.cl 40 [], .cl 54 [.p 13 0, .p 14 0], .cl 58 [.p 15 0], .cl 42 [], .cl 42 [], .cl 54 [.p 17 0, .p 18 0]])), (13, some (.box 3 [.v (vI 0)])), (14, some (.box 3 [.v (vI 99)])), (15, some (.box 25 [.h 16 0])), (16, some (.own 16 (.l 1 eStr ([(⟨#[112, 101, 114, 109, 105, 116]⟩ : ByteArray), (⟨#[100, 101, 110, 121]⟩ : ByteArray)] : List ByteArray)))), (17, some (.box 3 [.v (vI 0)])), (18, some (.box 3 [.v (vI 7)])), (19, some (.arr 2 [.cl 42 [], .cl 44 []])), (20, some (.arr 3 [.cl 44 [], .cl 54 [.p 21 0, .p 22 0], .cl 54 [.p 23 0, .p 24 0]])), (21, some (.box 3 [.v (vI 1)])), (22, some (.box 3 [.v (vI 9)])), (23, some (.box 3 [.v (vI 1)])), (24, some (.box 3 [.v (vI 999999)])), (25, some (.arr 4 [.cl 42 [], .cl 44 [], .cl 54 [.p 26 0, .p 27 0], .cl 54 [.p 26 0, .p 27 0]])), (26, some (.box 3 [.v (vI 1)])), (27, some (.box 3 [.v (vI 65535)])), (28, some (.arr 4 [.cl 54 [.p 29 0, .p 30 0], .cl 54 [.p 26 0, .p 27 0], .cl 44 [], .cl 54 [.p 26 0, .p 27 0]])), (29, some (.box 3 [.v (vI 1)])), (30, some (.box 3 [.v (vI 7)]))], 31⟩ : St)) (fun _ => True) (fun x : Nat → SV => (⟨[(1, some (.p 0 0)), (5, some (.h 1 0)), (8, some (.h 2 0))], [(0, some (.box 9 [.v (.string word)])), (1, some (.own 1 (.l 3 eformR (raw25 x)))), (2, some (.own 2 (.x (LX (know25 x)))))], 31⟩ : St)) (fun _ => True) := by
  intro ψ IN w0 w a i _ H
  obtain ⟨β, φ, dom, V⟩ := H
  have R := V.rel
  have hall : allMod (fsG ((⟨[(1, some (.p 0 0)), (5, some (.h 1 0)), (8, some (.h 2 0))], [(0, some (.box 9 [.v (.string word)])), (1, some (.arr 9 [.v (.string (⟨#[104, 111, 115, 116]⟩ : ByteArray)), .v (vI 1), .h 2 0, .v (.string (⟨#[117, 115, 101, 114]⟩ : ByteArray)), .v (vI 2), .h 3 0, .v (.string (⟨#[112, 111, 114, 116]⟩ : ByteArray)), .v (vI 2), .h 4 0, .v (.string (⟨#[112, 111, 114, 116]⟩ : ByteArray)), .v (vI 2), .h 7 0, .v (.string (⟨#[114, 117, 108, 101]⟩ : ByteArray)), .v (vI 3), .h 12 0, .v (.string (⟨#[114, 111, 117, 116, 101]⟩ : ByteArray)), .v (vI 3), .h 19 0, .v (.string (⟨#[112, 101, 101, 114]⟩ : ByteArray)), .v (vI 2), .h 20 0, .v (.string (⟨#[110, 97, 116]⟩ : ByteArray)), .v (vI 1), .h 25 0, .v (.string (⟨#[100, 111, 111, 114]⟩ : ByteArray)), .v (vI 3), .h 28 0])), (2, some (.arr 1 [.cl 40 []])), (3, some (.arr 2 [.cl 40 [], .cl 41 []])), (4, some (.arr 2 [.cl 54 [.p 5 0, .p 6 0], .cl 42 []])), (5, some (.box 3 [.v (vI 0)])), (6, some (.box 3 [.v (vI 7)])), (7, some (.arr 4 [.cl 54 [.p 8 0, .p 9 0], .cl 42 [], .cl 58 [.p 10 0], .cl 40 []])), (8, some (.box 3 [.v (vI 0)])), (9, some (.box 3 [.v (vI 7)])), (10, some (.box 25 [.h 11 0])), (11, some (.own 11 (.l 1 eStr ([(⟨#[105, 110]⟩ : ByteArray)] : List ByteArray)))), (12, some (.arr 6 [.cl 40 [], .cl 54 [.p 13 0, .p 14 0], .cl 58 [.p 15 0], .cl 42 [], .cl 42 [], .cl 54 [.p 17 0, .p 18 0]])), (13, some (.box 3 [.v (vI 0)])), (14, some (.box 3 [.v (vI 99)])), (15, some (.box 25 [.h 16 0])), (16, some (.own 16 (.l 1 eStr ([(⟨#[112, 101, 114, 109, 105, 116]⟩ : ByteArray), (⟨#[100, 101, 110, 121]⟩ : ByteArray)] : List ByteArray)))), (17, some (.box 3 [.v (vI 0)])), (18, some (.box 3 [.v (vI 7)])), (19, some (.arr 2 [.cl 42 [], .cl 44 []])), (20, some (.arr 3 [.cl 44 [], .cl 54 [.p 21 0, .p 22 0], .cl 54 [.p 23 0, .p 24 0]])), (21, some (.box 3 [.v (vI 1)])), (22, some (.box 3 [.v (vI 9)])), (23, some (.box 3 [.v (vI 1)])), (24, some (.box 3 [.v (vI 999999)])), (25, some (.arr 4 [.cl 42 [], .cl 44 [], .cl 54 [.p 26 0, .p 27 0], .cl 54 [.p 26 0, .p 27 0]])), (26, some (.box 3 [.v (vI 1)])), (27, some (.box 3 [.v (vI 65535)])), (28, some (.arr 4 [.cl 54 [.p 29 0, .p 30 0], .cl 54 [.p 26 0, .p 27 0], .cl 44 [], .cl 54 [.p 26 0, .p 27 0]])), (29, some (.box 3 [.v (vI 1)])), (30, some (.box 3 [.v (vI 7)]))], 31⟩ : St)).fs) [2, 3, 4, 5, 6, 7, 8, 9, 10, 11, 12, 13, 14, 15, 16, 17, 18, 19, 20, 21, 22, 23, 24, 25, 26, 27, 28, 29, 30] = true := rfl
  have hS : ∀ id ∈ [2, 3, 4, 5, 6, 7, 8, 9, 10, 11, 12, 13, 14, 15, 16, 17, 18, 19, 20, 21, 22, 23, 24, 25, 26, 27, 28, 29, 30], ∀ b ∈ φ id, b ∈ [2, 3, 4, 5, 6, 7, 8, 9, 10, 11, 12, 13, 14, 15, 16, 17, 18, 19, 20, 21, 22, 23, 24, 25, 26, 27, 28, 29, 30].flatMap φ := fun id hid b hb => List.mem_flatMap.2 ⟨id, hid, hb⟩
  have hlt := R.flat_lt (allMod_ok hall)
  have e2 := arr_sv R (show fsG _ 2 = _ from rfl)
  have e3 := arr_sv R (show fsG _ 3 = _ from rfl)
  have e4 := arr_sv R (show fsG _ 4 = _ from rfl)
  have e7 := arr_sv R (show fsG _ 7 = _ from rfl)
  have e12 := arr_sv R (show fsG _ 12 = _ from rfl)
  have e19 := arr_sv R (show fsG _ 19 = _ from rfl)
  have e20 := arr_sv R (show fsG _ 20 = _ from rfl)
  have e25 := arr_sv R (show fsG _ 25 = _ from rfl)
  have e28 := arr_sv R (show fsG _ 28 = _ from rfl)
  have he : ([.v (.string (⟨#[104, 111, 115, 116]⟩ : ByteArray)), .v (vI 1), .v (sv (toSV (β 2 0))), .v (.string (⟨#[117, 115, 101, 114]⟩ : ByteArray)), .v (vI 2), .v (sv (toSV (β 3 0))), .v (.string (⟨#[112, 111, 114, 116]⟩ : ByteArray)), .v (vI 2), .v (sv (toSV (β 4 0))), .v (.string (⟨#[112, 111, 114, 116]⟩ : ByteArray)), .v (vI 2), .v (sv (toSV (β 7 0))), .v (.string (⟨#[114, 117, 108, 101]⟩ : ByteArray)), .v (vI 3), .v (sv (toSV (β 12 0))), .v (.string (⟨#[114, 111, 117, 116, 101]⟩ : ByteArray)), .v (vI 3), .v (sv (toSV (β 19 0))), .v (.string (⟨#[112, 101, 101, 114]⟩ : ByteArray)), .v (vI 2), .v (sv (toSV (β 20 0))), .v (.string (⟨#[110, 97, 116]⟩ : ByteArray)), .v (vI 1), .v (sv (toSV (β 25 0))), .v (.string (⟨#[100, 111, 111, 114]⟩ : ByteArray)), .v (vI 3), .v (sv (toSV (β 28 0)))] : List Dat) = [.v (.string (⟨#[104, 111, 115, 116]⟩ : ByteArray)), .v (vI 1), .v (β 2 0), .v (.string (⟨#[117, 115, 101, 114]⟩ : ByteArray)), .v (vI 2), .v (β 3 0), .v (.string (⟨#[112, 111, 114, 116]⟩ : ByteArray)), .v (vI 2), .v (β 4 0), .v (.string (⟨#[112, 111, 114, 116]⟩ : ByteArray)), .v (vI 2), .v (β 7 0), .v (.string (⟨#[114, 117, 108, 101]⟩ : ByteArray)), .v (vI 3), .v (β 12 0), .v (.string (⟨#[114, 111, 117, 116, 101]⟩ : ByteArray)), .v (vI 3), .v (β 19 0), .v (.string (⟨#[112, 101, 101, 114]⟩ : ByteArray)), .v (vI 2), .v (β 20 0), .v (.string (⟨#[110, 97, 116]⟩ : ByteArray)), .v (vI 1), .v (β 25 0), .v (.string (⟨#[100, 111, 111, 114]⟩ : ByteArray)), .v (vI 3), .v (β 28 0)] := by rw [← e2, ← e3, ← e4, ← e7, ← e12, ← e19, ← e20, ← e25, ← e28]
  refine ⟨fun k => toSV (β (([2, 3, 4, 7, 12, 19, 20, 25, 28] : List Nat).getD k 0) 0), trivial, pack3 (bx := [.string word]) (rest := [2, 3, 4, 5, 6, 7, 8, 9, 10, 11, 12, 13, 14, 15, 16, 17, 18, 19, 20, 21, 22, 23, 24, 25, 26, 27, 28, 29, 30]) V rfl ⟨_, rfl, rfl⟩ hall (by decide) (R.ok 2 _ rfl).1 (arr_own R (show fsG _ 1 = _ from rfl) rfl (by decide) (fun _ => rfl) he) (fun hnd _ => ⟨⟨R.all1 2 0, ?_⟩, hnd, hlt⟩)⟩
  exact ⟨RdV.at_sv e2 (arr_fns R (F := fsB24) (show fsG _ 2 = _ from rfl) rfl (by decide) (fun _ => rfl) (hS 2 (by decide)) ⟨_, _, rfl, cl_none fh40 rfl trivial hlt ca40 rfl, rfl⟩),
    RdV.at_sv e3 (arr_fns R (F := fsB24) (show fsG _ 3 = _ from rfl) rfl (by decide) (fun _ => rfl) (hS 3 (by decide)) ⟨_, _, rfl, cl_none fh40 rfl trivial hlt ca40 rfl, ⟨_, _, rfl, cl_none fh41 rfl trivial hlt ca41 rfl, rfl⟩⟩),
    RdV.at_sv e4 (arr_fns R (F := fsB24) (show fsG _ 4 = _ from rfl) rfl (by decide) (fun _ => rfl) (hS 4 (by decide)) ⟨_, _, rfl, cl_two R (fh54 0 7) (show fsG _ 5 = _ from rfl) (show fsG _ 6 = _ from rfl) rfl trivial (hS 5 (by decide)) (hS 6 (by decide)) hlt ca54 rfl rfl rfl, ⟨_, _, rfl, cl_none fh42 rfl trivial hlt ca42 rfl, rfl⟩⟩),
    RdV.at_sv e7 (arr_fns R (F := fsB24) (show fsG _ 7 = _ from rfl) rfl (by decide) (fun _ => rfl) (hS 7 (by decide)) ⟨_, _, rfl, cl_two R (fh54 0 7) (show fsG _ 8 = _ from rfl) (show fsG _ 9 = _ from rfl) rfl trivial (hS 8 (by decide)) (hS 9 (by decide)) hlt ca54 rfl rfl rfl, ⟨_, _, rfl, cl_none fh42 rfl trivial hlt ca42 rfl, ⟨_, _, rfl, cl_own R (fh58 ([(⟨#[105, 110]⟩ : ByteArray)] : List ByteArray)) (show fsG _ 10 = _ from rfl) (show fsG _ 11 = _ from rfl) rfl trivial (hS 10 (by decide)) (hS 11 (by decide)) hlt ca58 rfl, ⟨_, _, rfl, cl_none fh40 rfl trivial hlt ca40 rfl, rfl⟩⟩⟩⟩),
    RdV.at_sv e12 (arr_fns R (F := fsB24) (show fsG _ 12 = _ from rfl) rfl (by decide) (fun _ => rfl) (hS 12 (by decide)) ⟨_, _, rfl, cl_none fh40 rfl trivial hlt ca40 rfl, ⟨_, _, rfl, cl_two R (fh54 0 99) (show fsG _ 13 = _ from rfl) (show fsG _ 14 = _ from rfl) rfl trivial (hS 13 (by decide)) (hS 14 (by decide)) hlt ca54 rfl rfl rfl, ⟨_, _, rfl, cl_own R (fh58 ([(⟨#[112, 101, 114, 109, 105, 116]⟩ : ByteArray), (⟨#[100, 101, 110, 121]⟩ : ByteArray)] : List ByteArray)) (show fsG _ 15 = _ from rfl) (show fsG _ 16 = _ from rfl) rfl trivial (hS 15 (by decide)) (hS 16 (by decide)) hlt ca58 rfl, ⟨_, _, rfl, cl_none fh42 rfl trivial hlt ca42 rfl, ⟨_, _, rfl, cl_none fh42 rfl trivial hlt ca42 rfl, ⟨_, _, rfl, cl_two R (fh54 0 7) (show fsG _ 17 = _ from rfl) (show fsG _ 18 = _ from rfl) rfl trivial (hS 17 (by decide)) (hS 18 (by decide)) hlt ca54 rfl rfl rfl, rfl⟩⟩⟩⟩⟩⟩),
    RdV.at_sv e19 (arr_fns R (F := fsB24) (show fsG _ 19 = _ from rfl) rfl (by decide) (fun _ => rfl) (hS 19 (by decide)) ⟨_, _, rfl, cl_none fh42 rfl trivial hlt ca42 rfl, ⟨_, _, rfl, cl_none fh44 rfl trivial hlt ca44 rfl, rfl⟩⟩),
    RdV.at_sv e20 (arr_fns R (F := fsB24) (show fsG _ 20 = _ from rfl) rfl (by decide) (fun _ => rfl) (hS 20 (by decide)) ⟨_, _, rfl, cl_none fh44 rfl trivial hlt ca44 rfl, ⟨_, _, rfl, cl_two R (fh54 1 9) (show fsG _ 21 = _ from rfl) (show fsG _ 22 = _ from rfl) rfl trivial (hS 21 (by decide)) (hS 22 (by decide)) hlt ca54 rfl rfl rfl, ⟨_, _, rfl, cl_two R (fh54 1 999999) (show fsG _ 23 = _ from rfl) (show fsG _ 24 = _ from rfl) rfl trivial (hS 23 (by decide)) (hS 24 (by decide)) hlt ca54 rfl rfl rfl, rfl⟩⟩⟩),
    RdV.at_sv e25 (arr_fns R (F := fsB24) (show fsG _ 25 = _ from rfl) rfl (by decide) (fun _ => rfl) (hS 25 (by decide)) ⟨_, _, rfl, cl_none fh42 rfl trivial hlt ca42 rfl, ⟨_, _, rfl, cl_none fh44 rfl trivial hlt ca44 rfl, ⟨_, _, rfl, cl_two R (fh54 1 65535) (show fsG _ 26 = _ from rfl) (show fsG _ 27 = _ from rfl) rfl trivial (hS 26 (by decide)) (hS 27 (by decide)) hlt ca54 rfl rfl rfl, ⟨_, _, rfl, cl_two R (fh54 1 65535) (show fsG _ 26 = _ from rfl) (show fsG _ 27 = _ from rfl) rfl trivial (hS 26 (by decide)) (hS 27 (by decide)) hlt ca54 rfl rfl rfl, rfl⟩⟩⟩⟩),
    RdV.at_sv e28 (arr_fns R (F := fsB24) (show fsG _ 28 = _ from rfl) rfl (by decide) (fun _ => rfl) (hS 28 (by decide)) ⟨_, _, rfl, cl_two R (fh54 1 7) (show fsG _ 29 = _ from rfl) (show fsG _ 30 = _ from rfl) rfl trivial (hS 29 (by decide)) (hS 30 (by decide)) hlt ca54 rfl rfl rfl, ⟨_, _, rfl, cl_two R (fh54 1 65535) (show fsG _ 26 = _ from rfl) (show fsG _ 27 = _ from rfl) rfl trivial (hS 26 (by decide)) (hS 27 (by decide)) hlt ca54 rfl rfl rfl, ⟨_, _, rfl, cl_none fh44 rfl trivial hlt ca44 rfl, ⟨_, _, rfl, cl_two R (fh54 1 65535) (show fsG _ 26 = _ from rfl) (show fsG _ 27 = _ from rfl) rfl trivial (hS 26 (by decide)) (hS 27 (by decide)) hlt ca54 rfl rfl rfl, rfl⟩⟩⟩⟩), trivial⟩
theorem hk25_1 (word : ByteArray) (x : Nat → SV) : HandOK Tryz.prog 45 (fun _ : Unit => (⟨[(2, some (.h 0 0)), (8, some (.h 1 0))], [(0, some (.own 0 (.l 3 eformR ((raw25 x).filter (fun x => !((fun (x0 : formR) => F46 x0 word) x)))))), (1, some (.own 1 (.x (LX (know25 x)))))], 2⟩ : St)) (fun _ => True) (fun _ : Unit => (⟨[(2, some (.h 0 0))], [(0, some (.own 0 (.b (.l 3 eform (all25.filter (fun z => z.word.toList == word.toList))))))], 2⟩ : St)) (fun _ => True) := by
  intro ψ IN w0 w a i _ H
  refine ⟨(), trivial, pack1 rfl rfl rfl (fun v y f g h1 h2 => ?_) H⟩
  have hx : RdAll (fun b => b ∈ f ++ g) w (know25 x) := h2.1.2.mono fun b hb => ⟨List.mem_append_right _ hb, rfl⟩
  have hall : Rel2 (fun (y : formR) (z : form) => y.word = z.word ∧ ∀ cs, RdVs (fun b => b ∈ f ++ g) w (eformR y) cs → RdVs (fun b => b ∈ f ++ g) w (eform z) cs) (raw25 x) all25 := ⟨⟨rfl, row3 hx.1⟩, ⟨rfl, row3 hx.2.1⟩, ⟨rfl, row3 hx.2.2.1⟩, ⟨rfl, row3 hx.2.2.2.1⟩, ⟨rfl, row3 hx.2.2.2.2.1⟩, ⟨rfl, row3 hx.2.2.2.2.2.1⟩, ⟨rfl, row3 hx.2.2.2.2.2.2.1⟩, ⟨rfl, row3 hx.2.2.2.2.2.2.2.1⟩, ⟨rfl, row3 hx.2.2.2.2.2.2.2.2.1⟩, trivial⟩
  refine own_reads h1 (fun b hb => List.mem_append_left _ hb) (Rel2.mono (fun a c h => h.2) (Rel2.filter (fun y z h => ?_) hall))
  simp only [F46, h.1, Bool.not_not]
def F25 (word : ByteArray) : List form :=
  (all25.filter (fun z => z.word.toList == word.toList))
def S25 (word : ByteArray) : Spec := ⟨[.r (.c (.v (.string word)))], .ow (.b (.l 3 eform (F25 word))), True⟩
theorem ok25 (word : ByteArray) : (S25 word).ok Tryz.prog 25 false :=
  fnG_ok mixed (fn := Tryz.f25) (ct := .seq (.no) (.seq (.reg [(0, .call 39 (S39 1 65535) ((ok39 1 65535).to false) none), (1, .call 39 (S39 1 7) ((ok39 1 7).to false) none)]) (.hnd (ι := Unit) (κ := (Nat → SV)) (fun _ => (⟨[(1, some (.p 0 0)), (5, some (.h 1 0)), (8, some (.h 2 0))], [(0, some (.box 9 [.v (.string word)])), (1, some (.arr 9 [.v (.string (⟨#[104, 111, 115, 116]⟩ : ByteArray)), .v (vI 1), .h 2 0, .v (.string (⟨#[117, 115, 101, 114]⟩ : ByteArray)), .v (vI 2), .h 3 0, .v (.string (⟨#[112, 111, 114, 116]⟩ : ByteArray)), .v (vI 2), .h 4 0, .v (.string (⟨#[112, 111, 114, 116]⟩ : ByteArray)), .v (vI 2), .h 7 0, .v (.string (⟨#[114, 117, 108, 101]⟩ : ByteArray)), .v (vI 3), .h 12 0, .v (.string (⟨#[114, 111, 117, 116, 101]⟩ : ByteArray)), .v (vI 3), .h 19 0, .v (.string (⟨#[112, 101, 101, 114]⟩ : ByteArray)), .v (vI 2), .h 20 0, .v (.string (⟨#[110, 97, 116]⟩ : ByteArray)), .v (vI 1), .h 25 0, .v (.string (⟨#[100, 111, 111, 114]⟩ : ByteArray)), .v (vI 3), .h 28 0])), (2, some (.arr 1 [.cl 40 []])), (3, some (.arr 2 [.cl 40 [], .cl 41 []])), (4, some (.arr 2 [.cl 54 [.p 5 0, .p 6 0], .cl 42 []])), (5, some (.box 3 [.v (vI 0)])), (6, some (.box 3 [.v (vI 7)])), (7, some (.arr 4 [.cl 54 [.p 8 0, .p 9 0], .cl 42 [], .cl 58 [.p 10 0], .cl 40 []])), (8, some (.box 3 [.v (vI 0)])), (9, some (.box 3 [.v (vI 7)])), (10, some (.box 25 [.h 11 0])), (11, some (.own 11 (.l 1 eStr ([(⟨#[105, 110]⟩ : ByteArray)] : List ByteArray)))), (12, some (.arr 6 [.cl 40 [], .cl 54 [.p 13 0, .p 14 0], .cl 58 [.p 15 0], .cl 42 [], .cl 42 [], .cl 54 [.p 17 0, .p 18 0]])), (13, some (.box 3 [.v (vI 0)])), (14, some (.box 3 [.v (vI 99)])), (15, some (.box 25 [.h 16 0])), (16, some (.own 16 (.l 1 eStr ([(⟨#[112, 101, 114, 109, 105, 116]⟩ : ByteArray), (⟨#[100, 101, 110, 121]⟩ : ByteArray)] : List ByteArray)))), (17, some (.box 3 [.v (vI 0)])), (18, some (.box 3 [.v (vI 7)])), (19, some (.arr 2 [.cl 42 [], .cl 44 []])), (20, some (.arr 3 [.cl 44 [], .cl 54 [.p 21 0, .p 22 0], .cl 54 [.p 23 0, .p 24 0]])), (21, some (.box 3 [.v (vI 1)])), (22, some (.box 3 [.v (vI 9)])), (23, some (.box 3 [.v (vI 1)])), (24, some (.box 3 [.v (vI 999999)])), (25, some (.arr 4 [.cl 42 [], .cl 44 [], .cl 54 [.p 26 0, .p 27 0], .cl 54 [.p 26 0, .p 27 0]])), (26, some (.box 3 [.v (vI 1)])), (27, some (.box 3 [.v (vI 65535)])), (28, some (.arr 4 [.cl 54 [.p 29 0, .p 30 0], .cl 54 [.p 26 0, .p 27 0], .cl 44 [], .cl 54 [.p 26 0, .p 27 0]])), (29, some (.box 3 [.v (vI 1)])), (30, some (.box 3 [.v (vI 7)]))], 31⟩ : St)) (fun _ => True) (fun (x : Nat → SV) => (⟨[(1, some (.p 0 0)), (5, some (.h 1 0)), (8, some (.h 2 0))], [(0, some (.box 9 [.v (.string word)])), (1, some (.own 1 (.l 3 eformR (raw25 x)))), (2, some (.own 2 (.x (LX (know25 x)))))], 31⟩ : St)) (fun _ => True) (.reg [(4, .call 39 (S39 0 7) ((ok39 0 7).to false) none), (7, .call 39 (S39 0 7) ((ok39 0 7).to false) none), (8, .dat (.l 1 eStr ([(⟨#[105, 110]⟩ : ByteArray)] : List ByteArray))), (9, .call 43 (S43 ([(⟨#[105, 110]⟩ : ByteArray)] : List ByteArray)) ((ok43 ([(⟨#[105, 110]⟩ : ByteArray)] : List ByteArray)).to false) none), (12, .call 39 (S39 0 99) ((ok39 0 99).to false) none), (13, .dat (.l 1 eStr ([(⟨#[112, 101, 114, 109, 105, 116]⟩ : ByteArray), (⟨#[100, 101, 110, 121]⟩ : ByteArray)] : List ByteArray))), (14, .call 43 (S43 ([(⟨#[112, 101, 114, 109, 105, 116]⟩ : ByteArray), (⟨#[100, 101, 110, 121]⟩ : ByteArray)] : List ByteArray)) ((ok43 ([(⟨#[112, 101, 114, 109, 105, 116]⟩ : ByteArray), (⟨#[100, 101, 110, 121]⟩ : ByteArray)] : List ByteArray)).to false) none), (15, .call 39 (S39 0 7) ((ok39 0 7).to false) none), (20, .call 39 (S39 1 9) ((ok39 1 9).to false) none), (21, .call 39 (S39 1 999999) ((ok39 1 999999).to false) none)]) (fun (x : Nat → SV) => .hnd (ι := Unit) (κ := Unit) (fun _ => (⟨[(2, some (.h 0 0)), (8, some (.h 1 0))], [(0, some (.own 0 (.l 3 eformR ((raw25 x).filter (fun x => !((fun (x0 : formR) => F46 x0 word) x)))))), (1, some (.own 1 (.x (LX (know25 x)))))], 2⟩ : St)) (fun _ => True) (fun (_ : Unit) => (⟨[(2, some (.h 0 0))], [(0, some (.own 0 (.b (.l 3 eform (all25.filter (fun z => z.word.toList == word.toList))))))], 2⟩ : St)) (fun _ => True) (.reg [(2, .call 45 (S45 ((raw25 x).filter (fun x => !((fun (x0 : formR) => F46 x0 word) x))) (raw25 x) (fun (x0 : formR) => F46 x0 word)) (oa45 (raw25 x) (fun (x0 : formR) => F46 x0 word)) (some ⟨true, 46, fs66 (fun (x0 : formR) => F46 x0 word), [.rp ([.v (.string word)])], rfl, True, fun i => (ok46 i word)⟩))]) (fun (_ : Unit) => .no))))) Tryz.func25 (fun (_ : True) => ai (trivial) (ai ((Imp.refl (.v (vI 1)))) (ai ((Imp.refl (.v (vI 65535)))) (ai (trivial) (ai ((Imp.refl (.v (vI 1)))) (ai ((Imp.refl (.v (vI 7)))) (ai (ai (trivial) (ai ((Imp.refl (.v (vI 0)))) (ai ((Imp.refl (.v (vI 7)))) (ai (trivial) (ai ((Imp.refl (.v (vI 0)))) (ai ((Imp.refl (.v (vI 7)))) (ai ((BuildOK.mk eStr ([(⟨#[105, 110]⟩ : ByteArray)] : List ByteArray) rfl (by exact ai (Imp.refl _) (trivial)) (fun _ => rfl) : BuildOK 1 1 [.v (.string (⟨#[105, 110]⟩ : ByteArray))] (.l 1 eStr ([(⟨#[105, 110]⟩ : ByteArray)] : List ByteArray)))) (ai (trivial) (ai ((Imp.refl (.l 1 eStr ([(⟨#[105, 110]⟩ : ByteArray)] : List ByteArray)))) (ai (trivial) (ai ((Imp.refl (.v (vI 0)))) (ai ((Imp.refl (.v (vI 99)))) (ai ((BuildOK.mk eStr ([(⟨#[112, 101, 114, 109, 105, 116]⟩ : ByteArray), (⟨#[100, 101, 110, 121]⟩ : ByteArray)] : List ByteArray) rfl (by exact ai (Imp.refl _) (ai (Imp.refl _) (trivial))) (fun _ => rfl) : BuildOK 2 1 [.v (.string (⟨#[112, 101, 114, 109, 105, 116]⟩ : ByteArray)), .v (.string (⟨#[100, 101, 110, 121]⟩ : ByteArray))] (.l 1 eStr ([(⟨#[112, 101, 114, 109, 105, 116]⟩ : ByteArray), (⟨#[100, 101, 110, 121]⟩ : ByteArray)] : List ByteArray)))) (ai (trivial) (ai ((Imp.refl (.l 1 eStr ([(⟨#[112, 101, 114, 109, 105, 116]⟩ : ByteArray), (⟨#[100, 101, 110, 121]⟩ : ByteArray)] : List ByteArray)))) (ai (trivial) (ai ((Imp.refl (.v (vI 0)))) (ai ((Imp.refl (.v (vI 7)))) (ai (trivial) (ai ((Imp.refl (.v (vI 1)))) (ai ((Imp.refl (.v (vI 9)))) (ai (trivial) (ai ((Imp.refl (.v (vI 1)))) (ai ((Imp.refl (.v (vI 999999)))) (Exists.intro (p := fun (_ : Unit) => ((.string word : Value) = .string word) ∧ ((.string (⟨#[104, 111, 115, 116]⟩ : ByteArray) : Value) = .string (⟨#[104, 111, 115, 116]⟩ : ByteArray)) ∧ ((.int .i64 1 : Value) = .int .i64 1) ∧ ((.string (⟨#[117, 115, 101, 114]⟩ : ByteArray) : Value) = .string (⟨#[117, 115, 101, 114]⟩ : ByteArray)) ∧ ((.int .i64 2 : Value) = .int .i64 2) ∧ ((.string (⟨#[112, 111, 114, 116]⟩ : ByteArray) : Value) = .string (⟨#[112, 111, 114, 116]⟩ : ByteArray)) ∧ ((.int .i64 2 : Value) = .int .i64 2) ∧ ((.string (⟨#[112, 111, 114, 116]⟩ : ByteArray) : Value) = .string (⟨#[112, 111, 114, 116]⟩ : ByteArray)) ∧ ((.int .i64 2 : Value) = .int .i64 2) ∧ ((.string (⟨#[114, 117, 108, 101]⟩ : ByteArray) : Value) = .string (⟨#[114, 117, 108, 101]⟩ : ByteArray)) ∧ ((.int .i64 3 : Value) = .int .i64 3) ∧ ((.string (⟨#[114, 111, 117, 116, 101]⟩ : ByteArray) : Value) = .string (⟨#[114, 111, 117, 116, 101]⟩ : ByteArray)) ∧ ((.int .i64 3 : Value) = .int .i64 3) ∧ ((.string (⟨#[112, 101, 101, 114]⟩ : ByteArray) : Value) = .string (⟨#[112, 101, 101, 114]⟩ : ByteArray)) ∧ ((.int .i64 2 : Value) = .int .i64 2) ∧ ((.string (⟨#[110, 97, 116]⟩ : ByteArray) : Value) = .string (⟨#[110, 97, 116]⟩ : ByteArray)) ∧ ((.int .i64 1 : Value) = .int .i64 1) ∧ ((.string (⟨#[100, 111, 111, 114]⟩ : ByteArray) : Value) = .string (⟨#[100, 111, 111, 114]⟩ : ByteArray)) ∧ ((.int .i64 3 : Value) = .int .i64 3) ∧ ((.int .i64 0 : Value) = .int .i64 0) ∧ ((.int .i64 7 : Value) = .int .i64 7) ∧ ((.int .i64 0 : Value) = .int .i64 0) ∧ ((.int .i64 7 : Value) = .int .i64 7) ∧ (Imp (.l 1 eStr ([(⟨#[105, 110]⟩ : ByteArray)] : List ByteArray)) (.l 1 eStr ([(⟨#[105, 110]⟩ : ByteArray)] : List ByteArray))) ∧ ((.int .i64 0 : Value) = .int .i64 0) ∧ ((.int .i64 99 : Value) = .int .i64 99) ∧ (Imp (.l 1 eStr ([(⟨#[112, 101, 114, 109, 105, 116]⟩ : ByteArray), (⟨#[100, 101, 110, 121]⟩ : ByteArray)] : List ByteArray)) (.l 1 eStr ([(⟨#[112, 101, 114, 109, 105, 116]⟩ : ByteArray), (⟨#[100, 101, 110, 121]⟩ : ByteArray)] : List ByteArray))) ∧ ((.int .i64 0 : Value) = .int .i64 0) ∧ ((.int .i64 7 : Value) = .int .i64 7) ∧ ((.int .i64 1 : Value) = .int .i64 1) ∧ ((.int .i64 9 : Value) = .int .i64 9) ∧ ((.int .i64 1 : Value) = .int .i64 1) ∧ ((.int .i64 999999 : Value) = .int .i64 999999) ∧ ((.int .i64 1 : Value) = .int .i64 1) ∧ ((.int .i64 65535 : Value) = .int .i64 65535) ∧ ((.int .i64 1 : Value) = .int .i64 1) ∧ ((.int .i64 7 : Value) = .int .i64 7) ∧ True) () (ai (rfl) (ai (rfl) (ai (rfl) (ai (rfl) (ai (rfl) (ai (rfl) (ai (rfl) (ai (rfl) (ai (rfl) (ai (rfl) (ai (rfl) (ai (rfl) (ai (rfl) (ai (rfl) (ai (rfl) (ai (rfl) (ai (rfl) (ai (rfl) (ai (rfl) (ai (rfl) (ai (rfl) (ai (rfl) (ai (rfl) (ai ((Imp.refl _)) (ai (rfl) (ai (rfl) (ai ((Imp.refl _)) (ai (rfl) (ai (rfl) (ai (rfl) (ai (rfl) (ai (rfl) (ai (rfl) (ai (rfl) (ai (rfl) (ai (rfl) (ai (rfl) (trivial))))))))))))))))))))))))))))))))))))))))))))))))))))))))))))))) (ai (hk25_0 word) (fun (x : Nat → SV) (_ : True) => ai (ai (((by exact (by decide : (9 : Nat) ≤ 1000000000) : (raw25 x).length ≤ 1000000000))) (ai ((Imp.refl (.l 3 eformR (raw25 x)))) (ai ((Eq.refl (fs66 (fun (x0 : formR) => F46 x0 word)))) (ai (trivial) (ai ((Imps.refl [.v (.string word)])) (Exists.intro (p := fun (_ : Unit) => (Imp (.l 3 eformR ((raw25 x).filter (fun x => !((fun (x0 : formR) => F46 x0 word) x)))) (.l 3 eformR ((raw25 x).filter (fun x => !((fun (x0 : formR) => F46 x0 word) x))))) ∧ (Imp (.x (LX (know25 x))) (.x (LX (know25 x)))) ∧ True) () (ai ((Imp.refl _)) (ai ((Imp.refl _)) (trivial))))))))) (ai (hk25_1 word x) (fun (_ : Unit) (_ : True) => (fun hF : ((all25.filter (fun z => z.word.toList == word.toList)) : List form) = (F25 word) => ai (Imp.of_eq (congrArg (fun r : List form => Dat.b (Dat.l 3 eform r)) hF)) (trivial)) (rfl)))))))))))) (by kernel_rfl)
theorem g25_0 (word : ByteArray) : ∀ k : Nat, ((F25 word).getD k default).checks.length ≤ 6 := by
  have hall : ∀ z ∈ all25, z.checks.length ≤ 6 := by
    intro z hz
    simp only [all25, List.mem_cons, List.not_mem_nil, or_false] at hz
    rcases hz with rfl | rfl | rfl | rfl | rfl | rfl | rfl | rfl | rfl <;> decide
  intro k
  rw [List.getD_eq_getElem?_getD]
  cases h : (F25 word)[k]? with
  | none => exact Nat.zero_le 6
  | some z => exact hall z (List.mem_filter.1 (List.mem_of_getElem? h)).1
def F26_s0 (f : form) (words : List ByteArray) : Int → Lp Int Bool := fun v17 =>
  bif (decide (v17 < (f.checks.length : Int))) then (bif (!((f.checks.getD (Int.toNat v17) default) (words.getD (Int.toNat (v17 + 1)) default))) then (.ret false) else (.next (v17 + 1))) else (.done v17)
def F26 (f : form) (words : List ByteArray) : Bool :=
  bif ((words.length : Int) != ((f.checks.length : Int) + 1)) then false else ((runL (F26_s0 f words) ((Int.toNat ((f.checks.length : Int) - 0)) + 1) 0).fin (fun r => r) (fun v17 => true))
def S26 (f : form) (words : List ByteArray) : Spec := ⟨[.r (.g (eform f)), .r (.c (.l 1 eStr words))], .v (.bool (F26 f words)), f.checks.length ≤ 6 ∧ (∀ k : Nat, (words.getD k default).size ≤ 1048576)⟩
theorem ok26 (f : form) (words : List ByteArray) : (S26 f words).ok Tryz.prog 26 false :=
  fnG_ok mixed (fn := Tryz.f26) (ct := .seqk [(1, 0)] (.no) (.seq (.seq (.reg [(5, .bnd)]) (.cond (.seq (.no) (.no)) (.no))) (.seq (.seqk [(1, 0), (15, 0)] (.no) (.blk (.loop (ι := Nat × Int) (fun i => (fun (v17 : Int) => (⟨[(1, some (.h 0 0)), (15, some (.h 1 0)), (16, some (.v (vI (f.checks.length : Int)))), (17, some (.v (vI v17)))], [(0, some (.shr none (.l 1 eStr words))), (1, some (.shr none (.l 1 eFn24 f.checks)))], 2⟩ : St)) i.2) (fun i => runL (F26_s0 f words) i.1 i.2 = (runL (F26_s0 f words) ((Int.toNat ((f.checks.length : Int) - 0)) + 1) 0) ∧ (fun (v17 : Int) => (Int.toNat ((f.checks.length : Int) - v17) < i.1 ∧ (0 : Int) ≤ v17)) i.2) (fun i => i.1) (((Int.toNat ((f.checks.length : Int) - 0)) + 1), 0) (fun i => (fun (v17 : Int) => (.seq (.no) (.seq (.cond (.no) (.no)) (.seq (.blk (.seq (.no) (.seq (.reg [(3, .bnd), (6, .fnv (fsB24 (f.checks.getD (Int.toNat v17) default)) (words.getD (Int.toNat (v17 + 1)) default))]) (.cond (.seq (.no) (.no)) (.no))))) (.reg [(0, .bnd)]))))) i.2)))) (.seq (.no) (.no))))) Tryz.func26 (fun (hp : f.checks.length ≤ 6 ∧ (∀ k : Nat, (words.getD k default).size ≤ 1048576)) => (fun (hpre0 : f.checks.length ≤ 6) (hpre1 : ∀ k : Nat, (words.getD k default).size ≤ 1048576) => fun (_ : words.length ≤ 9223372036854775807) => ai ((by unfold i64ok; omega : i64ok ((f.checks.length : Int) + 1))) (ai (fun h1 : ((words.length : Int) != ((f.checks.length : Int) + 1)) = true => (fun _ : ¬ (words.length : Int) = ((f.checks.length : Int) + 1) => (fun hF : (false : Bool) = (F26 f words) => ai (congrArg (fun r : Bool => (.bool r : Value)) hF) (trivial)) (condT h1 (rfl))) (bneT h1)) (fun h1 : ((words.length : Int) != ((f.checks.length : Int) + 1)) = false => (fun _ : (words.length : Int) = ((f.checks.length : Int) + 1) => fun (_ : words.length ≤ 9223372036854775807) => fun (_ : f.checks.length ≤ 9223372036854775807) => ai (ai (rfl) (ai (rfl) (ai ((Imp.refl _)) (ai ((Imp.refl _)) ((ai (rfl : runL (F26_s0 f words) ((Int.toNat ((f.checks.length : Int) - 0)) + 1) 0 = (runL (F26_s0 f words) ((Int.toNat ((f.checks.length : Int) - 0)) + 1) 0)) (ai ((Nat.lt_succ_self _ : Int.toNat ((f.checks.length : Int) - 0) < ((Int.toNat ((f.checks.length : Int) - 0)) + 1))) ((by omega : (0 : Int) ≤ 0)))))))) : ((.int .i64 (f.checks.length : Int) : Value) = .int .i64 (f.checks.length : Int)) ∧ ((.int .i64 0 : Value) = .int .i64 0) ∧ (Imp (.l 1 eStr words) (.l 1 eStr words)) ∧ (Imp (.l 1 eFn24 f.checks) (.l 1 eFn24 f.checks)) ∧ (runL (F26_s0 f words) ((Int.toNat ((f.checks.length : Int) - 0)) + 1) 0 = (runL (F26_s0 f words) ((Int.toNat ((f.checks.length : Int) - 0)) + 1) 0) ∧ Int.toNat ((f.checks.length : Int) - 0) < ((Int.toNat ((f.checks.length : Int) - 0)) + 1) ∧ (0 : Int) ≤ 0)) (fun (i0 : Nat × Int) (hi0 : runL (F26_s0 f words) i0.1 i0.2 = (runL (F26_s0 f words) ((Int.toNat ((f.checks.length : Int) - 0)) + 1) 0) ∧ (fun (v17 : Int) => (Int.toNat ((f.checks.length : Int) - v17) < i0.1 ∧ (0 : Int) ≤ v17)) i0.2) => (fun (m0 : Nat) (v17 : Int) (hI0 : runL (F26_s0 f words) (m0 + 1) v17 = (runL (F26_s0 f words) ((Int.toNat ((f.checks.length : Int) - 0)) + 1) 0)) (_ : Int.toNat ((f.checks.length : Int) - v17) < m0 + 1) (hl0 : m0 < i0.1) (_ : (0 : Int) ≤ v17) => ai (fun h3 : (decide (v17 < (f.checks.length : Int))) = true => (fun _ : v17 < (f.checks.length : Int) => ai ((by omega : 0 ≤ v17 ∧ v17 < (f.checks.length : Int))) (ai ((by unfold i64ok; omega : i64ok (v17 + 1))) (ai ((by omega : 0 ≤ (v17 + 1) ∧ (v17 + 1) < (words.length : Int))) (ai ((Eq.refl (FnX Tryz.prog (fsB24 (f.checks.getD (Int.toNat v17) default))))) (ai ((Imp.bx (by first | omega | exact hpre1 _ | (intros; exact Nat.zero_le _) : (words.getD (Int.toNat (v17 + 1)) default).size ≤ 1048576))) (ai (fun h4 : (!((f.checks.getD (Int.toNat v17) default) (words.getD (Int.toNat (v17 + 1)) default))) = true => (fun _ : ((f.checks.getD (Int.toNat v17) default) (words.getD (Int.toNat (v17 + 1)) default)) = false => (fun hF : (false : Bool) = (F26 f words) => ai (congrArg (fun r : Bool => (.bool r : Value)) hF) (trivial)) (condF h1 (finR (runL_ret hI0 (condT h3 (condT h4 (rfl)))) rfl))) ((notET h4))) (fun h4 : (!((f.checks.getD (Int.toNat v17) default) (words.getD (Int.toNat (v17 + 1)) default))) = false => (fun _ : ((f.checks.getD (Int.toNat v17) default) (words.getD (Int.toNat (v17 + 1)) default)) = true => ai ((by unfold i64ok; omega : i64ok (v17 + 1))) (Exists.intro (p := fun j : Nat × Int => (fun (v17_ : Int) => (((.int .i64 (f.checks.length : Int) : Value) = .int .i64 (f.checks.length : Int)) ∧ ((.int .i64 (v17 + 1) : Value) = .int .i64 v17_) ∧ (Imp (.l 1 eStr words) (.l 1 eStr words)) ∧ (Imp (.l 1 eFn24 f.checks) (.l 1 eFn24 f.checks)) ∧ ((runL (F26_s0 f words) j.1 j.2 = (runL (F26_s0 f words) ((Int.toNat ((f.checks.length : Int) - 0)) + 1) 0) ∧ Int.toNat ((f.checks.length : Int) - v17_) < j.1 ∧ (0 : Int) ≤ v17_) ∧ j.1 < i0.1))) j.2) (m0, (v17 + 1)) (ai (rfl) (ai (rfl) (ai ((Imp.refl _)) (ai ((Imp.refl _)) (ai (ai (runL_next hI0 (condT h3 (condF h4 (rfl)))) (ai ((by omega : Int.toNat ((f.checks.length : Int) - (v17 + 1)) < m0)) ((by omega : (0 : Int) ≤ (v17 + 1))))) hl0))))))) ((notEF h4))))))))) (of_decide_eq_true h3)) (fun h3 : (decide (v17 < (f.checks.length : Int))) = false => (fun _ : ¬ v17 < (f.checks.length : Int) => (fun hD0_5 : (runL (F26_s0 f words) ((Int.toNat ((f.checks.length : Int) - 0)) + 1) 0) = Lp.done v17 => (fun hF : (true : Bool) = (F26 f words) => ai (congrArg (fun r : Bool => (.bool r : Value)) hF) (trivial)) (condF h1 (finD hD0_5 (rfl)))) (runL_done hI0 (condF h3 (rfl)))) (of_decide_eq_false h3))) (i0.1 - 1) i0.2 (hd1 hi0.1 hi0.2.1) (hd2 hi0.2.1) (hd3 hi0.2.1) hi0.2.2)) (bneF h1)))) hp.1 hp.2) (by kernel_rfl)
def F10_s0 (words : List ByteArray) : Int → Lp Int (form × Bool) := fun v15 =>
  bif (decide (v15 < ((F25 (words.getD (Int.toNat 0) default)).length : Int))) then (bif (F26 ((F25 (words.getD (Int.toNat 0) default)).getD (Int.toNat v15) default) words) then (.ret (((F25 (words.getD (Int.toNat 0) default)).getD (Int.toNat v15) default), true)) else (.next (v15 + 1))) else (.done v15)
def F10 (words : List ByteArray) : form × Bool :=
  bif ((words.length : Int) == 0) then ((⟨(⟨#[]⟩ : ByteArray), 0, []⟩ : form), false) else ((runL (F10_s0 words) ((Int.toNat (((F25 (words.getD (Int.toNat 0) default)).length : Int) - 0)) + 1) 0).fin (fun r => r) (fun v15 => ((⟨(⟨#[]⟩ : ByteArray), 0, []⟩ : form), false)))
def S10 (words : List ByteArray) : Spec := ⟨[.r (.c (.l 1 eStr words))], .tu [.ag [.v (.string (((F10 words).1).word)), .v (vI (((F10 words).1).key)), .ow .any], .v (.bool ((F10 words).2))], (∀ k : Nat, (words.getD k default).size ≤ 1048576)⟩
theorem ok10 (words : List ByteArray) : (S10 words).ok Tryz.prog 10 false :=
  fnG_ok mixed (fn := Tryz.f10) (ct := .seqk [(0, 0)] (.no) (.seq (.seq (.no) (.cond (.seq (.no) (.no)) (.no))) (.seq (.seqk [(0, 0), (13, 0)] (.reg [(3, .call 25 (S25 (words.getD (Int.toNat 0) default)) (ok25 (words.getD (Int.toNat 0) default)) none)]) (.blk (.loop (ι := Nat × Int) (fun i => (fun (v15 : Int) => (⟨[(0, some (.h 0 0)), (2, some (.p 1 0)), (13, some (.h 2 0)), (14, some (.v (vI ((F25 (words.getD (Int.toNat 0) default)).length : Int)))), (15, some (.v (vI v15)))], [(0, some (.shr none (.l 1 eStr words))), (1, some (.box 32 [.v (.string (⟨#[]⟩ : ByteArray)), .v (vI 0), .v (.slice none 0 0)])), (2, some (.own 2 (.b (.l 3 eform (F25 (words.getD (Int.toNat 0) default))))))], 3⟩ : St)) i.2) (fun i => runL (F10_s0 words) i.1 i.2 = (runL (F10_s0 words) ((Int.toNat (((F25 (words.getD (Int.toNat 0) default)).length : Int) - 0)) + 1) 0) ∧ (fun (v15 : Int) => (Int.toNat (((F25 (words.getD (Int.toNat 0) default)).length : Int) - v15) < i.1 ∧ (0 : Int) ≤ v15)) i.2) (fun i => i.1) (((Int.toNat (((F25 (words.getD (Int.toNat 0) default)).length : Int) - 0)) + 1), 0) (fun i => (fun (v15 : Int) => (.seq (.no) (.seq (.cond (.no) (.no)) (.seq (.blk (.seq (.no) (.seq (.reg [(2, .call 26 (S26 ((F25 (words.getD (Int.toNat 0) default)).getD (Int.toNat v15) default) words) (ok26 ((F25 (words.getD (Int.toNat 0) default)).getD (Int.toNat v15) default) words) none)]) (.cond (.seq (.no) (.no)) (.no))))) (.reg [(0, .bnd)]))))) i.2)))) (.seq (.no) (.no))))) Tryz.func10 (fun (hpre0 : ∀ k : Nat, (words.getD k default).size ≤ 1048576) => fun (_ : words.length ≤ 9223372036854775807) => ai (fun h1 : ((words.length : Int) == 0) = true => (fun _ : (words.length : Int) = 0 => (fun hF : ((⟨(⟨#[]⟩ : ByteArray), 0, []⟩ : form), false) = (F10 words) => ai (congrArg (fun r : form × Bool => (.string r.1.word : Value)) hF) (ai (congrArg (fun r : form × Bool => (.int .i64 r.1.key : Value)) hF) (ai (congrArg (fun r : form × Bool => (.bool r.2 : Value)) hF) (trivial)))) (condT h1 (rfl))) (eq_of_beq h1)) (fun h1 : ((words.length : Int) == 0) = false => (fun _ : ¬ (words.length : Int) = 0 => ai ((by omega : 0 ≤ (0 : Int) ∧ (0 : Int) < (words.length : Int))) (ai (trivial) (ai ((Imp.refl (.v (.string (words.getD (Int.toNat 0) default))))) ((fun gv2 : ∀ k : Nat, ((F25 (words.getD (Int.toNat 0) default)).getD k default).checks.length ≤ 6 => fun (_ : words.length ≤ 9223372036854775807) => fun (_ : (F25 (words.getD (Int.toNat 0) default)).length ≤ 9223372036854775807) => ai (ai (rfl) (ai (rfl) (ai ((Imp.refl _)) (ai (rfl) (ai (rfl) (ai (rfl) (ai ((Imp.refl _)) ((ai (rfl : runL (F10_s0 words) ((Int.toNat (((F25 (words.getD (Int.toNat 0) default)).length : Int) - 0)) + 1) 0 = (runL (F10_s0 words) ((Int.toNat (((F25 (words.getD (Int.toNat 0) default)).length : Int) - 0)) + 1) 0)) (ai ((Nat.lt_succ_self _ : Int.toNat (((F25 (words.getD (Int.toNat 0) default)).length : Int) - 0) < ((Int.toNat (((F25 (words.getD (Int.toNat 0) default)).length : Int) - 0)) + 1))) ((by omega : (0 : Int) ≤ 0))))))))))) : ((.int .i64 ((F25 (words.getD (Int.toNat 0) default)).length : Int) : Value) = .int .i64 ((F25 (words.getD (Int.toNat 0) default)).length : Int)) ∧ ((.int .i64 0 : Value) = .int .i64 0) ∧ (Imp (.l 1 eStr words) (.l 1 eStr words)) ∧ ((.string (⟨#[]⟩ : ByteArray) : Value) = .string (⟨#[]⟩ : ByteArray)) ∧ ((.int .i64 0 : Value) = .int .i64 0) ∧ ((.slice none 0 0 : Value) = .slice none 0 0) ∧ (Imp (.b (.l 3 eform (F25 (words.getD (Int.toNat 0) default)))) (.b (.l 3 eform (F25 (words.getD (Int.toNat 0) default))))) ∧ (runL (F10_s0 words) ((Int.toNat (((F25 (words.getD (Int.toNat 0) default)).length : Int) - 0)) + 1) 0 = (runL (F10_s0 words) ((Int.toNat (((F25 (words.getD (Int.toNat 0) default)).length : Int) - 0)) + 1) 0) ∧ Int.toNat (((F25 (words.getD (Int.toNat 0) default)).length : Int) - 0) < ((Int.toNat (((F25 (words.getD (Int.toNat 0) default)).length : Int) - 0)) + 1) ∧ (0 : Int) ≤ 0)) (fun (i0 : Nat × Int) (hi0 : runL (F10_s0 words) i0.1 i0.2 = (runL (F10_s0 words) ((Int.toNat (((F25 (words.getD (Int.toNat 0) default)).length : Int) - 0)) + 1) 0) ∧ (fun (v15 : Int) => (Int.toNat (((F25 (words.getD (Int.toNat 0) default)).length : Int) - v15) < i0.1 ∧ (0 : Int) ≤ v15)) i0.2) => (fun (m0 : Nat) (v15 : Int) (hI0 : runL (F10_s0 words) (m0 + 1) v15 = (runL (F10_s0 words) ((Int.toNat (((F25 (words.getD (Int.toNat 0) default)).length : Int) - 0)) + 1) 0)) (_ : Int.toNat (((F25 (words.getD (Int.toNat 0) default)).length : Int) - v15) < m0 + 1) (hl0 : m0 < i0.1) (_ : (0 : Int) ≤ v15) => ai (fun h4 : (decide (v15 < ((F25 (words.getD (Int.toNat 0) default)).length : Int))) = true => (fun _ : v15 < ((F25 (words.getD (Int.toNat 0) default)).length : Int) => ai ((by omega : 0 ≤ v15 ∧ v15 < ((F25 (words.getD (Int.toNat 0) default)).length : Int))) (ai ((ai ((by first | omega | exact hpre0 _ | exact gv2 | exact gv2 _ | (intros; exact Nat.zero_le _) : ((F25 (words.getD (Int.toNat 0) default)).getD (Int.toNat v15) default).checks.length ≤ 6)) ((by first | assumption | exact hpre0 _ | exact gv2 | (intros; exact Nat.zero_le _) : ∀ k : Nat, (words.getD k default).size ≤ 1048576)))) (ai ((Imps.refl (eform ((F25 (words.getD (Int.toNat 0) default)).getD (Int.toNat v15) default)))) (ai ((Imp.refl (.l 1 eStr words))) (ai (fun h5 : (F26 ((F25 (words.getD (Int.toNat 0) default)).getD (Int.toNat v15) default) words) = true => (fun hF : (((F25 (words.getD (Int.toNat 0) default)).getD (Int.toNat v15) default), true) = (F10 words) => ai (congrArg (fun r : form × Bool => (.string r.1.word : Value)) hF) (ai (congrArg (fun r : form × Bool => (.int .i64 r.1.key : Value)) hF) (ai (congrArg (fun r : form × Bool => (.bool r.2 : Value)) hF) (trivial)))) (condF h1 (finR (runL_ret hI0 (condT h4 (condT h5 (rfl)))) rfl))) (fun h5 : (F26 ((F25 (words.getD (Int.toNat 0) default)).getD (Int.toNat v15) default) words) = false => ai ((by unfold i64ok; omega : i64ok (v15 + 1))) (Exists.intro (p := fun j : Nat × Int => (fun (v15_ : Int) => (((.int .i64 ((F25 (words.getD (Int.toNat 0) default)).length : Int) : Value) = .int .i64 ((F25 (words.getD (Int.toNat 0) default)).length : Int)) ∧ ((.int .i64 (v15 + 1) : Value) = .int .i64 v15_) ∧ (Imp (.l 1 eStr words) (.l 1 eStr words)) ∧ ((.string (⟨#[]⟩ : ByteArray) : Value) = .string (⟨#[]⟩ : ByteArray)) ∧ ((.int .i64 0 : Value) = .int .i64 0) ∧ ((.slice none 0 0 : Value) = .slice none 0 0) ∧ (Imp (.b (.l 3 eform (F25 (words.getD (Int.toNat 0) default)))) (.b (.l 3 eform (F25 (words.getD (Int.toNat 0) default))))) ∧ ((runL (F10_s0 words) j.1 j.2 = (runL (F10_s0 words) ((Int.toNat (((F25 (words.getD (Int.toNat 0) default)).length : Int) - 0)) + 1) 0) ∧ Int.toNat (((F25 (words.getD (Int.toNat 0) default)).length : Int) - v15_) < j.1 ∧ (0 : Int) ≤ v15_) ∧ j.1 < i0.1))) j.2) (m0, (v15 + 1)) (ai (rfl) (ai (rfl) (ai ((Imp.refl _)) (ai (rfl) (ai (rfl) (ai (rfl) (ai ((Imp.refl _)) (ai (ai (runL_next hI0 (condT h4 (condF h5 (rfl)))) (ai ((by omega : Int.toNat (((F25 (words.getD (Int.toNat 0) default)).length : Int) - (v15 + 1)) < m0)) ((by omega : (0 : Int) ≤ (v15 + 1))))) hl0))))))))))))))) (of_decide_eq_true h4)) (fun h4 : (decide (v15 < ((F25 (words.getD (Int.toNat 0) default)).length : Int))) = false => (fun _ : ¬ v15 < ((F25 (words.getD (Int.toNat 0) default)).length : Int) => (fun hD0_6 : (runL (F10_s0 words) ((Int.toNat (((F25 (words.getD (Int.toNat 0) default)).length : Int) - 0)) + 1) 0) = Lp.done v15 => (fun hF : ((⟨(⟨#[]⟩ : ByteArray), 0, []⟩ : form), false) = (F10 words) => ai (congrArg (fun r : form × Bool => (.string r.1.word : Value)) hF) (ai (congrArg (fun r : form × Bool => (.int .i64 r.1.key : Value)) hF) (ai (congrArg (fun r : form × Bool => (.bool r.2 : Value)) hF) (trivial)))) (condF h1 (finD hD0_6 (rfl)))) (runL_done hI0 (condF h4 (rfl)))) (of_decide_eq_false h4))) (i0.1 - 1) i0.2 (hd1 hi0.1 hi0.2.1) (hd2 hi0.2.1) (hd3 hi0.2.1) hi0.2.2)) (g25_0 (words.getD (Int.toNat 0) default)))))) (beqF h1))) (by kernel_rfl)
end Go.Proofs.YthmpggefmjeoeaaGreatDoor
namespace Go.Proofs.YthmpggefmjeoeaaGreatDoor
open Go.RowKit
set_option maxRecDepth 100000
set_option linter.unusedVariables false
set_option linter.unusedSimpArgs false
theorem find_loop {α ρ τ : Type} [Inhabited α] (xs : List α) (p : α → Bool) (g : α → ρ) (st : Int → Lp Int ρ) (f : ρ → τ) (k : Int → τ) (y : τ) (hk : ∀ i, k i = y)
    (h1 : ∀ i : Nat, i < xs.length → st (i : Int) = bif p (xs.getD i default) then .ret (g (xs.getD i default)) else .next ((i + 1 : Nat) : Int)) (h2 : st (xs.length : Int) = .done (xs.length : Int)) :
    ∀ (m i : Nat), i + m = xs.length → ∀ fuel, m < fuel → (runL st fuel (i : Int)).fin f k = match (xs.drop i).find? p with | some a => f (g a) | none => y
  | m, i, _, 0, hf => absurd hf (Nat.not_lt_zero _)
  | 0, i, h, fuel + 1, hf => by
    have e : i = xs.length := by omega
    subst e
    rw [runL_d _ h2, List.drop_of_length_le (Nat.le_refl _)]
    exact hk _
  | m + 1, i, h, fuel + 1, hf => by
    have hst := h1 i (by omega)
    have hd : xs.drop i = xs.getD i default :: xs.drop (i + 1) := by
      rw [List.drop_eq_getElem_cons (show i < xs.length by omega), List.getD_eq_getElem?_getD, List.getElem?_eq_getElem (show i < xs.length by omega)]; rfl
    rw [hd, List.find?_cons]
    cases hp : p (xs.getD i default) with
    | true => rw [hp, cond_true] at hst; rw [runL_r _ hst]; rfl
    | false =>
      rw [hp, cond_false] at hst
      rw [runL_n _ hst, find_loop xs p g st f k y hk h1 h2 m (i + 1) (by omega) fuel (by omega)]
def chk : List (ByteArray → Bool) → Nat → List ByteArray → Bool
  | [], _, _ => true
  | c :: cs, i, w => c (w.getD i default) && chk cs (i + 1) w
theorem chk_drop (cs : List (ByteArray → Bool)) (w : List ByteArray) : ∀ (m i : Nat), i + m = cs.length → anyF (fun k => !(cs.getD k default) (w.getD (k + 1) default)) i m = !chk (cs.drop i) (i + 1) w
  | 0, i, h => by rw [List.drop_of_length_le (by omega)]; rfl
  | m + 1, i, h => by
    have hd : cs.drop i = cs.getD i default :: cs.drop (i + 1) := by
      rw [List.drop_eq_getElem_cons (show i < cs.length by omega), List.getD_eq_getElem?_getD, List.getElem?_eq_getElem (show i < cs.length by omega)]; rfl
    rw [hd]
    simp only [anyF, chk, Bool.not_and]
    rw [chk_drop cs w m (i + 1) (by omega)]
theorem fits_eq (f : form) (w : List ByteArray) : F26 f w = (decide (w.length = f.checks.length + 1) && chk f.checks 1 w) := by
  unfold F26
  by_cases h : w.length = f.checks.length + 1
  · have h1 : ((w.length : Int) != ((f.checks.length : Int) + 1)) = false := by
      rw [bne_eq_false_iff_eq]; omega
    rw [h1, cond_false, decide_eq_true h, Bool.true_and]
    have := any_loop (F26_s0 f w) f.checks.length (fun k => !(f.checks.getD k default) (w.getD (k + 1) default)) false (fun r => r) true (fun i hi => by
      simp only [F26_s0, decide_eq_true (show (i : Int) < (f.checks.length : Int) by omega), cond_true, Int.toNat_natCast]
      rw [show ((i : Int) + 1).toNat = i + 1 by omega]
      cases (!(f.checks.getD i default) (w.getD (i + 1) default)) <;> rfl) (by
      simp only [F26_s0, decide_eq_false (show ¬ (f.checks.length : Int) < (f.checks.length : Int) by omega), cond_false])
    have h2 := this f.checks.length 0 (by omega) (Int.toNat ((f.checks.length : Int) - 0) + 1) (by omega)
    rw [chk_drop f.checks w f.checks.length 0 (by omega), List.drop_zero] at h2
    refine h2.trans ?_
    cases chk f.checks (0 + 1) w <;> rfl
  · have h1 : ((w.length : Int) != ((f.checks.length : Int) + 1)) = true := by
      rw [bne_iff_ne]; omega
    rw [h1, cond_true, decide_eq_false h, Bool.false_and]
theorem formOf_eq (w : List ByteArray) (hw : w.length ≠ 0) : F10 w = match (F25 (w.getD 0 default)).find? (fun f => F26 f w) with | some f => (f, true) | none => ((⟨(⟨#[]⟩ : ByteArray), 0, []⟩ : form), false) := by
  unfold F10
  have h1 : ((w.length : Int) == 0) = false := by rw [beq_eq_false_iff_ne]; omega
  rw [h1, cond_false]
  have h0 : w.getD (Int.toNat 0) default = w.getD 0 default := rfl
  simp only [h0]
  generalize hx : F25 (w.getD 0 default) = xs
  have := find_loop xs (fun f => F26 f w) (fun f => (f, true)) (F10_s0 w) (fun r => r) (fun _ => ((⟨(⟨#[]⟩ : ByteArray), 0, []⟩ : form), false)) _ (fun _ => rfl) (fun i hi => by
    simp only [F10_s0, h0, hx, decide_eq_true (show (i : Int) < (xs.length : Int) by omega), cond_true, Int.toNat_natCast]
    cases F26 (xs.getD i default) w <;> rfl) (by
    simp only [F10_s0, h0, hx, decide_eq_false (show ¬ (xs.length : Int) < (xs.length : Int) by omega), cond_false]) xs.length 0 (by omega) (Int.toNat ((xs.length : Int) - 0) + 1) (by omega)
  rw [List.drop_zero] at this
  refine Eq.trans this ?_
  cases xs.find? (fun f => F26 f w) <;> rfl
theorem forms_of (l : List UInt8) (x : ByteArray) (h : x.data.toList = l) : F25 x = all25.filter (fun z => z.word.data.toList == l) := by
  unfold F25
  congr 1
  funext z
  rw [byteToList, byteToList, h]
def keyN (l : List UInt8) : Int :=
  if l = [104, 111, 115, 116] then 1 else if l = [117, 115, 101, 114] then 2 else if l = [112, 111, 114, 116] then 2 else if l = [114, 117, 108, 101] then 3 else if l = [114, 111, 117, 116, 101] then 3 else if l = [112, 101, 101, 114] then 2 else if l = [110, 97, 116] then 1 else 3
theorem one_word (x a : ByteArray) : F58 x [a] = (x.toList == a.toList) := by
  unfold F58
  rw [implHas_eq, List.any_cons, List.any_nil, Bool.or_false]
theorem two_words (x a b : ByteArray) : F58 x [a, b] = bif (x.toList == a.toList) then true else (x.toList == b.toList) := by
  unfold F58
  rw [implHas_eq, List.any_cons, List.any_cons, List.any_nil, Bool.or_false]
  cases (x.toList == a.toList) <;> rfl
theorem in_range (x : ByteArray) (lo hi : Int) : F54 x lo hi = decide (lo ≤ F34 x ∧ F34 x ≤ hi) := by
  unfold F54
  rw [number_same]
theorem len_dec (w : List ByteArray) (n : Nat) : ((w.length : Int) == (n : Int)) = decide (w.length = n) := by
  by_cases h : w.length = n
  · rw [decide_eq_true h, beq_iff_eq]; omega
  · rw [decide_eq_false h, beq_eq_false_iff_ne]; omega
theorem form_one (w : List ByteArray) (f : form) (hw : w.length ≠ 0) (h : F25 (w.getD 0 default) = [f]) : (F10 w).2 = F26 f w ∧ ((F10 w).2 = true → (F10 w).1.key = f.key) := by
  rw [formOf_eq w hw, h, List.find?_cons, List.find?_nil]
  cases F26 f w <;> exact ⟨rfl, fun h => by first | rfl | cases h⟩
theorem form_two (w : List ByteArray) (f g : form) (hw : w.length ≠ 0) (h : F25 (w.getD 0 default) = [f, g]) (hk : f.key = g.key) : (F10 w).2 = (F26 f w || F26 g w) ∧ ((F10 w).2 = true → (F10 w).1.key = f.key) := by
  rw [formOf_eq w hw, h, List.find?_cons, List.find?_cons, List.find?_nil]
  cases F26 f w <;> cases F26 g w <;> exact ⟨rfl, fun h => by first | rfl | exact hk.symm | cases h⟩
theorem form_none (w : List ByteArray) (hw : w.length ≠ 0) (h : F25 (w.getD 0 default) = []) : (F10 w).2 = false := by
  rw [formOf_eq w hw, h]; rfl
theorem blit (x : ByteArray) (a : Array UInt8) : (x.toList == (⟨a⟩ : ByteArray).toList) = (x.data.toList == a.toList) := by rw [byteToList, byteToList]
theorem hd00 : (([104, 111, 115, 116] : List UInt8) == ([104, 111, 115, 116] : List UInt8)) = true := by decide
theorem hd10 : (([117, 115, 101, 114] : List UInt8) == ([104, 111, 115, 116] : List UInt8)) = false := by decide
theorem hd11 : (([117, 115, 101, 114] : List UInt8) == ([117, 115, 101, 114] : List UInt8)) = true := by decide
theorem hd20 : (([112, 111, 114, 116] : List UInt8) == ([104, 111, 115, 116] : List UInt8)) = false := by decide
theorem hd21 : (([112, 111, 114, 116] : List UInt8) == ([117, 115, 101, 114] : List UInt8)) = false := by decide
theorem hd22 : (([112, 111, 114, 116] : List UInt8) == ([112, 111, 114, 116] : List UInt8)) = true := by decide
theorem hd30 : (([114, 117, 108, 101] : List UInt8) == ([104, 111, 115, 116] : List UInt8)) = false := by decide
theorem hd31 : (([114, 117, 108, 101] : List UInt8) == ([117, 115, 101, 114] : List UInt8)) = false := by decide
theorem hd32 : (([114, 117, 108, 101] : List UInt8) == ([112, 111, 114, 116] : List UInt8)) = false := by decide
theorem hd33 : (([114, 117, 108, 101] : List UInt8) == ([114, 117, 108, 101] : List UInt8)) = true := by decide
theorem hd40 : (([114, 111, 117, 116, 101] : List UInt8) == ([104, 111, 115, 116] : List UInt8)) = false := by decide
theorem hd41 : (([114, 111, 117, 116, 101] : List UInt8) == ([117, 115, 101, 114] : List UInt8)) = false := by decide
theorem hd42 : (([114, 111, 117, 116, 101] : List UInt8) == ([112, 111, 114, 116] : List UInt8)) = false := by decide
theorem hd43 : (([114, 111, 117, 116, 101] : List UInt8) == ([114, 117, 108, 101] : List UInt8)) = false := by decide
theorem hd44 : (([114, 111, 117, 116, 101] : List UInt8) == ([114, 111, 117, 116, 101] : List UInt8)) = true := by decide
theorem hd50 : (([112, 101, 101, 114] : List UInt8) == ([104, 111, 115, 116] : List UInt8)) = false := by decide
theorem hd51 : (([112, 101, 101, 114] : List UInt8) == ([117, 115, 101, 114] : List UInt8)) = false := by decide
theorem hd52 : (([112, 101, 101, 114] : List UInt8) == ([112, 111, 114, 116] : List UInt8)) = false := by decide
theorem hd53 : (([112, 101, 101, 114] : List UInt8) == ([114, 117, 108, 101] : List UInt8)) = false := by decide
theorem hd54 : (([112, 101, 101, 114] : List UInt8) == ([114, 111, 117, 116, 101] : List UInt8)) = false := by decide
theorem hd55 : (([112, 101, 101, 114] : List UInt8) == ([112, 101, 101, 114] : List UInt8)) = true := by decide
theorem hd60 : (([110, 97, 116] : List UInt8) == ([104, 111, 115, 116] : List UInt8)) = false := by decide
theorem hd61 : (([110, 97, 116] : List UInt8) == ([117, 115, 101, 114] : List UInt8)) = false := by decide
theorem hd62 : (([110, 97, 116] : List UInt8) == ([112, 111, 114, 116] : List UInt8)) = false := by decide
theorem hd63 : (([110, 97, 116] : List UInt8) == ([114, 117, 108, 101] : List UInt8)) = false := by decide
theorem hd64 : (([110, 97, 116] : List UInt8) == ([114, 111, 117, 116, 101] : List UInt8)) = false := by decide
theorem hd65 : (([110, 97, 116] : List UInt8) == ([112, 101, 101, 114] : List UInt8)) = false := by decide
theorem hd66 : (([110, 97, 116] : List UInt8) == ([110, 97, 116] : List UInt8)) = true := by decide
theorem hd70 : (([100, 111, 111, 114] : List UInt8) == ([104, 111, 115, 116] : List UInt8)) = false := by decide
theorem hd71 : (([100, 111, 111, 114] : List UInt8) == ([117, 115, 101, 114] : List UInt8)) = false := by decide
theorem hd72 : (([100, 111, 111, 114] : List UInt8) == ([112, 111, 114, 116] : List UInt8)) = false := by decide
theorem hd73 : (([100, 111, 111, 114] : List UInt8) == ([114, 117, 108, 101] : List UInt8)) = false := by decide
theorem hd74 : (([100, 111, 111, 114] : List UInt8) == ([114, 111, 117, 116, 101] : List UInt8)) = false := by decide
theorem hd75 : (([100, 111, 111, 114] : List UInt8) == ([112, 101, 101, 114] : List UInt8)) = false := by decide
theorem hd76 : (([100, 111, 111, 114] : List UInt8) == ([110, 97, 116] : List UInt8)) = false := by decide
theorem hd77 : (([100, 111, 111, 114] : List UInt8) == ([100, 111, 111, 114] : List UInt8)) = true := by decide
theorem cb1 (a b : Bool) : (bif a then b else false) = (a && b) := by cases a <;> rfl
theorem cb2 (a b : Bool) : (bif a then true else b) = (a || b) := by cases a <;> rfl
theorem form_same (w : List ByteArray) : (F10 w).2 = F7 w ∧ ((F10 w).2 = true → (F10 w).1.key = keyN (w.getD 0 default).data.toList) := by
  by_cases hw : w.length = 0
  · obtain rfl := List.eq_nil_of_length_eq_zero hw
    exact ⟨rfl, fun h => by cases h⟩
  have h0 : ((w.length : Int) == 0) = false := by rw [beq_eq_false_iff_ne]; omega
  have t0 : ∀ k : Nat, w.getD (Int.toNat (k : Int)) default = w.getD k default := fun _ => rfl
  have e0 : w.getD (Int.toNat 0) default = w.getD 0 default := rfl
  have e1 : w.getD (Int.toNat 1) default = w.getD 1 default := rfl
  have e2 : w.getD (Int.toNat 2) default = w.getD 2 default := rfl
  have e3 : w.getD (Int.toNat 3) default = w.getD 3 default := rfl
  have e4 : w.getD (Int.toNat 4) default = w.getD 4 default := rfl
  have e5 : w.getD (Int.toNat 5) default = w.getD 5 default := rfl
  have e6 : w.getD (Int.toNat 6) default = w.getD 6 default := rfl
  have n2 := len_dec w 2
  have n3 := len_dec w 3
  have n4 := len_dec w 4
  have n5 := len_dec w 5
  have n7 := len_dec w 7
  simp only [Int.cast_ofNat_Int] at n2 n3 n4 n5 n7
  have hb : ∀ l : List UInt8, (w.getD 0 default).data.toList = l → (w.getD 0 default).toList = l := fun l h => by rw [byteToList, h]
  have hlit : ∀ l : List UInt8, (⟨l.toArray⟩ : ByteArray).toList = l := fun l => by rw [byteToList]
  unfold F7
  simp only [h0, cond_false, e0, e1, e2, e3, e4, e5, e6, n2, n3, n4, n5, n7]
  rcases Classical.em ((w.getD 0 default).data.toList = [104, 111, 115, 116]) with h | hn0
  · have hF := (forms_of _ _ h).trans (show _ = [all25.getD 0 default] from rfl)
    have f0 : F26 (all25.getD 0 default) w = (decide (w.length = 2) && (F40 (w.getD 1 default) && true)) := fits_eq _ _
    obtain ⟨k1, k2⟩ := form_one w _ hw hF
    refine ⟨?_, fun hh => (k2 hh).trans (by rw [h]; rfl)⟩
    rw [k1, f0]
    simp only [blit, h, hd00, cond_true, cond_false, name_same, isRights_same, isPrefix_same, isAddr_same, in_range, one_word, two_words, cb1, cb2, Bool.and_true, Bool.and_assoc]
  rcases Classical.em ((w.getD 0 default).data.toList = [117, 115, 101, 114]) with h | hn1
  · have hF := (forms_of _ _ h).trans (show _ = [all25.getD 1 default] from rfl)
    have f0 : F26 (all25.getD 1 default) w = (decide (w.length = 3) && (F40 (w.getD 1 default) && (F41 (w.getD 2 default) && true))) := fits_eq _ _
    obtain ⟨k1, k2⟩ := form_one w _ hw hF
    refine ⟨?_, fun hh => (k2 hh).trans (by rw [h]; rfl)⟩
    rw [k1, f0]
    simp only [blit, h, hd10, hd11, cond_true, cond_false, name_same, isRights_same, isPrefix_same, isAddr_same, in_range, one_word, two_words, cb1, cb2, Bool.and_true, Bool.and_assoc]
  rcases Classical.em ((w.getD 0 default).data.toList = [112, 111, 114, 116]) with h | hn2
  · have hF := (forms_of _ _ h).trans (show _ = [all25.getD 2 default, all25.getD 3 default] from rfl)
    have f0 : F26 (all25.getD 2 default) w = (decide (w.length = 3) && (F54 (w.getD 1 default) 0 7 && (F42 (w.getD 2 default) && true))) := fits_eq _ _
    have f1 : F26 (all25.getD 3 default) w = (decide (w.length = 5) && (F54 (w.getD 1 default) 0 7 && (F42 (w.getD 2 default) && (F58 (w.getD 3 default) [(⟨#[105, 110]⟩ : ByteArray)] && (F40 (w.getD 4 default) && true))))) := fits_eq _ _
    obtain ⟨k1, k2⟩ := form_two w _ _ hw hF rfl
    refine ⟨?_, fun hh => (k2 hh).trans (by rw [h]; rfl)⟩
    rw [k1, f0, f1]
    simp only [blit, h, hd20, hd21, hd22, cond_true, cond_false, name_same, isRights_same, isPrefix_same, isAddr_same, in_range, one_word, two_words, cb1, cb2, Bool.and_true, Bool.and_assoc]
    generalize decide (w.length = 3) = a, decide (w.length = 5) = b, decide (0 ≤ F34 (w.getD 1 default) ∧ F34 (w.getD 1 default) ≤ 7) = c, F16 (w.getD 2 default) = d, ((w.getD 3 default).data.toList == [105, 110]) = e, F13 (w.getD 4 default) = g
    cases a <;> cases b <;> cases c <;> cases d <;> cases e <;> cases g <;> rfl
  rcases Classical.em ((w.getD 0 default).data.toList = [114, 117, 108, 101]) with h | hn3
  · have hF := (forms_of _ _ h).trans (show _ = [all25.getD 4 default] from rfl)
    have f0 : F26 (all25.getD 4 default) w = (decide (w.length = 7) && (F40 (w.getD 1 default) && (F54 (w.getD 2 default) 0 99 && (F58 (w.getD 3 default) [(⟨#[112, 101, 114, 109, 105, 116]⟩ : ByteArray), (⟨#[100, 101, 110, 121]⟩ : ByteArray)] && (F42 (w.getD 4 default) && (F42 (w.getD 5 default) && (F54 (w.getD 6 default) 0 7 && true))))))) := fits_eq _ _
    obtain ⟨k1, k2⟩ := form_one w _ hw hF
    refine ⟨?_, fun hh => (k2 hh).trans (by rw [h]; rfl)⟩
    rw [k1, f0]
    simp only [blit, h, hd30, hd31, hd32, hd33, cond_true, cond_false, name_same, isRights_same, isPrefix_same, isAddr_same, in_range, one_word, two_words, cb1, cb2, Bool.and_true, Bool.and_assoc]
  rcases Classical.em ((w.getD 0 default).data.toList = [114, 111, 117, 116, 101]) with h | hn4
  · have hF := (forms_of _ _ h).trans (show _ = [all25.getD 5 default] from rfl)
    have f0 : F26 (all25.getD 5 default) w = (decide (w.length = 3) && (F42 (w.getD 1 default) && (F44 (w.getD 2 default) && true))) := fits_eq _ _
    obtain ⟨k1, k2⟩ := form_one w _ hw hF
    refine ⟨?_, fun hh => (k2 hh).trans (by rw [h]; rfl)⟩
    rw [k1, f0]
    simp only [blit, h, hd40, hd41, hd42, hd43, hd44, cond_true, cond_false, name_same, isRights_same, isPrefix_same, isAddr_same, in_range, one_word, two_words, cb1, cb2, Bool.and_true, Bool.and_assoc]
  rcases Classical.em ((w.getD 0 default).data.toList = [112, 101, 101, 114]) with h | hn5
  · have hF := (forms_of _ _ h).trans (show _ = [all25.getD 6 default] from rfl)
    have f0 : F26 (all25.getD 6 default) w = (decide (w.length = 4) && (F44 (w.getD 1 default) && (F54 (w.getD 2 default) 1 9 && (F54 (w.getD 3 default) 1 999999 && true)))) := fits_eq _ _
    obtain ⟨k1, k2⟩ := form_one w _ hw hF
    refine ⟨?_, fun hh => (k2 hh).trans (by rw [h]; rfl)⟩
    rw [k1, f0]
    simp only [blit, h, hd50, hd51, hd52, hd53, hd54, hd55, cond_true, cond_false, name_same, isRights_same, isPrefix_same, isAddr_same, in_range, one_word, two_words, cb1, cb2, Bool.and_true, Bool.and_assoc]
  rcases Classical.em ((w.getD 0 default).data.toList = [110, 97, 116]) with h | hn6
  · have hF := (forms_of _ _ h).trans (show _ = [all25.getD 7 default] from rfl)
    have f0 : F26 (all25.getD 7 default) w = (decide (w.length = 5) && (F42 (w.getD 1 default) && (F44 (w.getD 2 default) && (F54 (w.getD 3 default) 1 65535 && (F54 (w.getD 4 default) 1 65535 && true))))) := fits_eq _ _
    obtain ⟨k1, k2⟩ := form_one w _ hw hF
    refine ⟨?_, fun hh => (k2 hh).trans (by rw [h]; rfl)⟩
    rw [k1, f0]
    simp only [blit, h, hd60, hd61, hd62, hd63, hd64, hd65, hd66, cond_true, cond_false, name_same, isRights_same, isPrefix_same, isAddr_same, in_range, one_word, two_words, cb1, cb2, Bool.and_true, Bool.and_assoc]
  rcases Classical.em ((w.getD 0 default).data.toList = [100, 111, 111, 114]) with h | hn7
  · have hF := (forms_of _ _ h).trans (show _ = [all25.getD 8 default] from rfl)
    have f0 : F26 (all25.getD 8 default) w = (decide (w.length = 5) && (F54 (w.getD 1 default) 1 7 && (F54 (w.getD 2 default) 1 65535 && (F44 (w.getD 3 default) && (F54 (w.getD 4 default) 1 65535 && true))))) := fits_eq _ _
    obtain ⟨k1, k2⟩ := form_one w _ hw hF
    refine ⟨?_, fun hh => (k2 hh).trans (by rw [h]; rfl)⟩
    rw [k1, f0]
    simp only [blit, h, hd70, hd71, hd72, hd73, hd74, hd75, hd76, hd77, cond_true, cond_false, name_same, isRights_same, isPrefix_same, isAddr_same, in_range, one_word, two_words, cb1, cb2, Bool.and_true, Bool.and_assoc]
  have hF : F25 (w.getD 0 default) = [] := by
    rw [forms_of _ _ rfl, List.filter_eq_nil_iff]
    intro z hz
    simp only [all25, List.mem_cons, List.not_mem_nil, or_false] at hz
    rcases hz with rfl | rfl | rfl | rfl | rfl | rfl | rfl | rfl | rfl
    · exact fun e => hn0 (eq_of_beq e).symm
    · exact fun e => hn1 (eq_of_beq e).symm
    · exact fun e => hn2 (eq_of_beq e).symm
    · exact fun e => hn2 (eq_of_beq e).symm
    · exact fun e => hn3 (eq_of_beq e).symm
    · exact fun e => hn4 (eq_of_beq e).symm
    · exact fun e => hn5 (eq_of_beq e).symm
    · exact fun e => hn6 (eq_of_beq e).symm
    · exact fun e => hn7 (eq_of_beq e).symm
  rw [form_none w hw hF]
  refine ⟨?_, fun h => by cases h⟩
  simp only [blit, beq_eq_false_iff_ne.2 hn0, beq_eq_false_iff_ne.2 hn1, beq_eq_false_iff_ne.2 hn2, beq_eq_false_iff_ne.2 hn3, beq_eq_false_iff_ne.2 hn4, beq_eq_false_iff_ne.2 hn5, beq_eq_false_iff_ne.2 hn6, beq_eq_false_iff_ne.2 hn7, cond_false]
end Go.Proofs.YthmpggefmjeoeaaGreatDoor
namespace Go.Proofs.YthmpggefmjeoeaaGreatDoor
open Go.RowKit
set_option maxRecDepth 100000
set_option linter.unusedVariables false
set_option linter.unusedSimpArgs false
theorem wordsOf_sz (l : List UInt8) (k : Nat) : ((wordsOf l).1.getD k default).size ≤ 24 := by
  unfold wordsOf fitW
  rw [List.getD_eq_getElem?_getD]
  cases h : ((l.all okB) && (decide ((wordsL l).length ≤ 8) && (wordsL l).all fun w => decide (w.length ≤ 24))) with
  | false => rw [cond_false]; exact Nat.zero_le _
  | true =>
    rw [cond_true]
    simp only [Bool.and_eq_true] at h
    have h2 := List.all_eq_true.1 h.2.2
    show ((((wordsL l).map mkB)[k]?).getD default).size ≤ 24
    rw [List.getElem?_map]
    cases hk : (wordsL l)[k]? with
    | none => exact Nat.zero_le _
    | some w => exact of_decide_eq_true (h2 w (List.mem_of_getElem? hk))
theorem words_sz24 (line : ByteArray) (k : Nat) : ((F9 line).1.getD k default).size ≤ 24 := by
  rw [impl_words]; exact wordsOf_sz _ k
theorem words_sz (line : ByteArray) : ∀ k : Nat, ((F9 line).1.getD k default).size ≤ 1048576 := fun k => Nat.le_trans (words_sz24 line k) (by decide)
theorem specwords_len (line : ByteArray) : (F6 line).1.length ≤ 8 := by rw [← words_same]; exact words_len line
theorem specwords_sz (line : ByteArray) : ∀ k : Nat, ((F6 line).1.getD k default).size ≤ 1048576 := by rw [← words_same]; exact words_sz line
theorem joinTail_len (sep : List UInt8) (m : Nat) : ∀ xs : List (List UInt8), (∀ x ∈ xs, x.length ≤ m) → (Lib.joinTail sep xs).length ≤ xs.length * (m + sep.length)
  | [], _ => by simp [Lib.joinTail]
  | x :: xs, h => by
    have h1 := joinTail_len sep m xs fun y hy => h y (List.mem_cons_of_mem _ hy)
    have h2 := h x List.mem_cons_self
    have e : Lib.joinTail sep (x :: xs) = (sep ++ x) ++ Lib.joinTail sep xs := rfl
    rw [e]
    simp only [List.length_append, List.length_cons, Nat.succ_mul]
    omega
theorem join_sz (ws : List ByteArray) (sep : ByteArray) (m : Nat) (h : ∀ k : Nat, (ws.getD k default).size ≤ m) : (joinS ws sep).size ≤ ws.length * (m + sep.size) := by
  have hx : ∀ x ∈ ws.map (·.data.toList), x.length ≤ m := by
    intro x hx
    obtain ⟨w, hw, rfl⟩ := List.mem_map.1 hx
    obtain ⟨k, hk⟩ := List.mem_iff_getElem?.1 hw
    have := h k
    rw [List.getD_eq_getElem?_getD, hk] at this
    exact this
  have e : (joinS ws sep).size = (Lib.join (ws.map (·.data.toList)) sep.data.toList).length := by simp [joinS, ByteArray.size]
  have es : sep.data.toList.length = sep.size := rfl
  rw [e]
  cases ws with
  | nil => simp [Lib.join]
  | cons a t =>
    rw [List.map_cons, Lib.join_cons, List.length_append, List.length_cons, Nat.succ_mul]
    have h1 := joinTail_len sep.data.toList m (t.map (·.data.toList)) fun y hy => hx y (by rw [List.map_cons]; exact List.mem_cons_of_mem _ hy)
    have h2 := hx a.data.toList (by rw [List.map_cons]; exact List.mem_cons_self)
    rw [List.length_map, es] at h1
    omega
theorem join_small (ws : List ByteArray) (sep : ByteArray) (h : ∀ k : Nat, (ws.getD k default).size ≤ 1048576) (hl : ws.length ≤ 8) (hs : sep.size ≤ 1) : (joinS ws sep).size ≤ 140737488355328 := by
  have h1 := join_sz ws sep 1048576 h
  have h2 := Nat.mul_le_mul hl (show 1048576 + sep.size ≤ 1048577 by omega)
  omega
end Go.Proofs.YthmpggefmjeoeaaGreatDoor
namespace Go.Proofs.YthmpggefmjeoeaaGreatDoor
open Go.RowKit
set_option maxRecDepth 100000
set_option linter.unusedVariables false
set_option linter.unusedSimpArgs false
def F11 (elems : List ByteArray) (sep : ByteArray) : ByteArray :=
  joinS elems sep
def S11 (elems : List ByteArray) (sep : ByteArray) : Spec := ⟨[.r (.c (.l 1 eStr elems)), .r (.c (.v (.string sep)))], .v (.string (F11 elems sep)), elems.length ≤ 140737488355328 ∧ (joinS elems sep).size ≤ 140737488355328⟩
theorem ok11 (elems : List ByteArray) (sep : ByteArray) : (S11 elems sep).ok Tryz.prog 11 false :=
  join_ok layJoin layJoinX elems sep
def F5 (line : ByteArray) : ByteArray × Bool :=
  bif (!((F9 line).2)) then ((⟨#[]⟩ : ByteArray), false) else (bif (!((F10 ((F9 line).1)).2)) then ((⟨#[]⟩ : ByteArray), false) else ((F11 ((F9 line).1) (⟨#[32]⟩ : ByteArray)), true))
def S5 (line : ByteArray) : Spec := ⟨[.r (.c (.v (.string line)))], .tu [.v (.string ((F5 line).1)), .v (.bool ((F5 line).2))], line.size ≤ 1048576⟩
theorem ok5 (line : ByteArray) : (S5 line).ok Tryz.prog 5 false :=
  fnG_ok mixed (fn := Tryz.f5) (ct := .seq (.no) (.seq (.reg [(1, .call 9 (S9 line) (ok9 line) none)]) (.seq (.seq (.no) (.cond (.seq (.no) (.no)) (.no))) (.seq (.seq (.reg [(1, .call 10 (S10 ((F9 line).1)) (ok10 ((F9 line).1)) none)]) (.seq (.no) (.cond (.seq (.no) (.no)) (.no)))) (.seq (.reg [(1, .call 11 (S11 ((F9 line).1) (⟨#[32]⟩ : ByteArray)) (ok11 ((F9 line).1) (⟨#[32]⟩ : ByteArray)) none)]) (.no)))))) Tryz.func5 (fun (hpre0 : line.size ≤ 1048576) => ai (((by omega : line.size ≤ 1048576))) (ai ((Imp.refl (.v (.string line)))) ((fun gv1 : (F9 line).1.length ≤ 8 => (fun gv2 : ∀ k : Nat, ((F9 line).1.getD k default).size ≤ 1048576 => ai (fun h3 : (!((F9 line).2)) = true => (fun _ : (F9 line).2 = false => (fun hF : ((⟨#[]⟩ : ByteArray), false) = (F5 line) => ai (congrArg (fun r : ByteArray × Bool => (.string r.1 : Value)) hF) (ai (congrArg (fun r : ByteArray × Bool => (.bool r.2 : Value)) hF) (trivial))) (condT h3 (rfl))) ((notET h3))) (fun h3 : (!((F9 line).2)) = false => (fun _ : (F9 line).2 = true => ai (((by first | assumption | exact gv2 | (intros; exact Nat.zero_le _) : ∀ k : Nat, (((F9 line).1).getD k default).size ≤ 1048576))) (ai ((Imp.refl (.l 1 eStr ((F9 line).1)))) (ai (fun h4 : (!((F10 ((F9 line).1)).2)) = true => (fun _ : (F10 ((F9 line).1)).2 = false => (fun hF : ((⟨#[]⟩ : ByteArray), false) = (F5 line) => ai (congrArg (fun r : ByteArray × Bool => (.string r.1 : Value)) hF) (ai (congrArg (fun r : ByteArray × Bool => (.bool r.2 : Value)) hF) (trivial))) (condF h3 (condT h4 (rfl)))) ((notET h4))) (fun h4 : (!((F10 ((F9 line).1)).2)) = false => (fun _ : (F10 ((F9 line).1)).2 = true => ai ((ai ((by first | omega | exact join_small _ _ (by assumption) (by omega) (by decide) : ((F9 line).1).length ≤ 140737488355328)) ((by first | omega | exact join_small _ _ (by assumption) (by omega) (by decide) : (joinS ((F9 line).1) (⟨#[32]⟩ : ByteArray)).size ≤ 140737488355328)))) (ai ((Imp.refl (.l 1 eStr ((F9 line).1)))) (ai ((Imp.refl (.v (.string (⟨#[32]⟩ : ByteArray))))) ((fun hF : ((F11 ((F9 line).1) (⟨#[32]⟩ : ByteArray)), true) = (F5 line) => ai (congrArg (fun r : ByteArray × Bool => (.string r.1 : Value)) hF) (ai (congrArg (fun r : ByteArray × Bool => (.bool r.2 : Value)) hF) (trivial))) (condF h3 (condF h4 (rfl))))))) ((notEF h4)))))) ((notEF h3)))) (words_sz line)) (words_len line)))) (by kernel_rfl)
def F4 (line : ByteArray) : ByteArray × Bool :=
  bif (bif (!((F6 line).2)) then true else (!(F7 ((F6 line).1)))) then ((⟨#[]⟩ : ByteArray), false) else ((F8 ((F6 line).1) (⟨#[32]⟩ : ByteArray)), true)
def S4 (line : ByteArray) : Spec := ⟨[.r (.c (.v (.string line)))], .tu [.v (.string ((F4 line).1)), .v (.bool ((F4 line).2))], line.size ≤ 1048576⟩
theorem ok4 (line : ByteArray) : (S4 line).ok Tryz.prog 4 :=
  fnG_ok mixed (fn := Tryz.f4) (ct := .seq (.no) (.seq (.reg [(1, .call 6 (S6 line) (ok6 line) none)]) (.seq (.seq (.reg [(4, .call 7 (S7 ((F6 line).1)) (ok7 ((F6 line).1)) none)]) (.cond (.seq (.no) (.no)) (.no))) (.seq (.reg [(1, .call 8 (S8 ((F6 line).1) (⟨#[32]⟩ : ByteArray)) (ok8 ((F6 line).1) (⟨#[32]⟩ : ByteArray)) none)]) (.no))))) Tryz.func4 (fun (hpre0 : line.size ≤ 1048576) => ai (((by omega : line.size ≤ 1048576))) (ai ((Imp.refl (.v (.string line)))) ((fun gv1 : (F6 line).1.length ≤ 8 => (fun gv2 : ∀ k : Nat, ((F6 line).1.getD k default).size ≤ 1048576 => ai ((fun k3 : (!((F6 line).2)) = false => (fun _ : (F6 line).2 = true => ((by first | assumption | exact gv2 | (intros; exact Nat.zero_le _) : ∀ k : Nat, (((F6 line).1).getD k default).size ≤ 1048576))) ((notEF k3)))) (ai ((fun k4 : (!((F6 line).2)) = false => (fun _ : (F6 line).2 = true => (Imp.refl (.l 1 eStr ((F6 line).1)))) ((notEF k4)))) (ai (fun h5 : (bif (!((F6 line).2)) then true else (!(F7 ((F6 line).1)))) = true => (fun hF : ((⟨#[]⟩ : ByteArray), false) = (F4 line) => ai (congrArg (fun r : ByteArray × Bool => (.string r.1 : Value)) hF) (ai (congrArg (fun r : ByteArray × Bool => (.bool r.2 : Value)) hF) (trivial))) (condT h5 (rfl))) (fun h5 : (bif (!((F6 line).2)) then true else (!(F7 ((F6 line).1)))) = false => (fun _ : (F6 line).2 = true => ai ((ai ((by first | assumption | omega | decide : ((F6 line).1).length ≤ 8)) (ai ((by first | assumption | omega | decide : ∀ k : Nat, (((F6 line).1).getD k default).size ≤ 1048576)) ((by first | assumption | omega | decide : (⟨#[32]⟩ : ByteArray).size ≤ 1))))) (ai ((Imp.refl (.l 1 eStr ((F6 line).1)))) (ai ((Imp.refl (.v (.string (⟨#[32]⟩ : ByteArray))))) ((fun hF : ((F8 ((F6 line).1) (⟨#[32]⟩ : ByteArray)), true) = (F4 line) => ai (congrArg (fun r : ByteArray × Bool => (.string r.1 : Value)) hF) (ai (congrArg (fun r : ByteArray × Bool => (.bool r.2 : Value)) hF) (trivial))) (condF h5 (rfl)))))) ((notEF (orF1 h5))))))) (specwords_sz line)) (specwords_len line)))) (by kernel_rfl)
end Go.Proofs.YthmpggefmjeoeaaGreatDoor
namespace Go.Proofs.YthmpggefmjeoeaaGreatDoor
open Go.RowKit
set_option maxRecDepth 100000
set_option linter.unusedVariables false
set_option linter.unusedSimpArgs false
theorem line_same (line : ByteArray) : F5 line = F4 line := by
  unfold F5 F4
  rw [words_same, (form_same _).1, specJoin_eq]
  cases (F6 line).2 <;> cases F7 (F6 line).1 <;> rfl
end Go.Proofs.YthmpggefmjeoeaaGreatDoor
namespace Go.Proofs.YthmpggefmjeoeaaGreatDoor
open Go.RowKit
set_option maxRecDepth 100000
set_option linter.unusedVariables false
set_option linter.unusedSimpArgs false
def F3 (aLine : ByteArray) : Bool :=
  bif (decide ((aLine.size : Int) > 1048576)) then true else (bif (bif (!(((F5 aLine).1).toList == ((F4 aLine).1).toList)) then true else (!((F5 aLine).2 == (F4 aLine).2))) then false else true)
def S3 (aLine : ByteArray) : Spec := ⟨[.r (.c (.v (.string aLine)))], .v (.bool (F3 aLine)), True⟩
theorem ok3 (aLine : ByteArray) : (S3 aLine).ok Tryz.prog 3 false :=
  fnG_ok mixed (fn := Tryz.f3) (ct := .seq (.no) (.seq (.seq (.no) (.cond (.seq (.no) (.no)) (.no))) (.seq (.reg [(1, .call 4 (S4 aLine) ((ok4 aLine).to false) none)]) (.seq (.reg [(1, .call 5 (S5 aLine) (ok5 aLine) none)]) (.seq (.seq (.no) (.cond (.seq (.no) (.no)) (.no))) (.seq (.no) (.no))))))) Tryz.func3 (fun (_ : True) => ai (fun h1 : (decide ((aLine.size : Int) > 1048576)) = true => (fun _ : (aLine.size : Int) > 1048576 => (fun hF : (true : Bool) = (F3 aLine) => ai (congrArg (fun r : Bool => (.bool r : Value)) hF) (trivial)) (condT h1 (rfl))) (of_decide_eq_true h1)) (fun h1 : (decide ((aLine.size : Int) > 1048576)) = false => (fun _ : ¬ (aLine.size : Int) > 1048576 => ai (((by omega : aLine.size ≤ 1048576))) (ai ((Imp.refl (.v (.string aLine)))) (ai (((by omega : aLine.size ≤ 1048576))) (ai ((Imp.refl (.v (.string aLine)))) (ai (fun h2 : (bif (!(((F5 aLine).1).toList == ((F4 aLine).1).toList)) then true else (!((F5 aLine).2 == (F4 aLine).2))) = true => (fun hF : (false : Bool) = (F3 aLine) => ai (congrArg (fun r : Bool => (.bool r : Value)) hF) (trivial)) (condF h1 (condT h2 (rfl)))) (fun h2 : (bif (!(((F5 aLine).1).toList == ((F4 aLine).1).toList)) then true else (!((F5 aLine).2 == (F4 aLine).2))) = false => (fun _ : (!((F5 aLine).2 == (F4 aLine).2)) = false => (fun _ : (!(((F5 aLine).1).toList == ((F4 aLine).1).toList)) = false => (fun hF : (true : Bool) = (F3 aLine) => ai (congrArg (fun r : Bool => (.bool r : Value)) hF) (trivial)) (condF h1 (condF h2 (rfl)))) ((orF1 h2))) ((orF2 h2)))))))) (of_decide_eq_false h1))) (by kernel_rfl)
end Go.Proofs.YthmpggefmjeoeaaGreatDoor
namespace Go.Proofs.YthmpggefmjeoeaaGreatDoor
open Go.RowKit
set_option maxRecDepth 100000
set_option linter.unusedVariables false
set_option linter.unusedSimpArgs false
theorem plain_3 (line : ByteArray) : F3 line = true := by
  unfold F3
  rw [line_same]
  cases (F4 line).2 <;> simp
end Go.Proofs.YthmpggefmjeoeaaGreatDoor
namespace Go.Proofs.YthmpggefmjeoeaaGreatDoor
open Go Go.RowKit Go.ChangeShapes Go.WideShapes Go.ChangeAt
set_option maxRecDepth 100000
set_option linter.unusedVariables false
theorem op_9 : OpD Tryz.prog 9 eStr := OpD.str Tryz.underlying9
theorem own : ownKnob Tryz.prog.godebug = none := by kernel_rfl
theorem cfA : Tryz.prog.inPlace 3 = Rows.fnExactConfLineRow.inPlace := by kernel_rfl
theorem cfB : Tryz.prog.unfollowed 3 = Rows.fnExactConfLineRow.unfollowed := by kernel_rfl
theorem cfC : Tryz.prog.recurses 3 = Rows.fnExactConfLineRow.recurses := by kernel_rfl
theorem cfD : Tryz.prog.varsNamed 3 = Rows.fnExactConfLineRow.named := by kernel_rfl
set_option maxRecDepth 100000 in
def putC (cs : Array Value) : Obj → Obj
  | .cells _ t fz => .cells cs t fz
  | o => o
noncomputable def laidWorld (os : Os) : World :=
  let w := World.holding Tryz.prog os ⟨#[.cells #[.string ⟨#[118, 97, 108, 117, 101, 32, 111, 117, 116, 32, 111, 102, 32, 114, 97, 110, 103, 101]⟩] 116, .cells #[.string ⟨#[105, 110, 118, 97, 108, 105, 100, 32, 115, 121, 110, 116, 97, 120]⟩] 116], #[], []⟩
  { w with heap := (((((((w.heap.modify ((Tryz.prog.globalNamed "math/bits.deBruijn32tab").getD 0) (putC #[(.int .u8 0), (.int .u8 1), (.int .u8 28), (.int .u8 2), (.int .u8 29), (.int .u8 14), (.int .u8 24), (.int .u8 3), (.int .u8 30), (.int .u8 22), (.int .u8 20), (.int .u8 15), (.int .u8 25), (.int .u8 17), (.int .u8 4), (.int .u8 8), (.int .u8 31), (.int .u8 27), (.int .u8 13), (.int .u8 23), (.int .u8 21), (.int .u8 19), (.int .u8 16), (.int .u8 7), (.int .u8 26), (.int .u8 12), (.int .u8 18), (.int .u8 6), (.int .u8 11), (.int .u8 5), (.int .u8 10), (.int .u8 9)])).modify ((Tryz.prog.globalNamed "math/bits.deBruijn64tab").getD 0) (putC #[(.int .u8 0), (.int .u8 1), (.int .u8 56), (.int .u8 2), (.int .u8 57), (.int .u8 49), (.int .u8 28), (.int .u8 3), (.int .u8 61), (.int .u8 58), (.int .u8 42), (.int .u8 50), (.int .u8 38), (.int .u8 29), (.int .u8 17), (.int .u8 4), (.int .u8 62), (.int .u8 47), (.int .u8 59), (.int .u8 36), (.int .u8 45), (.int .u8 43), (.int .u8 51), (.int .u8 22), (.int .u8 53), (.int .u8 39), (.int .u8 33), (.int .u8 30), (.int .u8 24), (.int .u8 18), (.int .u8 12), (.int .u8 5), (.int .u8 63), (.int .u8 55), (.int .u8 48), (.int .u8 27), (.int .u8 60), (.int .u8 41), (.int .u8 37), (.int .u8 16), (.int .u8 46), (.int .u8 35), (.int .u8 44), (.int .u8 21), (.int .u8 52), (.int .u8 32), (.int .u8 23), (.int .u8 11), (.int .u8 54), (.int .u8 26), (.int .u8 40), (.int .u8 15), (.int .u8 34), (.int .u8 20), (.int .u8 31), (.int .u8 10), (.int .u8 25), (.int .u8 14), (.int .u8 19), (.int .u8 9), (.int .u8 13), (.int .u8 8), (.int .u8 7), (.int .u8 6)])).modify ((Tryz.prog.globalNamed "internal/strconv.uint64pow10").getD 0) (putC #[(.int .u64 1), (.int .u64 10), (.int .u64 100), (.int .u64 1000), (.int .u64 10000), (.int .u64 100000), (.int .u64 1000000), (.int .u64 10000000), (.int .u64 100000000), (.int .u64 1000000000), (.int .u64 10000000000), (.int .u64 100000000000), (.int .u64 1000000000000), (.int .u64 10000000000000), (.int .u64 100000000000000), (.int .u64 1000000000000000), (.int .u64 10000000000000000), (.int .u64 100000000000000000), (.int .u64 1000000000000000000), (.int .u64 10000000000000000000)])).modify ((Tryz.prog.globalNamed "unicode/utf8.acceptRanges").getD 0) (putC #[(.int .u8 128), (.int .u8 191), (.int .u8 160), (.int .u8 191), (.int .u8 128), (.int .u8 159), (.int .u8 144), (.int .u8 191), (.int .u8 128), (.int .u8 143), (.int .u8 0), (.int .u8 0), (.int .u8 0), (.int .u8 0), (.int .u8 0), (.int .u8 0), (.int .u8 0), (.int .u8 0), (.int .u8 0), (.int .u8 0), (.int .u8 0), (.int .u8 0), (.int .u8 0), (.int .u8 0), (.int .u8 0), (.int .u8 0), (.int .u8 0), (.int .u8 0), (.int .u8 0), (.int .u8 0), (.int .u8 0), (.int .u8 0)])).modify ((Tryz.prog.globalNamed "strconv.ErrRange").getD 0) (putC #[.iface 114 (.pointer (some ⟨Tryz.prog.low + 0, 0, none⟩))])).modify ((Tryz.prog.globalNamed "strconv.ErrSyntax").getD 0) (putC #[.iface 114 (.pointer (some ⟨Tryz.prog.low + 1, 0, none⟩))])).modify ((Tryz.prog.globalNamed "unicode/utf8.first").getD 0) (putC ((Go.Pinned.utf8FirstZ.map fun n => Value.int .u8 (n : Nat)).toArray))) }
theorem laid_met (os : Os) : laidMet Tryz.prog Rows.fnExactConfLineRow.laid ((laidWorld os).forCall (fun _ _ => 0) ⟨#[], #[.string (⟨#[]⟩ : ByteArray)], []⟩).memory :=
  laidMet_of_run3 8 (by kernel_rfl) (by kernel_rfl) (by kernel_rfl)
theorem reads (os : Os) {H : Type} (enc : TypeId × Value → H) : ∃ places, DataW.whole enc Tryz.prog ((laidWorld os).forCall (fun _ _ => 0) ⟨#[], #[.string (⟨#[]⟩ : ByteArray)], []⟩).memory Tryz.f3.params.toList Rows.fnExactConfLineSpec.vars false #[.string (⟨#[]⟩ : ByteArray)].toList 8 = some ([.lit (.string [])], [], places) :=
  ⟨[], by kernel_rfl⟩
theorem err_laid {W : World} {l : List (String × DataW Unit)} (h : laidMet Tryz.prog l W) {n tn : String} {d : DataW Unit} (hm : (n, .iface tn d) ∈ l) {g : Nat} (hg : Tryz.prog.globalNamed n = some g) (ht : (Tryz.prog.globals[g]?).map (·.type) = some 52) :
    ∃ e, W.cell? ⟨g, 0, none⟩ = some e ∧ (e = .nilIface ∨ ∃ te pe, e = .iface te pe) := by
  obtain ⟨g', t', cs, fuel, p, h1, h2, h3, h4⟩ := Lib.laidMet.reads h hm
  obtain rfl := Option.some.inj (hg.symm.trans h1)
  obtain rfl := Option.some.inj (ht.symm.trans h2)
  have hc : ∀ i, W.cell? ⟨g, i, none⟩ = cs[i]? := fun i => by
    unfold World.var? at h3
    rw [hg] at h3
    simp only [Option.bind_some] at h3
    split at h3
    · rename_i c _ _ hh
      simp only [Option.some.injEq] at h3
      subst h3
      simp [World.cell?, hh]
    · cases h3
  cases fuel with
  | zero => simp [DataW.trod] at h4
  | succ fuel =>
    simp only [DataW.trod, Tryz.underlying52] at h4
    split at h4 <;> first
      | (cases h4; done)
      | (rename_i hcs
         refine ⟨_, (hc 0).trans (by rw [← Array.getElem?_toList, hcs]; rfl), ?_⟩
         first | exact .inl rfl | exact .inr ⟨_, _, rfl⟩)
      | (simp at h4; done)
      | (exfalso; simp_all; done)
theorem lifted (os : Os) (started : os.Started) (H : Type) (enc : TypeId × Value → H) (F : Stop.Interp) :
    ReturnsInHanded {} Tryz.checked os 3 .any ((OpenSpec.ofChange Rows.fnExactConfLineSpec).preRow enc Tryz.prog Tryz.f3 Rows.fnExactConfLineRow.domain false Rows.fnExactConfLineRow.laid) (((OpenSpec.ofChange Rows.fnExactConfLineSpec).at F).post enc Tryz.prog Tryz.f3 false true false false) := by
  obtain ⟨places, hx⟩ := reads os enc
  refine returnsInHanded_of_row (C := Tryz.checked) (s := OpenSpec.ofChange Rows.fnExactConfLineSpec) own started (by kernel_rfl) Tryz.func3
    (witness_row_at (enc := enc) (C := Tryz.checked) false (laidWorld os) #[.string (⟨#[]⟩ : ByteArray)] rfl (by kernel_rfl) (by kernel_rfl) (by kernel_rfl)
      (OpenSpec.preRow_of_cond 8 hx (by kernel_rfl) (fun k hk => by cases hk) (by kernel_rfl) (laid_met os))) ?_
  intro W base args ds gs before hval0 hW hcnd _ _ hL hsh _
  have hL' : laidMet Tryz.prog Rows.fnExactConfLineRow.laid W := by
    have h0 := hL
    unfold laidMetH at h0
    rw [show (Rows.fnExactConfLineRow.laid.filter fun x => x.2.handleName?.isSome) = [] from by kernel_rfl] at h0
    exact h0
  have hval : ∀ (j : Nat) t v, Tryz.f3.params[j]? = some t → args[j]? = some v → Value.okWide Tryz.prog W .any base t v := hval0
  have hW' := hW
  obtain ⟨p, q, hA0, hV, rfl, hfz, hnd⟩ := hW
  have hA : DataW.TrodAll enc Tryz.prog W 0 (fun _ => true) true Tryz.f3.params.toList args.toList ds p := hA0
  rw [Tryz.params3] at hA hval
  obtain ⟨v0, vs0, d0, ds0, p0, q0, hargs, rfl, rfl, h0, r0⟩ := trodAll_cons hA
  obtain ⟨rfl, rfl, rfl⟩ := trodAll_nil r0
  obtain rfl : args = #[v0] := by cases args; simp_all
  obtain ⟨rfl, rfl⟩ := trodVars_none hV
  obtain ⟨fu0, t0⟩ := h0
  obtain ⟨x0, rfl⟩ := okWide_string Tryz.underlying9 (hval 0 9 v0 rfl rfl)
  have hG : GP W := ⟨fun b hb => by
    simp only [GBe, List.nil_append, List.cons_append, List.mem_cons, List.not_mem_nil, or_false] at hb
    rcases hb with rfl | rfl
    · exact err_laid hL' (n := "strconv.ErrSyntax") (by unfold Rows.fnExactConfLineRow; exact List.mem_cons_of_mem _ (List.mem_cons_of_mem _ (List.mem_cons_of_mem _ (List.mem_cons_of_mem _ (List.mem_cons_of_mem _ (List.mem_cons_self)))))) (show Tryz.prog.globalNamed "strconv.ErrSyntax" = some ((Tryz.prog.globalNamed "strconv.ErrSyntax").getD 0) from by kernel_rfl) (by kernel_rfl)
    · exact err_laid hL' (n := "strconv.ErrRange") (by unfold Rows.fnExactConfLineRow; exact List.mem_cons_of_mem _ (List.mem_cons_of_mem _ (List.mem_cons_of_mem _ (List.mem_cons_of_mem _ (List.mem_cons_self))))) (show Tryz.prog.globalNamed "strconv.ErrRange" = some ((Tryz.prog.globalNamed "strconv.ErrRange").getD 0) from by kernel_rfl) (by kernel_rfl), fun b hb => by simp only [GBi, List.nil_append, List.mem_cons, List.not_mem_nil, or_false] at hb; subst hb; exact layCutM.s1_3 W hsh, fun q hq => by
    simp only [GBt, List.nil_append, List.mem_cons, List.not_mem_nil, or_false] at hq
    subst hq
    obtain ⟨g', t', cs, fuel, p, h1, h2, h3, h4⟩ := Lib.laidMet.reads hL' (n := "internal/strconv.uint64pow10") (by unfold Rows.fnExactConfLineRow; exact List.mem_cons_of_mem _ (List.mem_cons_of_mem _ (List.mem_cons_self)))
    obtain rfl := Option.some.inj ((show Tryz.prog.globalNamed "internal/strconv.uint64pow10" = some ((Tryz.prog.globalNamed "internal/strconv.uint64pow10").getD 0) from by kernel_rfl).symm.trans h1)
    obtain rfl := Option.some.inj ((show (Tryz.prog.globals[(Tryz.prog.globalNamed "internal/strconv.uint64pow10").getD 0]?).map (·.type) = some 118 from by kernel_rfl).symm.trans h2)
    have hc := Lib.cells_of_tab (k := .u64) (zs := Lib.pow10Tab) Tryz.underlying118 Tryz.underlying102 (by kernel_rfl) (by kernel_rfl) h4
    unfold World.var? at h3
    rw [(show Tryz.prog.globalNamed "internal/strconv.uint64pow10" = some ((Tryz.prog.globalNamed "internal/strconv.uint64pow10").getD 0) from by kernel_rfl)] at h3
    simp only [Option.bind_some] at h3
    split at h3
    · rename_i c T fz hh
      simp only [Option.some.injEq] at h3
      subst h3
      exact ⟨T, fz, hh.trans (by congr 1; congr 1; exact Array.ext' (by simpa using hc))⟩
    · cases h3⟩
  have hc := law_call (W := W) (vs := [.string x0]) (ok3 x0) trivial (x := .bool (F3 x0)) hG ⟨_, _, [], [], rfl, ⟨⟨rfl, rfl⟩, rfl⟩, ⟨rfl, rfl⟩, rfl, List.nodup_nil⟩ rfl rfl
  rw [plain_3 x0] at hc
  refine hc.mono fun e W' ⟨he, hb⟩ => ?_
  subst he
  exact ⟨_, rfl, law_post rfl hW' hb rfl Tryz.underlying4 rfl rfl rfl laid (by decide +kernel)⟩
theorem said_FnExactConfLine : Rows.FnExactConfLineSaid :=
  OpenClaim.holds_of_cond 3 Tryz.f3 rfl rfl rfl rfl rfl rfl rfl ⟨rfl, rfl, rfl, rfl, rfl⟩ rfl rfl rfl rfl rfl (by kernel_rfl) Tryz.func3 (by
      show joinedFacts Tryz.prog 3 Tryz.f3 (OpenSpec.ofChange Rows.fnExactConfLineSpec).bare Rows.fnExactConfLineRow = true
      simp only [joinedFacts, laid, cfMaps, cfKeys, cfLifts, cfHeard, cfEnter, cfMake, cfA, cfB, cfC, cfD, Bool.and_true]
      kernel_rfl)
    (of_decide_eq_true (by kernel_rfl)) (by unfold Func.isWrapper; first | (rw [if_pos (by decide +kernel)]; kernel_rfl) | (rw [if_neg (by decide +kernel)]; exact ⟨rfl, rfl⟩))
    (fun os started H enc _ F => by rw [OpenClaim.pre_eq_preRow]; exact lifted os started H enc F)
theorem plainArgs (f : FuncId) (fn : Func) (hf : Tryz.pinned.checked.prog.funcNamed "loop.example/tern/laws.FnExactConfLine" = some f) (hfn : Tryz.pinned.checked.prog.funcs[f]? = some fn) :
    true = Tryz.pinned.checked.prog.looks [] ∧ ∀ (j : Nat) t, fn.params[j]? = some t → Tryz.pinned.checked.prog.wantsStandIn t = false := by
  obtain rfl : f = 3 := Option.some.inj ((show Tryz.prog.funcNamed "loop.example/tern/laws.FnExactConfLine" = some 3 by kernel_rfl).symm.trans hf) |>.symm
  obtain rfl : fn = Tryz.f3 := (Option.some.inj (Tryz.func3.symm.trans hfn)).symm
  refine ⟨by kernel_rfl, fun j t ht => ?_⟩
  rw [Tryz.params3] at ht
  have hm := Array.mem_of_getElem? ht
  simp only [List.mem_toArray, List.mem_cons, List.not_mem_nil, or_false] at hm
  first | (obtain rfl := hm; exact (show Tryz.prog.wantsStandIn 9 = false by kernel_rfl))
theorem proved_FnExactConfLine : Rows.FnExactConfLineCardSaid :=
  Claim7.holds_tied_plain_at .later [] _ _ _ _ said_FnExactConfLine (fun _ h => by cases h) (by kernel_rfl) (fun _ h => by cases h) fnExactConfLine_row_tie rfl ⟨rfl, rfl⟩ (by kernel_rfl) rfl plainArgs (by kernel_rfl)
#print axioms proved_FnExactConfLine
end Go.Proofs.YthmpggefmjeoeaaGreatDoor
