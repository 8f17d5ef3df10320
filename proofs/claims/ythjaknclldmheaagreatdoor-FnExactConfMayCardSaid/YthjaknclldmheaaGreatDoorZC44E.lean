/- The card's statement of FnExactConfMay: for all arguments the law returns true, without further conditions. Texts put together: PJO, VDF, PDF, VMK, PMK, PDFL0, PPA0, VPA, PPA, PMA0, VMA, PMA1, VMB, PMB, VML, PML, C44. -/
import Derived.Test.YthjaknclldmheaaGreatDoorRows
import Derived.Test.YthjaknclldmheaaGreatDoorCards
import Derived.Test.YthjaknclldmheaaGreatDoorTie
import Derived.Deep.DeepHandedRow
import Derived.Deep.DeepLaidRun
import Derived.JoinedCond
import Derived.Lib.LaidU8
import Derived.Test.YthjaknclldmheaaGreatDoorZC44D
namespace Go.Proofs.YthjaknclldmheaaGreatDoor
open Go.RowKit
set_option maxRecDepth 100000
set_option linter.unusedVariables false
set_option linter.unusedSimpArgs false
theorem Yu (ws : List ByteArray) (x : ByteArray) : F26 ws x = decide (x ∈ ws) := by rw [Gj, Jz]
def oneP (a b : List ByteArray) (l : ByteArray) : Bool := !(decide (l ∈ a) == decide (l ∈ b))
theorem Bo (a b : List ByteArray) : F25 a b = Yv ((a ++ b).filter (oneP a b)) := by
 unfold F25 Nh
 have h := Zt (a ++ b) (fun (s : List ByteArray) x => bif oneP a b x then s ++ [x] else s) (fun s i => (s, i)) (Vu a b) (fun i s hi => by
  simp only [Vu, ltD hi, cond_true, nn, Yu]
  show (bif oneP a b ((a ++ b).getD i default) then _ else _) = _
  cases oneP a b ((a ++ b).getD i default) <;> rfl) (fun s => by simp only [Vu, geD, cond_false]) (Lp.ret : List ByteArray → Lp (List ByteArray) (List ByteArray)) (fun x => .done x.1) []
 refine (congrArg (fun z : Lp (List ByteArray) (List ByteArray) => z.fin (fun r => r) (fun out => F41 out)) h).trans ?_
 show Yv _ = _
 rw [Jm (oneP a b) (fun x => x), List.nil_append, List.map_id']
theorem Qds {a b : List ByteArray} {z : ByteArray} : z ∈ F25 a b ↔ (z ∈ a ∧ z ∉ b) ∨ (z ∈ b ∧ z ∉ a) := by
 rw [Bo, Qls, List.mem_filter, List.mem_append]
 unfold oneP
 by_cases h1 : z ∈ a <;> by_cases h2 : z ∈ b <;> simp [h1, h2]
theorem Qce (a b : List ByteArray) (ha : a.length ≤ 16) (hb : b.length ≤ 16) : (F25 a b).length ≤ 32 := by
 rw [Bo, Yy]
 have := List.length_filter_le (oneP a b) (a ++ b)
 rw [List.length_append] at this
 omega
theorem Qpv {xs : List ByteArray} {n : Nat} (h : ∀ k : Nat, (xs.getD k default).size ≤ n) {x : ByteArray} (hx : x ∈ xs) : x.size ≤ n := by
 obtain ⟨k, hk, rfl⟩ := Je hx
 exact h k
theorem Qil {xs : List ByteArray} {n : Nat} (h : ∀ x ∈ xs, x.size ≤ n) (k : Nat) : (xs.getD k default).size ≤ n := by
 rw [List.getD_eq_getElem?_getD]
 cases hx : xs[k]? with
 | none => exact Nat.zero_le n
 | some x => exact h x (List.mem_of_getElem? hx)
theorem Qey (a b : List ByteArray) (ha : ∀ k : Nat, (a.getD k default).size ≤ 1048576) (hb : ∀ k : Nat, (b.getD k default).size ≤ 1048576) : ∀ k : Nat, ((F25 a b).getD k default).size ≤ 1048576 :=
 Qil fun x hx => by
  rcases Qds.1 hx with h | h
  ·exact Qpv ha h.1
  ·exact Qpv hb h.1
theorem Qhj (lines : List ByteArray) (h : F24 lines = true) : F23 lines = 0 := by
 unfold F24 at h
 rw [Xi] at h
 exact eq_of_beq h
theorem Qx (lines : List ByteArray) (h : F24 lines = true) : lines.length ≤ 16 := Pp lines (Qhj lines h)
theorem Yn {a b : List ByteArray} (h : (bif !F24 a then true else !F24 b) = false) : F24 a = true ∧ F24 b = true := by
 cases ha : F24 a <;> cases hb : F24 b <;> simp [ha, hb] at h ⊢
theorem kc24 (lines : List ByteArray) {K_ : Prop} (p0_ : lines.length ≤ 1048576) (p1_ : ∀ k : Nat, (lines.getD k default).size ≤ 1048576) (k_ : K_) : (lines.length ≤ 1048576 ∧ (∀ k : Nat, (lines.getD k default).size ≤ 1048576)) ∧ (Imp (.l 1 eStr lines) (.l 1 eStr lines)) ∧ K_ := ⟨⟨p0_, p1_⟩, Imp.refl _, k_⟩
abbrev kh24 (lines : List ByteArray) : Hint false Tryz.prog := .call 24 (S24 lines) (ok24 lines) none
theorem kg24 {K_ : Prop} (c_ b_ : Bool) (lines : List ByteArray) (p_ : c_ = b_ → lines.length ≤ 1048576 ∧ (∀ k : Nat, (lines.getD k default).size ≤ 1048576)) (k_ : K_) : (c_ = b_ → lines.length ≤ 1048576 ∧ (∀ k : Nat, (lines.getD k default).size ≤ 1048576)) ∧ (c_ = b_ → Imp (.l 1 eStr lines) (.l 1 eStr lines)) ∧ K_ := ⟨p_, fun _ => Imp.refl _, k_⟩
theorem kc25 (a : List ByteArray) (b : List ByteArray) {K_ : Prop} (p0_ : a.length ≤ 16) (p1_ : b.length ≤ 16) (p2_ : ∀ k : Nat, (a.getD k default).size ≤ 1048576) (p3_ : ∀ k : Nat, (b.getD k default).size ≤ 1048576) (q0_ : a.length ≤ 16) (q1_ : b.length ≤ 16) (q2_ : ∀ k : Nat, (a.getD k default).size ≤ 1048576) (q3_ : ∀ k : Nat, (b.getD k default).size ≤ 1048576) (k_ : ((F25 a b).length ≤ 32) → (∀ k : Nat, ((F25 a b).getD k default).size ≤ 1048576) → K_) : (a.length ≤ 16 ∧ b.length ≤ 16 ∧ (∀ k : Nat, (a.getD k default).size ≤ 1048576) ∧ (∀ k : Nat, (b.getD k default).size ≤ 1048576)) ∧ (Imp (.l 1 eStr a) (.l 1 eStr a)) ∧ (Imp (.l 1 eStr b) (.l 1 eStr b)) ∧ K_ := ⟨⟨p0_, p1_, p2_, p3_⟩, Imp.refl _, Imp.refl _, k_ (Qce a b q0_ q1_) (Qey a b q2_ q3_)⟩
abbrev kh25f (a : List ByteArray) (b : List ByteArray) : Hint false Tryz.prog := .call 25 (S25 a b) ((ok25 a b).to false) none
abbrev kh26f (s : List ByteArray) (v1 : ByteArray) : Hint false Tryz.prog := .call 26 (S26 s v1) ((ok26 s v1).to false) none
abbrev w21_ : ByteArray := ⟨#[45, 32]⟩
abbrev w22_ : ByteArray := ⟨#[43, 32]⟩
def Bn (a : List ByteArray) (b : List ByteArray) : (List ByteArray × Int) → Lp (List ByteArray × Int) (List ByteArray) := fun (out, v21) =>
 bif (decide (v21 < ((F25 a b).length : Int))) then (bif (F26 a ((F25 a b).getD (Int.toNat v21) default)) then (.next ((out ++ [((⟨#[45, 32]⟩ : ByteArray) ++ ((F25 a b).getD (Int.toNat v21) default))]), (v21 + 1))) else (.next ((out ++ [((⟨#[43, 32]⟩ : ByteArray) ++ ((F25 a b).getD (Int.toNat v21) default))]), (v21 + 1)))) else (.done (out, v21))
def F10 (a : List ByteArray) (b : List ByteArray) : List ByteArray :=
 bif (bif (!(F24 a)) then true else (!(F24 b))) then ([] : List ByteArray) else ((runL (Bn a b) ((Int.toNat (((F25 a b).length : Int) - 0)) + 1) (([] : List ByteArray), 0)).fin (fun r => r) (fun (out, v21) => out))
theorem kg23 {K_ : Prop} (c_ b_ : Bool) (lines : List ByteArray) (p_ : c_ = b_ → (∀ k : Nat, (lines.getD k default).size ≤ 1048576)) (k_ : K_) : (c_ = b_ → (∀ k : Nat, (lines.getD k default).size ≤ 1048576)) ∧ (c_ = b_ → Imp (.l 1 eStr lines) (.l 1 eStr lines)) ∧ K_ := ⟨p_, fun _ => Imp.refl _, k_⟩
def Wr (a : List ByteArray) (b : List ByteArray) : (List ByteArray × Int × Int) → Lp (List ByteArray × Int × Int) (List ByteArray) := fun (out, i40, k) =>
 bif (bif decide (i40 < (a.length : Int)) then true else decide (k < (b.length : Int))) then (bif (bif (k == (b.length : Int)) then true else (bif decide (i40 < (a.length : Int)) then (Op.bytesLess (a.getD (Int.toNat i40) default).toList (b.getD (Int.toNat k) default).toList) else false)) then (.next ((out ++ [((⟨#[45, 32]⟩ : ByteArray) ++ (a.getD (Int.toNat i40) default))]), (i40 + 1), k)) else (bif (bif (i40 == (a.length : Int)) then true else (Op.bytesLess (b.getD (Int.toNat k) default).toList (a.getD (Int.toNat i40) default).toList)) then (.next ((out ++ [((⟨#[43, 32]⟩ : ByteArray) ++ (b.getD (Int.toNat k) default))]), i40, (k + 1))) else (.next (out, (i40 + 1), (k + 1))))) else (.done (out, i40, k))
def F8 (a : List ByteArray) (b : List ByteArray) : List ByteArray :=
 bif (bif ((F23 a) != 0) then true else ((F23 b) != 0)) then ([] : List ByteArray) else ((runL (Wr a b) ((Int.toNat (((a.length : Int) - 0) + ((b.length : Int) - 0))) + 1) (([] : List ByteArray), 0, 0)).fin (fun r => r) (fun (out, i40, k) => out))
abbrev Qdb (a : List ByteArray) (b : List ByteArray) : Nat × (List ByteArray × Int × Int) := (((Int.toNat (((a.length : Int) - 0) + ((b.length : Int) - 0))) + 1), (([] : List ByteArray), 0, 0))
abbrev Qov (a : List ByteArray) (b : List ByteArray) (m39 : Nat) (out : List ByteArray) (i40 : Int) (k : Int) : Prop := Int.toNat (((a.length : Int) - i40) + ((b.length : Int) - k)) < m39 ∧ (0 : Int) ≤ i40 ∧ (0 : Int) ≤ k ∧ i40 ≤ (a.length : Int) ∧ k ≤ (b.length : Int) ∧ (out.length : Int) ≤ i40 + k ∧ (0 : Int) ≤ i40 ∧ (0 : Int) ≤ k
abbrev lX8_0 (a : List ByteArray) (b : List ByteArray) : Lp (List ByteArray × Int × Int) (List ByteArray) := LpX (Wr a b) (Qdb a b)
abbrev Qcr (a : List ByteArray) (b : List ByteArray) (i : Nat × (List ByteArray × Int × Int)) : Prop := LpJ (Wr a b) (Qdb a b) i (Qov a b i.1 i.2.1 i.2.2.1 i.2.2.2)
abbrev lH8_0 (a : List ByteArray) (b : List ByteArray) (i : Nat × (List ByteArray × Int × Int)) (m39 : Nat) (out : List ByteArray) (i40 : Int) (k : Int) : Prop := LpH (Wr a b) (Qdb a b) i m39 (out, i40, k) (Qov a b (m39 + 1) out i40 k)
abbrev lE8_0 (a : List ByteArray) (b : List ByteArray) (out : List ByteArray) (i40 : Int) (k : Int) (out_ : List ByteArray) (i40_ : Int) (k_ : Int) (K39 : Prop) : Prop := ((.int .i64 i40 : Value) = .int .i64 i40_) ∧ ((.int .i64 k : Value) = .int .i64 k_) ∧ (Im (.l 1 eStr a)) ∧ (Im (.l 1 eStr b)) ∧ (Imp (.l 1 eStr out) (.l 1 eStr out_)) ∧ K39
theorem un8_0 (a : List ByteArray) (b : List ByteArray) (i : Nat × (List ByteArray × Int × Int)) (h : Qcr a b i) : lH8_0 a b i (i.1 - 1) i.2.1 i.2.2.1 i.2.2.2 := ⟨hd1 h.1 h.2.1, hd3 h.2.1, hd2 h.2.1, h.2.2⟩
theorem Qmp (a : List ByteArray) (b : List ByteArray) (i : Nat × (List ByteArray × Int × Int)) (m39 : Nat) (out : List ByteArray) (i40 : Int) (k : Int) (hl : m39 < i.1) (e : runL (Wr a b) m39 (out, i40, k) = lX8_0 a b) (h : Qov a b m39 out i40 k) : ∃ j : Nat × (List ByteArray × Int × Int), lE8_0 a b out i40 k j.2.1 j.2.2.1 j.2.2.2 (Qcr a b j ∧ j.1 < i.1) := ⟨(m39, (out, i40, k)), rfl, rfl, Imp.refl _, Imp.refl _, Imp.refl _, ⟨e, h⟩, hl⟩
theorem en8_0 (a : List ByteArray) (b : List ByteArray) (h : (0 : Int) ≤ 0 ∧ (0 : Int) ≤ 0 ∧ 0 ≤ (a.length : Int) ∧ 0 ≤ (b.length : Int) ∧ (([] : List ByteArray).length : Int) ≤ 0 + 0 ∧ (0 : Int) ≤ 0 ∧ (0 : Int) ≤ 0) : lE8_0 a b ([] : List ByteArray) 0 0 ([] : List ByteArray) 0 0 (Qcr a b (Qdb a b)) := ⟨rfl, rfl, Imp.refl _, Imp.refl _, Imp.refl _, rfl, Nat.lt_succ_self _, h⟩
theorem fi8 (a : List ByteArray) (b : List ByteArray) (r : List ByteArray) (hF : r = (F8 a b)) : (Imp (.l 1 eStr r) (.l 1 eStr (F8 a b))) ∧ True := by cases hF; exact ⟨Imp.refl _, trivial⟩
def S8 (a : List ByteArray) (b : List ByteArray) : Spec := ⟨[.r (.c (.l 1 eStr a)), .r (.c (.l 1 eStr b))], .ow (.l 1 eStr (F8 a b)), a.length ≤ 1048576 ∧ b.length ≤ 1048576 ∧ (∀ k : Nat, (a.getD k default).size ≤ 1048576) ∧ (∀ k : Nat, (b.getD k default).size ≤ 1048576)⟩
theorem ok8 (a : List ByteArray) (b : List ByteArray) : (S8 a b).ok Tryz.prog 8 :=
 Qj mixed (fn := Tryz.f8) (ct := .seqk [(0, 0), (1, 0)] .no (.seq (.reg [(0, .dat (.l 1 eStr ([] : List ByteArray)))]) (.seq (.seq (.reg [(1, kh23 a), (5, kh23 b)]) (.cond (.seq .no .no) .no)) (.seq .no (.seqk [(0, 0), (1, 0), (5, 0)] .no (.seq (.blk (.loop (ι := Nat × (List ByteArray × Int × Int)) (fun i => (fun (out : List ByteArray) (i40 : Int) (k : Int) => (⟨[(0, some (.h 0 0)), (1, some (.h 1 0)), (5, some (.h 2 0)), (6, some (.v (vI i40))), (7, some (.v (vI k)))], [(0, some (.shr none (.l 1 eStr a))), (1, some (.shr none (.l 1 eStr b))), (2, some (.own 2 (.l 1 eStr out)))], 3⟩ : St)) i.2.1 i.2.2.1 i.2.2.2) (Qcr a b) (fun i => i.1) (Qdb a b) (fun i => (fun (out : List ByteArray) (i40 : Int) (k : Int) => (.seq (.seq .no (.cond .no .no)) (.blk (.blk (.seq .no (.cond (.seq (.reg [(7, .dat (.l 1 eStr (out ++ [(w21_ ++ (a.getD (Int.toNat i40) default))])))]) (.reg [(1, .bnd)])) (.seq .no (.cond (.seq (.reg [(7, .dat (.l 1 eStr (out ++ [(w22_ ++ (b.getD (Int.toNat k) default))])))]) (.reg [(1, .bnd)])) (.seq (.reg [(1, .bnd)]) (.reg [(1, .bnd)])))))))))) i.2.1 i.2.2.1 i.2.2.2))) (.seq .no .no))))))) Tryz.func8 (fun (hp : a.length ≤ 1048576 ∧ b.length ≤ 1048576 ∧ (∀ k : Nat, (a.getD k default).size ≤ 1048576) ∧ (∀ k : Nat, (b.getD k default).size ≤ 1048576)) => have hpre0 := hp.1; have hpre1 := hp.2.1; have hpre2 := hp.2.2.1; have hpre3 := hp.2.2.2; kn a fun _ => kn b fun _ => ai (bokr 1 eStr ([] : List ByteArray) fun _ => rfl) (kc23 a (by first | assumption | exact hpre2 _ | exact fun k _ => hpre2 k | exact hpre3 _ | exact fun k _ => hpre3 k | (intros; exact trivial) | (intros; exact Nat.zero_le _)) (kg23 ((F23 a) != 0) false b (fun k1 => have _ := bneF k1; (by first | assumption | exact hpre2 _ | exact fun k _ => hpre2 k | exact hpre3 _ | exact fun k _ => hpre3 k | (intros; exact trivial) | (intros; exact Nat.zero_le _))) (ifb (bif ((F23 a) != 0) then true else ((F23 b) != 0)) (fun h2 => fi8 a b ([] : List ByteArray) (condT h2 rfl)) (fun h2 => have _ := bneF (orF1 h2); have _ := bneF (orF2 h2); kn a fun _ => kn b fun _ => kn ([] : List ByteArray) fun _ => ai (en8_0 a b (by refine ⟨?_, ?_, ?_, ?_, ?_, ?_, ?_⟩ <;> first | omega | (simp only [lens, ib] at * <;> omega) | omega | (simp only [Bool.cond_true_left, Bool.cond_false_right, Bool.or_eq_true, Bool.and_eq_true, Bool.or_eq_false_iff, Bool.and_eq_false_iff, decide_eq_true_eq, decide_eq_false_iff_not, beq_iff_eq, beq_eq_false_iff_ne, List.length_append, List.length_cons, List.length_nil] at *; omega))) (fun (i0 : Nat × (List ByteArray × Int × Int)) (hi0 : Qcr a b i0) => (fun (m0 : Nat) (out : List ByteArray) (i40 : Int) (k : Int) (hh0 : lH8_0 a b i0 m0 out i40 k) => have hI0 := hh0.1; have hl0 := hh0.2.1; have _ := hh0.2.2.1; have _ := hh0.2.2.2; ifb (bif decide (i40 < (a.length : Int)) then true else decide (k < (b.length : Int))) (fun h4 => ai (fun k6 : (decide (i40 < (a.length : Int))) = true => have _ := of_decide_eq_true k6; (fun k5 : (k == (b.length : Int)) = false => have _ := beqF k5; (by (first | omega | (simp only [Bool.cond_true_left, Bool.cond_false_right, Bool.or_eq_true, Bool.and_eq_true, Bool.or_eq_false_iff, Bool.and_eq_false_iff, decide_eq_true_eq, decide_eq_false_iff_not, beq_iff_eq, beq_eq_false_iff_ne, List.length_append, List.length_cons, List.length_nil] at *; omega)) : 0 ≤ i40 ∧ i40 < (a.length : Int)))) (ai (fun k8 : (decide (i40 < (a.length : Int))) = true => have _ := of_decide_eq_true k8; (fun k7 : (k == (b.length : Int)) = false => have _ := beqF k7; (by (first | omega | (simp only [Bool.cond_true_left, Bool.cond_false_right, Bool.or_eq_true, Bool.and_eq_true, Bool.or_eq_false_iff, Bool.and_eq_false_iff, decide_eq_true_eq, decide_eq_false_iff_not, beq_iff_eq, beq_eq_false_iff_ne, List.length_append, List.length_cons, List.length_nil] at *; omega)) : 0 ≤ k ∧ k < (b.length : Int)))) (ifb (bif (k == (b.length : Int)) then true else (bif decide (i40 < (a.length : Int)) then (Op.bytesLess (a.getD (Int.toNat i40) default).toList (b.getD (Int.toNat k) default).toList) else false)) (fun h9 => ai (by (first | omega | (simp only [Bool.cond_true_left, Bool.cond_false_right, Bool.or_eq_true, Bool.and_eq_true, Bool.or_eq_false_iff, Bool.and_eq_false_iff, decide_eq_true_eq, decide_eq_false_iff_not, beq_iff_eq, beq_eq_false_iff_ne, List.length_append, List.length_cons, List.length_nil] at *; omega)) : 0 ≤ i40 ∧ i40 < (a.length : Int)) (ai (by (have hz := (by assumption : ∀ k : Nat, (a.getD k default).size ≤ 1048576) (Int.toNat i40); have hz2 := (by assumption : ∀ k : Nat, (b.getD k default).size ≤ 1048576) (Int.toNat k); have hs1 : w21_.size = 2 := rfl; have hs2 : w22_.size = 2 := rfl; omega) : ((w21_.size + (a.getD (Int.toNat i40) default).size : Nat) : Int) ≤ 9223372036854775807) (ai (appr 1 eStr out [(w21_ ++ (a.getD (Int.toNat i40) default))] fun _ => rfl) (ai (by (try simp only [lens]); omega : (out ++ [(w21_ ++ (a.getD (Int.toNat i40) default))]).length * 16 ≤ 140737488355328) (ai (iok (i40 + 1) (by first | omega | (simp only [lens, ib] at * <;> omega))) (Qmp a b i0 m0 (out ++ [(w21_ ++ (a.getD (Int.toNat i40) default))]) (i40 + 1) k hl0 (Qd hI0 (condT h4 (condT h9 rfl))) (by refine ⟨?_, ?_, ?_, ?_, ?_, ?_, ?_, ?_⟩ <;> first | omega | (simp only [lens, ib] at * <;> omega) | omega | (simp only [Bool.cond_true_left, Bool.cond_false_right, Bool.or_eq_true, Bool.and_eq_true, Bool.or_eq_false_iff, Bool.and_eq_false_iff, decide_eq_true_eq, decide_eq_false_iff_not, beq_iff_eq, beq_eq_false_iff_ne, List.length_append, List.length_cons, List.length_nil] at *; omega)))))))) (fun h9 => have _ := beqF (orF1 h9); ai (fun k10 : (i40 == (a.length : Int)) = false => have _ := beqF k10; (by (first | omega | (simp only [Bool.cond_true_left, Bool.cond_false_right, Bool.or_eq_true, Bool.and_eq_true, Bool.or_eq_false_iff, Bool.and_eq_false_iff, decide_eq_true_eq, decide_eq_false_iff_not, beq_iff_eq, beq_eq_false_iff_ne, List.length_append, List.length_cons, List.length_nil] at *; omega)) : 0 ≤ k ∧ k < (b.length : Int))) (ai (fun k11 : (i40 == (a.length : Int)) = false => have _ := beqF k11; (by (first | omega | (simp only [Bool.cond_true_left, Bool.cond_false_right, Bool.or_eq_true, Bool.and_eq_true, Bool.or_eq_false_iff, Bool.and_eq_false_iff, decide_eq_true_eq, decide_eq_false_iff_not, beq_iff_eq, beq_eq_false_iff_ne, List.length_append, List.length_cons, List.length_nil] at *; omega)) : 0 ≤ i40 ∧ i40 < (a.length : Int))) (ifb (bif (i40 == (a.length : Int)) then true else (Op.bytesLess (b.getD (Int.toNat k) default).toList (a.getD (Int.toNat i40) default).toList)) (fun h12 => ai (by (first | omega | (simp only [Bool.cond_true_left, Bool.cond_false_right, Bool.or_eq_true, Bool.and_eq_true, Bool.or_eq_false_iff, Bool.and_eq_false_iff, decide_eq_true_eq, decide_eq_false_iff_not, beq_iff_eq, beq_eq_false_iff_ne, List.length_append, List.length_cons, List.length_nil] at *; omega)) : 0 ≤ k ∧ k < (b.length : Int)) (ai (by (have hz := (by assumption : ∀ k : Nat, (a.getD k default).size ≤ 1048576) (Int.toNat i40); have hz2 := (by assumption : ∀ k : Nat, (b.getD k default).size ≤ 1048576) (Int.toNat k); have hs1 : w21_.size = 2 := rfl; have hs2 : w22_.size = 2 := rfl; omega) : ((w22_.size + (b.getD (Int.toNat k) default).size : Nat) : Int) ≤ 9223372036854775807) (ai (appr 1 eStr out [(w22_ ++ (b.getD (Int.toNat k) default))] fun _ => rfl) (ai (by (try simp only [lens]); omega : (out ++ [(w22_ ++ (b.getD (Int.toNat k) default))]).length * 16 ≤ 140737488355328) (ai (iok (k + 1) (by first | omega | (simp only [lens, ib] at * <;> omega))) (Qmp a b i0 m0 (out ++ [(w22_ ++ (b.getD (Int.toNat k) default))]) i40 (k + 1) hl0 (Qd hI0 (condT h4 (condF h9 (condT h12 rfl)))) (by refine ⟨?_, ?_, ?_, ?_, ?_, ?_, ?_, ?_⟩ <;> first | omega | (simp only [lens, ib] at * <;> omega) | omega | (simp only [Bool.cond_true_left, Bool.cond_false_right, Bool.or_eq_true, Bool.and_eq_true, Bool.or_eq_false_iff, Bool.and_eq_false_iff, decide_eq_true_eq, decide_eq_false_iff_not, beq_iff_eq, beq_eq_false_iff_ne, List.length_append, List.length_cons, List.length_nil] at *; omega)))))))) (fun h12 => have _ := beqF (orF1 h12); have _ := (orF2 h12); ai (iok (i40 + 1) (by first | omega | (simp only [lens, ib] at * <;> omega))) (ai (iok (k + 1) (by first | omega | (simp only [lens, ib] at * <;> omega))) (Qmp a b i0 m0 out (i40 + 1) (k + 1) hl0 (Qd hI0 (condT h4 (condF h9 (condF h12 rfl)))) (by refine ⟨?_, ?_, ?_, ?_, ?_, ?_, ?_, ?_⟩ <;> first | omega | (simp only [lens, ib] at * <;> omega) | omega | (simp only [Bool.cond_true_left, Bool.cond_false_right, Bool.or_eq_true, Bool.and_eq_true, Bool.or_eq_false_iff, Bool.and_eq_false_iff, decide_eq_true_eq, decide_eq_false_iff_not, beq_iff_eq, beq_eq_false_iff_ne, List.length_append, List.length_cons, List.length_nil] at *; omega))))))))))) (fun h4 => have _ := of_decide_eq_false (orF1 h4); have _ := of_decide_eq_false (orF2 h4); have hD0_13 : lX8_0 a b = Lp.done (out, i40, k) := Ql hI0 (condF h4 rfl); fi8 a b out (condF h2 (finD hD0_13 rfl)))) (i0.1 - 1) i0.2.1 i0.2.2.1 i0.2.2.2 (un8_0 a b i0 hi0))))))) (by kernel_rfl)
def Ur : Nat → List ByteArray → List ByteArray → List (Bool × ByteArray)
 | 0, _, _ => []
 | _ + 1, [], [] => []
 | n + 1, x :: xs, [] => (true, x) :: Ur n xs []
 | n + 1, [], y :: ys => (false, y) :: Ur n [] ys
 | n + 1, x :: xs, y :: ys => bif ltB x y then (true, x) :: Ur n xs (y :: ys) else bif ltB y x then (false, y) :: Ur n (x :: xs) ys else Ur n xs ys
def txtD (z : Bool × ByteArray) : ByteArray := bif z.1 then (⟨#[45, 32]⟩ : ByteArray) ++ z.2 else (⟨#[43, 32]⟩ : ByteArray) ++ z.2
def SymD (xs ys : List ByteArray) (z : ByteArray) : Prop := (z ∈ xs ∧ z ∉ ys) ∨ (z ∈ ys ∧ z ∉ xs)
theorem Be {x : ByteArray} {ys : List ByteArray} (h : ∀ y ∈ ys, ltB x y = true) : x ∉ ys := fun hm => by
 have := h x hm
 rw [Wg] at this
 cases this
theorem Tj {x z : ByteArray} (h : ltB x z = true) : z ≠ x := fun e => by
 subst e
 rw [Wg] at h
 cases h
theorem Zw {x : ByteArray} {xs ys : List ByteArray} (h1 : ∀ z ∈ xs, ltB x z = true) (h2 : ∀ z ∈ ys, ltB x z = true) {z : ByteArray} (h : SymD xs ys z) : ltB x z = true := by
 rcases h with ⟨h, _⟩ | ⟨h, _⟩
 ·exact h1 z h
 ·exact h2 z h
theorem Kt : ∀ (n : Nat) (xs ys : List ByteArray), Kb xs → Kb ys → xs.length + ys.length ≤ n →
  Kb ((Ur n xs ys).map (·.2)) ∧ (∀ z, z ∈ (Ur n xs ys).map (·.2) ↔ SymD xs ys z) ∧ ∀ t z, (t, z) ∈ Ur n xs ys → t = decide (z ∈ xs)
 | 0, [], [], _, _, _ => ⟨List.Pairwise.nil, fun z => by simp [Ur, SymD], fun t z h => by simp [Ur] at h⟩
 | 0, x :: xs, ys, _, _, h => by simp at h
 | 0, [], y :: ys, _, _, h => by simp at h
 | n + 1, [], [], _, _, _ => ⟨List.Pairwise.nil, fun z => by simp [Ur, SymD], fun t z h => by simp [Ur] at h⟩
 | n + 1, x :: xs, [], hx, hy, h => by
  obtain ⟨hx1, hx2⟩ := List.pairwise_cons.1 hx
  obtain ⟨k1, k2, k3⟩ := Kt n xs [] hx2 hy (by simp at h ⊢; omega)
  rw [Ur]
  refine ⟨List.pairwise_cons.2 ⟨fun z hz => Zw hx1 (fun _ h => by cases h) ((k2 z).1 hz), k1⟩, fun z => ?_, fun t z hz => ?_⟩
  ·rw [List.map_cons, List.mem_cons, k2 z]
   simp [SymD]
  ·rcases List.mem_cons.1 hz with e | hz
   ·obtain ⟨rfl, rfl⟩ := Prod.mk.inj e
    simp
   ·have := k3 t z hz
    have hg := Zw hx1 (fun _ h => by cases h) ((k2 z).1 (List.mem_map.2 ⟨_, hz, rfl⟩))
    rw [this]
    simp [Tj hg]
 | n + 1, [], y :: ys, hx, hy, h => by
  obtain ⟨hy1, hy2⟩ := List.pairwise_cons.1 hy
  obtain ⟨k1, k2, k3⟩ := Kt n [] ys hx hy2 (by simp at h ⊢; omega)
  rw [Ur]
  refine ⟨List.pairwise_cons.2 ⟨fun z hz => Zw (fun _ h => by cases h) hy1 ((k2 z).1 hz), k1⟩, fun z => ?_, fun t z hz => ?_⟩
  ·rw [List.map_cons, List.mem_cons, k2 z]
   simp [SymD]
  ·rcases List.mem_cons.1 hz with e | hz
   ·obtain ⟨rfl, rfl⟩ := Prod.mk.inj e
    simp
   ·exact k3 t z hz
 | n + 1, x :: xs, y :: ys, hx, hy, h => by
  obtain ⟨hx1, hx2⟩ := List.pairwise_cons.1 hx
  obtain ⟨hy1, hy2⟩ := List.pairwise_cons.1 hy
  rw [Ur]
  cases hl : ltB x y with
  | true =>
   rw [cond_true]
   have hxy : ∀ z ∈ y :: ys, ltB x z = true := fun z hz => by
    rcases List.mem_cons.1 hz with rfl | hz
    ·exact hl
    ·exact Xn hl (hy1 z hz)
   obtain ⟨k1, k2, k3⟩ := Kt n xs (y :: ys) hx2 hy (by simp at h ⊢; omega)
   refine ⟨List.pairwise_cons.2 ⟨fun z hz => Zw hx1 hxy ((k2 z).1 hz), k1⟩, fun z => ?_, fun t z hz => ?_⟩
   ·rw [List.map_cons, List.mem_cons, k2 z]
    constructor
    ·rintro (rfl | hz)
     ·exact .inl ⟨List.mem_cons_self, Be hxy⟩
     ·have hne := Tj (Zw hx1 hxy hz)
      rcases hz with ⟨h1, h2⟩ | ⟨h1, h2⟩
      ·exact .inl ⟨List.mem_cons_of_mem _ h1, h2⟩
      ·exact .inr ⟨h1, fun hm => (List.mem_cons.1 hm).elim hne h2⟩
    ·rintro (⟨h1, h2⟩ | ⟨h1, h2⟩)
     ·rcases List.mem_cons.1 h1 with rfl | h1
      ·exact .inl rfl
      ·exact .inr (.inl ⟨h1, h2⟩)
     ·exact .inr (.inr ⟨h1, fun hm => h2 (List.mem_cons_of_mem _ hm)⟩)
   ·rcases List.mem_cons.1 hz with e | hz
    ·obtain ⟨rfl, rfl⟩ := Prod.mk.inj e
     simp
    ·have hne := Tj (Zw hx1 hxy ((k2 z).1 (List.mem_map.2 ⟨_, hz, rfl⟩)))
     rw [k3 t z hz]
     simp [hne]
  | false =>
   rw [cond_false]
   cases hl2 : ltB y x with
   | true =>
    rw [cond_true]
    have hyx : ∀ z ∈ x :: xs, ltB y z = true := fun z hz => by
     rcases List.mem_cons.1 hz with rfl | hz
     ·exact hl2
     ·exact Xn hl2 (hx1 z hz)
    obtain ⟨k1, k2, k3⟩ := Kt n (x :: xs) ys hx hy2 (by simp at h ⊢; omega)
    refine ⟨List.pairwise_cons.2 ⟨fun z hz => Zw hyx hy1 ((k2 z).1 hz), k1⟩, fun z => ?_, fun t z hz => ?_⟩
    ·rw [List.map_cons, List.mem_cons, k2 z]
     constructor
     ·rintro (rfl | hz)
      ·exact .inr ⟨List.mem_cons_self, Be hyx⟩
      ·have hne := Tj (Zw hyx hy1 hz)
       rcases hz with ⟨h1, h2⟩ | ⟨h1, h2⟩
       ·exact .inl ⟨h1, fun hm => (List.mem_cons.1 hm).elim hne h2⟩
       ·exact .inr ⟨List.mem_cons_of_mem _ h1, h2⟩
     ·rintro (⟨h1, h2⟩ | ⟨h1, h2⟩)
      ·exact .inr (.inl ⟨h1, fun hm => h2 (List.mem_cons_of_mem _ hm)⟩)
      ·rcases List.mem_cons.1 h1 with rfl | h1
       ·exact .inl rfl
       ·exact .inr (.inr ⟨h1, h2⟩)
    ·rcases List.mem_cons.1 hz with e | hz
     ·obtain ⟨rfl, rfl⟩ := Prod.mk.inj e
      exact (decide_eq_false (Be hyx)).symm
     ·exact k3 t z hz
   | false =>
    rw [cond_false]
    have e : x = y := by
     rcases Qhu x y with h | h | h
     ·rw [hl] at h; cases h
     ·exact h
     ·rw [hl2] at h; cases h
    subst e
    obtain ⟨k1, k2, k3⟩ := Kt n xs ys hx2 hy2 (by simp at h ⊢; omega)
    refine ⟨k1, fun z => ?_, fun t z hz => ?_⟩
    ·rw [k2 z]
     constructor
     ·intro hz
      have hne := Tj (Zw hx1 hy1 hz)
      rcases hz with ⟨h1, h2⟩ | ⟨h1, h2⟩
      ·exact .inl ⟨List.mem_cons_of_mem _ h1, fun hm => (List.mem_cons.1 hm).elim hne h2⟩
      ·exact .inr ⟨List.mem_cons_of_mem _ h1, fun hm => (List.mem_cons.1 hm).elim hne h2⟩
     ·rintro (⟨h1, h2⟩ | ⟨h1, h2⟩)
      ·rcases List.mem_cons.1 h1 with rfl | h1
       ·exact absurd List.mem_cons_self h2
       ·exact .inl ⟨h1, fun hm => h2 (List.mem_cons_of_mem _ hm)⟩
      ·rcases List.mem_cons.1 h1 with rfl | h1
       ·exact absurd List.mem_cons_self h2
       ·exact .inr ⟨h1, fun hm => h2 (List.mem_cons_of_mem _ hm)⟩
    ·have hne := Tj (Zw hx1 hy1 ((k2 z).1 (List.mem_map.2 ⟨_, hz, rfl⟩)))
     rw [k3 t z hz]
     simp [hne]
theorem Qat (xs : List ByteArray) (i : Nat) (h : i < xs.length) : xs.drop i = xs.getD i default :: xs.drop (i + 1) := by
 rw [List.drop_eq_getElem_cons h, List.getD_eq_getElem?_getD, List.getElem?_eq_getElem h]; rfl
theorem Kr (a b : List ByteArray) (ha : a.length ≤ 16) (hb : b.length ≤ 16) : ∀ (n i k : Nat) (out : List ByteArray), i ≤ a.length → k ≤ b.length → (a.length - i) + (b.length - k) ≤ n → ∀ fuel, n < fuel →
  (runL (Wr a b) fuel (out, (i : Int), (k : Int))).fin (fun r => r) (fun (x : List ByteArray × Int × Int) => x.1) = out ++ (Ur n (a.drop i) (b.drop k)).map txtD
 | n, i, k, out, hi, hk, hn, 0, hf => absurd hf (Nat.not_lt_zero _)
 | n, i, k, out, hi, hk, hn, fuel + 1, hf => by
  by_cases h1 : i < a.length
  ·obtain ⟨n, rfl⟩ : ∃ m, n = m + 1 := ⟨n - 1, by omega⟩
   have d1 := Qat a i h1
   by_cases h2 : k < b.length
   ·have d2 := Qat b k h2
    have e : Wr a b (out, (i : Int), (k : Int)) = bif ltB (a.getD i default) (b.getD k default) then .next (out ++ [(⟨#[45, 32]⟩ : ByteArray) ++ a.getD i default], ((i + 1 : Nat) : Int), (k : Int)) else bif ltB (b.getD k default) (a.getD i default) then .next (out ++ [(⟨#[43, 32]⟩ : ByteArray) ++ b.getD k default], (i : Int), ((k + 1 : Nat) : Int)) else .next (out, ((i + 1 : Nat) : Int), ((k + 1 : Nat) : Int)) := by
     simp only [Wr, ltD h1, cond_true, nn, show ((k : Int) == (b.length : Int)) = false from beq_eq_false_iff_ne.2 (by omega), show ((i : Int) == (a.length : Int)) = false from beq_eq_false_iff_ne.2 (by omega), cond_false]
     rfl
    rw [d1, d2, Ur]
    cases hl : ltB (a.getD i default) (b.getD k default) with
    | true =>
     rw [hl, cond_true] at e
     rw [Uo _ e, Kr a b ha hb n (i + 1) k _ (by omega) hk (by omega) fuel (by omega), cond_true, List.map_cons, List.append_assoc, ← d2]; rfl
    | false =>
     rw [hl, cond_false] at e
     rw [cond_false]
     cases hl2 : ltB (b.getD k default) (a.getD i default) with
     | true =>
      rw [hl2, cond_true] at e
      rw [Uo _ e, Kr a b ha hb n i (k + 1) _ hi (by omega) (by omega) fuel (by omega), cond_true, List.map_cons, List.append_assoc, ← d1]; rfl
     | false =>
      rw [hl2, cond_false] at e
      rw [Uo _ e, Kr a b ha hb n (i + 1) (k + 1) _ (by omega) (by omega) (by omega) fuel (by omega), cond_false]
   ·obtain rfl : k = b.length := by omega
    have e : Wr a b (out, (i : Int), (b.length : Int)) = .next (out ++ [(⟨#[45, 32]⟩ : ByteArray) ++ a.getD i default], ((i + 1 : Nat) : Int), (b.length : Int)) := by
     simp only [Wr, ltD h1, cond_true, nn, show ((b.length : Int) == (b.length : Int)) = true from beq_self_eq_true _]
     rfl
    have d2 : b.drop b.length = [] := List.drop_of_length_le (Nat.le_refl _)
    rw [Uo _ e, Kr a b ha hb n (i + 1) b.length _ (by omega) (Nat.le_refl _) (by omega) fuel (by omega), d1, d2, Ur, List.map_cons, List.append_assoc]; rfl
  ·obtain rfl : i = a.length := by omega
   have d1 : a.drop a.length = [] := List.drop_of_length_le (Nat.le_refl _)
   by_cases h2 : k < b.length
   ·obtain ⟨n, rfl⟩ : ∃ m, n = m + 1 := ⟨n - 1, by omega⟩
    have d2 := Qat b k h2
    have e : Wr a b (out, (a.length : Int), (k : Int)) = .next (out ++ [(⟨#[43, 32]⟩ : ByteArray) ++ b.getD k default], (a.length : Int), ((k + 1 : Nat) : Int)) := by
     simp only [Wr, geD, ltD h2, cond_true, cond_false, nn, show ((k : Int) == (b.length : Int)) = false from beq_eq_false_iff_ne.2 (by omega), show ((a.length : Int) == (a.length : Int)) = true from beq_self_eq_true _]
     rfl
    rw [Uo _ e, Kr a b ha hb n a.length (k + 1) _ (Nat.le_refl _) (by omega) (by omega) fuel (by omega), d1, d2, Ur, List.map_cons, List.append_assoc]; rfl
   ·obtain rfl : k = b.length := by omega
    have e : Wr a b (out, (a.length : Int), (b.length : Int)) = .done (out, (a.length : Int), (b.length : Int)) := by
     simp only [Wr, geD, cond_false]
    have d2 : b.drop b.length = [] := List.drop_of_length_le (Nat.le_refl _)
    rw [Zp _ e, d1, d2]
    cases n <;> simp only [Ur, List.map_nil, List.append_nil] <;> rfl
theorem Qlh (a b : List ByteArray) : F10 a b = F8 a b := by
 unfold F10 F8
 have e : ∀ x : List ByteArray, (!F24 x) = (F23 x != 0) := fun x => by unfold F24; rw [Xi]; rfl
 rw [e, e]
 cases hn : (bif F23 a != 0 then true else F23 b != 0) with
 | true => rfl
 | false =>
  rw [cond_false, cond_false]
  obtain ⟨na, nb⟩ : F23 a = 0 ∧ F23 b = 0 := by
   cases h1 : (F23 a != 0) with
   | true => rw [h1, cond_true] at hn; cases hn
   | false => rw [h1, cond_false] at hn; exact ⟨by simpa using h1, by simpa using hn⟩
  have la := Pp a na
  have lb := Pp b nb
  have sa := Lm a na
  have sb := Lm b nb
  have hl := Kr a b la lb (Int.toNat (((a.length : Int) - 0) + ((b.length : Int) - 0))) 0 0 [] (Nat.zero_le _) (Nat.zero_le _) (by omega) _ (Nat.lt_succ_self _)
  refine Eq.trans ?_ hl.symm
  obtain ⟨k1, k2, k3⟩ := Kt (Int.toNat (((a.length : Int) - 0) + ((b.length : Int) - 0))) a b sa sb (by omega)
  rw [List.drop_zero, List.drop_zero, List.nil_append]
  generalize Ur (Int.toNat (((a.length : Int) - 0) + ((b.length : Int) - 0))) a b = D at k1 k2 k3
  have hj : F25 a b = D.map (·.2) := by
   refine Rn ?_ k1 fun z => by rw [Qds, k2 z]; rfl
   rw [Bo]
   refine Qbi _ ?_
   rw [List.nodup_iff_pairwise_ne, List.filter_append]
   refine List.pairwise_append.2 ⟨(Gu sa).filter _, (Gu sb).filter _, fun x hx y hy e => ?_⟩
   subst e
   obtain ⟨x1, x2⟩ := List.mem_filter.1 hx
   obtain ⟨y1, _⟩ := List.mem_filter.1 hy
   unfold oneP at x2
   simp [x1, y1] at x2
  have hf := Zt (F25 a b) (fun (s : List ByteArray) x => s ++ [txtD (decide (x ∈ a), x)]) (fun s i => (s, i)) (Bn a b) (fun i s hi => by
   simp only [Bn, ltD hi, cond_true, nn, Yu]
   unfold txtD
   cases decide ((F25 a b).getD i default ∈ a) <;> rfl) (fun s => by simp only [Bn, geD, cond_false]) (fun r => r) (fun (x : List ByteArray × Int) => x.1) []
  refine hf.trans ?_
  rw [Jn (fun x => txtD (decide (x ∈ a), x)), List.nil_append, hj, List.map_map]
  refine List.map_congr_left fun z hz => ?_
  obtain ⟨t, z⟩ := z
  show txtD (decide (z ∈ a), z) = txtD (t, z)
  rw [k3 t z hz]




def Hx (lines : List ByteArray) (key : ByteArray) : Int → Lp Int Int := fun i40 =>
 bif (decide (i40 < (lines.length : Int))) then (bif ((F68 (lines.getD (Int.toNat i40) default)).toList == key.toList) then (.ret i40) else (.next (i40 + 1))) else (.done i40)
def F63 (lines : List ByteArray) (key : ByteArray) : Int :=
 (runL (Hx lines key) ((Int.toNat ((lines.length : Int) - 0)) + 1) 0).fin (fun r => r) (fun i40 => (-1))
abbrev Nl (lines : List ByteArray) : Nat × Int := (((Int.toNat ((lines.length : Int) - 0)) + 1), 0)
abbrev Qhb (lines : List ByteArray) (m39 : Nat) (i40 : Int) : Prop := Int.toNat ((lines.length : Int) - i40) < m39 ∧ (0 : Int) ≤ i40
abbrev Qqp (lines : List ByteArray) (key : ByteArray) : Lp Int Int := LpX (Hx lines key) (Nl lines)
abbrev Ns (lines : List ByteArray) (key : ByteArray) (i : Nat × Int) : Prop := LpJ (Hx lines key) (Nl lines) i (Qhb lines i.1 i.2)
abbrev Qlv (lines : List ByteArray) (key : ByteArray) (i : Nat × Int) (m39 : Nat) (i40 : Int) : Prop := LpH (Hx lines key) (Nl lines) i m39 i40 (Qhb lines (m39 + 1) i40)
abbrev Qnk (lines : List ByteArray) (key : ByteArray) (i40 : Int) (i40_ : Int) (K39 : Prop) : Prop := (Rf (.string key)) ∧ ((.int .i64 i40 : Value) = .int .i64 i40_) ∧ (Im (.l 1 eStr lines)) ∧ K39
theorem un63_0 (lines : List ByteArray) (key : ByteArray) (i : Nat × Int) (h : Ns lines key i) : Qlv lines key i (i.1 - 1) i.2 := ⟨hd1 h.1 h.2.1, hd3 h.2.1, hd2 h.2.1, h.2.2⟩
theorem bk63_0 (lines : List ByteArray) (key : ByteArray) (i : Nat × Int) (m39 : Nat) (i40 : Int) (hl : m39 < i.1) (e : runL (Hx lines key) m39 i40 = Qqp lines key) (h : Qhb lines m39 i40) : ∃ j : Nat × Int, Qnk lines key i40 j.2 (Ns lines key j ∧ j.1 < i.1) := ⟨(m39, i40), rfl, rfl, Imp.refl _, ⟨e, h⟩, hl⟩
theorem en63_0 (lines : List ByteArray) (key : ByteArray) (h : (0 : Int) ≤ 0) : Qnk lines key 0 0 (Ns lines key (Nl lines)) := ⟨rfl, rfl, Imp.refl _, rfl, Nat.lt_succ_self _, h⟩
def S63 (lines : List ByteArray) (key : ByteArray) : Spec := ⟨[.r (.c (.l 1 eStr lines)), .r (.c (.v (.string key)))], .v (vI (F63 lines key)), (∀ k : Nat, (lines.getD k default).size ≤ 1048576)⟩
theorem ok63 (lines : List ByteArray) (key : ByteArray) : (S63 lines key).ok Tryz.prog 63 :=
 Qj mixed (fn := Tryz.f63) (ct := .seqk [(0, 0)] .no (.seq (.seqk [(0, 0)] .no (.blk (.loop (ι := Nat × Int) (fun i => (fun (i40 : Int) => (⟨[(0, some (.h 0 0)), (1, some (.v (.string key))), (5, some (.v (vI i40)))], [(0, some (.shr none (.l 1 eStr lines)))], 1⟩ : St)) i.2) (Ns lines key) (fun i => i.1) (Nl lines) (fun i => (fun (i40 : Int) => (.seq (.seq .no (.cond .no .no)) (.seq (.blk (.seq (.reg [(4, kh68 (lines.getD (Int.toNat i40) default))]) (.cond (.seq .no .no) .no))) (.reg [(1, .bnd)])))) i.2)))) (.seq .no .no))) Tryz.func63 (fun (hpre0 : ∀ k : Nat, (lines.getD k default).size ≤ 1048576) => kn lines fun _ => kn lines fun _ => ai (en63_0 lines key (by omega)) (fun (i0 : Nat × Int) (hi0 : Ns lines key i0) => (fun (m0 : Nat) (i40 : Int) (hh0 : Qlv lines key i0 m0 i40) => have hI0 := hh0.1; have hl0 := hh0.2.1; have _ := hh0.2.2.1; have _ := hh0.2.2.2; ifd (i40 < (lines.length : Int)) (fun h2 _ => ai (by omega : ib i40 lines) (kc68 (lines.getD (Int.toNat i40) default) (by first | omega | exact hpre0 _ | (intros; exact trivial) | (intros; exact Nat.zero_le _)) (ifb ((F68 (lines.getD (Int.toNat i40) default)).toList == key.toList) (fun h3 => fiI i40 (F63 lines key) (finR (Qs hI0 (condT h2 (condT h3 rfl))) rfl)) (fun h3 => ai (iok (i40 + 1) (by omega)) (bk63_0 lines key i0 m0 (i40 + 1) hl0 (Qd hI0 (condT h2 (condF h3 rfl))) (by refine ⟨?_, ?_⟩ <;> omega)))))) (fun h2 _ => have hD0_4 : Qqp lines key = Lp.done i40 := Ql hI0 (condF h2 rfl); fiI (-1) (F63 lines key) (finD hD0_4 rfl))) (i0.1 - 1) i0.2 (un63_0 lines key i0 hi0))) (by kernel_rfl)

theorem Qig (out : List ByteArray) (k : ByteArray) : F63 out k = idxI (fun l : ByteArray => (F68 l).toList == k.toList) out := Bw (fun l : ByteArray => (F68 l).toList == k.toList) out (Hx out k) (fun i => rfl)
theorem key_lt (out : List ByteArray) (k : ByteArray) : F63 out k < (out.length : Int) := by rw [Qig]; exact Qbo _ _
def Vp (lines : List ByteArray) (user : ByteArray) : Int → Lp Int (List ByteArray × Bool) := fun v11 =>
 bif (decide (v11 < ((Qo lines (⟨#[117, 115, 101, 114]⟩ : ByteArray)).length : Int))) then (bif ((((Qo lines (⟨#[117, 115, 101, 114]⟩ : ByteArray)).getD (Int.toNat v11) default).getD (Int.toNat 1) default).toList == user.toList) then (.ret ((F66 (((Qo lines (⟨#[117, 115, 101, 114]⟩ : ByteArray)).getD (Int.toNat v11) default).getD (Int.toNat 2) default)).1, (F66 (((Qo lines (⟨#[117, 115, 101, 114]⟩ : ByteArray)).getD (Int.toNat v11) default).getD (Int.toNat 2) default)).2)) else (.next (v11 + 1))) else (.done v11)
def F33 (lines : List ByteArray) (user : ByteArray) : List ByteArray × Bool :=
 (runL (Vp lines user) ((Int.toNat (((Qo lines (⟨#[117, 115, 101, 114]⟩ : ByteArray)).length : Int) - 0)) + 1) 0).fin (fun r => r) (fun v11 => (([] : List ByteArray), false))
abbrev Nw (lines : List ByteArray) : Nat × Int := (((Int.toNat (((Qo lines (⟨#[117, 115, 101, 114]⟩ : ByteArray)).length : Int) - 0)) + 1), 0)
abbrev Qgs (lines : List ByteArray) (m39 : Nat) (v11 : Int) : Prop := Int.toNat (((Qo lines (⟨#[117, 115, 101, 114]⟩ : ByteArray)).length : Int) - v11) < m39 ∧ (0 : Int) ≤ v11
abbrev Qpl (lines : List ByteArray) (user : ByteArray) : Lp Int (List ByteArray × Bool) := LpX (Vp lines user) (Nw lines)
abbrev Nb (lines : List ByteArray) (user : ByteArray) (i : Nat × Int) : Prop := LpJ (Vp lines user) (Nw lines) i (Qgs lines i.1 i.2)
abbrev Qqd (lines : List ByteArray) (user : ByteArray) (i : Nat × Int) (m39 : Nat) (v11 : Int) : Prop := LpH (Vp lines user) (Nw lines) i m39 v11 (Qgs lines (m39 + 1) v11)
abbrev Qon (lines : List ByteArray) (user : ByteArray) (v11 : Int) (v11_ : Int) (K39 : Prop) : Prop := (Rf (.string user)) ∧ (Rf (.int .i64 ((Qo lines (⟨#[117, 115, 101, 114]⟩ : ByteArray)).length : Int))) ∧ ((.int .i64 v11 : Value) = .int .i64 v11_) ∧ (Im (.l 1 (eL 1 eStr) (Qo lines (⟨#[117, 115, 101, 114]⟩ : ByteArray)))) ∧ K39
theorem un33_0 (lines : List ByteArray) (user : ByteArray) (i : Nat × Int) (h : Nb lines user i) : Qqd lines user i (i.1 - 1) i.2 := ⟨hd1 h.1 h.2.1, hd3 h.2.1, hd2 h.2.1, h.2.2⟩
theorem bk33_0 (lines : List ByteArray) (user : ByteArray) (i : Nat × Int) (m39 : Nat) (v11 : Int) (hl : m39 < i.1) (e : runL (Vp lines user) m39 v11 = Qpl lines user) (h : Qgs lines m39 v11) : ∃ j : Nat × Int, Qon lines user v11 j.2 (Nb lines user j ∧ j.1 < i.1) := ⟨(m39, v11), rfl, rfl, rfl, Imp.refl _, ⟨e, h⟩, hl⟩
theorem en33_0 (lines : List ByteArray) (user : ByteArray) (h : (0 : Int) ≤ 0) : Qon lines user 0 0 (Nb lines user (Nw lines)) := ⟨rfl, rfl, rfl, Imp.refl _, rfl, Nat.lt_succ_self _, h⟩
theorem fi33 (lines : List ByteArray) (user : ByteArray) (r : List ByteArray × Bool) (hF : r = (F33 lines user)) : (Imp (.l 1 eStr r.1) (.l 1 eStr ((F33 lines user).1))) ∧ ((.bool r.2 : Value) = .bool ((F33 lines user).2)) ∧ True := by cases hF; exact ⟨Imp.refl _, rfl, trivial⟩
def S33 (lines : List ByteArray) (user : ByteArray) : Spec := ⟨[.r (.c (.l 1 eStr lines)), .r (.c (.v (.string user)))], .tu [.ow (.l 1 eStr ((F33 lines user).1)), .v (.bool ((F33 lines user).2))], F23 lines = 0 ∧ lines.length ≤ 16 ∧ (∀ k : Nat, (lines.getD k default).size ≤ 1048576)⟩
theorem ok33 (lines : List ByteArray) (user : ByteArray) : (S33 lines user).ok Tryz.prog 33 :=
 Qj mixed (fn := Tryz.f33) (ct := .seqk [(0, 0)] .no (.seq (.seqk [(9, 0)] (.reg [(1, kh65a lines (⟨#[117, 115, 101, 114]⟩ : ByteArray))]) (.blk (.loop (ι := Nat × Int) (fun i => (fun (v11 : Int) => (⟨[(1, some (.v (.string user))), (9, some (.h 0 0)), (10, some (.v (vI ((Qo lines (⟨#[117, 115, 101, 114]⟩ : ByteArray)).length : Int)))), (11, some (.v (vI v11)))], [(0, some (.own 0 (.l 1 (eL 1 eStr) (Qo lines (⟨#[117, 115, 101, 114]⟩ : ByteArray)))))], 1⟩ : St)) i.2) (Nb lines user) (fun i => i.1) (Nw lines) (fun i => (fun (v11 : Int) => (.seq .no (.seq (.cond .no .no) (.seq (.blk (.seq .no (.seq .no (.cond (.seq (.reg [(3, kh66 (((Qo lines (⟨#[117, 115, 101, 114]⟩ : ByteArray)).getD (Int.toNat v11) default).getD (Int.toNat 2) default))]) .no) .no)))) (.reg [(0, .bnd)]))))) i.2)))) (.seq .no .no))) Tryz.func33 (fun (hp : F23 lines = 0 ∧ lines.length ≤ 16 ∧ (∀ k : Nat, (lines.getD k default).size ≤ 1048576)) => have hpre0 := hp.1; have hpre1 := hp.2.1; have hpre2 := hp.2.2; kn lines fun _ => kc65a lines (⟨#[117, 115, 101, 114]⟩ : ByteArray) (by omega) (by first | assumption | exact hpre2 _ | exact fun k _ => hpre2 k | (intros; exact trivial) | (intros; exact Nat.zero_le _)) (by omega) (fun gv1 => kn (Qo lines (⟨#[117, 115, 101, 114]⟩ : ByteArray)) fun _ => ai (en33_0 lines user (by omega)) (fun (i0 : Nat × Int) (hi0 : Nb lines user i0) => (fun (m0 : Nat) (v11 : Int) (hh0 : Qqd lines user i0 m0 v11) => have hI0 := hh0.1; have hl0 := hh0.2.1; have _ := hh0.2.2.1; have _ := hh0.2.2.2; ifd (v11 < ((Qo lines (⟨#[117, 115, 101, 114]⟩ : ByteArray)).length : Int)) (fun h3 _ => ai (by (first | omega | (have h9 := Qbh lines (by omega) (Int.toNat v11) (by omega); unfold Vl at h9; omega)) : 0 ≤ v11 ∧ v11 < ((Qo lines (⟨#[117, 115, 101, 114]⟩ : ByteArray)).length : Int)) (ai (by (first | omega | (have h9 := Qbh lines (by omega) (Int.toNat v11) (by omega); unfold Vl at h9; omega)) : 0 ≤ (1 : Int) ∧ (1 : Int) < (((Qo lines (⟨#[117, 115, 101, 114]⟩ : ByteArray)).getD (Int.toNat v11) default).length : Int)) (ifb ((((Qo lines (⟨#[117, 115, 101, 114]⟩ : ByteArray)).getD (Int.toNat v11) default).getD (Int.toNat 1) default).toList == user.toList) (fun h4 => ai (by (first | omega | (have h9 := Qbh lines (by omega) (Int.toNat v11) (by omega); unfold Vl at h9; omega)) : 0 ≤ (2 : Int) ∧ (2 : Int) < (((Qo lines (⟨#[117, 115, 101, 114]⟩ : ByteArray)).getD (Int.toNat v11) default).length : Int)) (kc66 (((Qo lines (⟨#[117, 115, 101, 114]⟩ : ByteArray)).getD (Int.toNat v11) default).getD (Int.toNat 2) default) (by exact Qlk lines _ (by omega) _ _) (fi33 lines user ((F66 (((Qo lines (⟨#[117, 115, 101, 114]⟩ : ByteArray)).getD (Int.toNat v11) default).getD (Int.toNat 2) default)).1, (F66 (((Qo lines (⟨#[117, 115, 101, 114]⟩ : ByteArray)).getD (Int.toNat v11) default).getD (Int.toNat 2) default)).2) (finR (Qs hI0 (condT h3 (condT h4 rfl))) rfl)))) (fun h4 => ai (iok (v11 + 1) (by omega)) (bk33_0 lines user i0 m0 (v11 + 1) hl0 (Qd hI0 (condT h3 (condF h4 rfl))) (by refine ⟨?_, ?_⟩ <;> omega)))))) (fun h3 _ => have hD0_5 : Qpl lines user = Lp.done v11 := Ql hI0 (condF h3 rfl); (fun hF : (([] : List ByteArray), false) = (F33 lines user) => ai ((Imp.nil 1 eStr).trans (Imp.of_eq (congrArg (fun r : List ByteArray × Bool => Dat.l 1 eStr r.1) hF))) (ai (congrArg (fun r : List ByteArray × Bool => (.bool r.2 : Value)) hF) trivial)) (finD hD0_5 rfl))) (i0.1 - 1) i0.2 (un33_0 lines user i0 hi0)))) (by kernel_rfl)
theorem kc63 (lines : List ByteArray) (key : ByteArray) {K_ : Prop} (p0_ : ∀ k : Nat, (lines.getD k default).size ≤ 1048576) (k_ : K_) : (∀ k : Nat, (lines.getD k default).size ≤ 1048576) ∧ (Imp (.l 1 eStr lines) (.l 1 eStr lines)) ∧ (Imp (.v (.string key)) (.v (.string key))) ∧ K_ := ⟨p0_, Imp.refl _, Imp.refl _, k_⟩
abbrev kh63 (lines : List ByteArray) (key : ByteArray) : Hint true Tryz.prog := .call 63 (S63 lines key) (ok63 lines key) none
def F29 (lines : List ByteArray) (key : ByteArray) : ByteArray :=
 bif (decide ((F63 lines key) < 0)) then (⟨#[]⟩ : ByteArray) else (lines.getD (Int.toNat (F63 lines key)) default)
def S29 (lines : List ByteArray) (key : ByteArray) : Spec := ⟨[.r (.c (.l 1 eStr lines)), .r (.c (.v (.string key)))], .v (.string (F29 lines key)), (∀ k : Nat, (lines.getD k default).size ≤ 1048576)⟩
theorem ok29 (lines : List ByteArray) (key : ByteArray) : (S29 lines key).ok Tryz.prog 29 :=
 Qj mixed (fn := Tryz.f29) (ct := .seqk [(0, 0)] .no (.seq (.reg [(2, kh63 lines key)]) (.seq (.seq .no (.cond (.seq .no .no) .no)) (.seq .no .no)))) Tryz.func29 (fun (hpre0 : ∀ k : Nat, (lines.getD k default).size ≤ 1048576) => kn lines fun _ => kc63 lines key (by first | assumption | exact hpre0 _ | exact fun k _ => hpre0 k | (intros; exact trivial) | (intros; exact Nat.zero_le _)) (have gv1 : (F63 lines key) < (lines.length : Int) := (by exact key_lt _ _); ifd ((F63 lines key) < 0) (fun h2 _ => fiS w13_ (F29 lines key) (condT h2 rfl)) (fun h2 _ => ai (by omega : ib (F63 lines key) lines) (fiS (lines.getD (Int.toNat (F63 lines key)) default) (F29 lines key) (condF h2 rfl))))) (by kernel_rfl)
def F30 (line : ByteArray) (k : Int) : ByteArray :=
 bif (decide (k < (((F64 line).1).length : Int))) then (((F64 line).1).getD (Int.toNat k) default) else (⟨#[]⟩ : ByteArray)
def S30 (line : ByteArray) (k : Int) : Spec := ⟨[.r (.c (.v (.string line))), .r (.c (.v (vI k)))], .v (.string (F30 line k)), line.size ≤ 1048576 ∧ 0 ≤ k⟩
theorem ok30 (line : ByteArray) (k : Int) : (S30 line k).ok Tryz.prog 30 :=
 Qj mixed (fn := Tryz.f30) (ct := .seq .no (.seq (.reg [(1, kh64 line)]) (.seq (.seq .no (.cond (.seq .no .no) .no)) (.seq .no .no)))) Tryz.func30 (fun (hp : line.size ≤ 1048576 ∧ 0 ≤ k) => have hpre0 := hp.1; have hpre1 := hp.2; kc64 line (by omega) (fun gv1 gv2 => ifd (k < (((F64 line).1).length : Int)) (fun h3 _ => ai (by omega : ib k ((F64 line).1)) (fiS (((F64 line).1).getD (Int.toNat k) default) (F30 line k) (condT h3 rfl))) (fun h3 _ => fiS w13_ (F30 line k) (condF h3 rfl)))) (by kernel_rfl)
theorem Qjw (lines : List ByteArray) (key : ByteArray) (h : ∀ k : Nat, (lines.getD k default).size ≤ 1048576) : (F29 lines key).size ≤ 1048576 := by
 unfold F29
 cases decide (F63 lines key < 0) with
 | true => exact Nat.zero_le _
 | false => exact h _
theorem Qti (line : ByteArray) (k : Int) : (F30 line k).size ≤ 1048576 := by
 unfold F30
 cases decide (k < ((F64 line).1.length : Int)) with
 | true => exact Qa line _
 | false => exact Nat.zero_le _
theorem Qaw (line : ByteArray) : (F132 line).1.size ≤ 200 := by
 unfold F132
 rw [Vc, ← Jh]
 cases (bif (!((F133 line).2)) then true else (!(F173 ((F133 line).1)))) with
 | true => exact Nat.zero_le _
 | false =>
  have h := Qic (F133 line).1 (⟨#[32]⟩ : ByteArray) 24 (Nz line)
  have hl := Hq line
  have h2 : (F133 line).1.length * (24 + (⟨#[32]⟩ : ByteArray).size) ≤ 8 * 25 := Nat.mul_le_mul_right 25 hl
  show (Uu (F133 line).1 (⟨#[32]⟩ : ByteArray)).size ≤ 200
  omega
theorem Pd (lines : List ByteArray) (h : F23 lines = 0) : ∀ l ∈ lines, l.size ≤ 200 := fun l hl => by
 have hk := (Wm lines h).2 l hl
 have := Qaw l
 rw [((Nd l).1 hk).2] at this
 exact this
theorem Qmi (a b : List ByteArray) (na : F23 a = 0) (nb : F23 b = 0) : ∃ D : List (Bool × ByteArray), F8 a b = D.map txtD ∧ F25 a b = D.map (·.2) := by
 have hi : F10 a b = (F25 a b).map fun x => txtD (decide (x ∈ a), x) := by
  unfold F10
  have e : ∀ x : List ByteArray, (!F24 x) = (F23 x != 0) := fun x => by unfold F24; rw [Xi]; rfl
  rw [e, e, na, nb]
  have hf := Zt (F25 a b) (fun (s : List ByteArray) x => s ++ [txtD (decide (x ∈ a), x)]) (fun s i => (s, i)) (Bn a b) (fun i s hi => by
   simp only [Bn, ltD hi, cond_true, nn, Yu]
   unfold txtD
   cases decide ((F25 a b).getD i default ∈ a) <;> rfl) (fun s => by simp only [Bn, geD, cond_false]) (fun r => r) (fun (x : List ByteArray × Int) => x.1) []
  refine Eq.trans hf ?_
  rw [Jn (fun x => txtD (decide (x ∈ a), x)), List.nil_append]
 refine ⟨(F25 a b).map fun x => (decide (x ∈ a), x), ?_, ?_⟩
 ·rw [← Qlh, hi, List.map_map]; rfl
 ·rw [List.map_map]
  exact (List.map_id _).symm
theorem Me (a b : List ByteArray) : ∀ k : Nat, ((F8 a b).getD k default).size ≤ 1048576 := Qil fun x hx => by
 cases hn : (bif F23 a != 0 then true else F23 b != 0) with
 | true =>
  unfold F8 at hx
  rw [hn, cond_true] at hx
  cases hx
 | false =>
  obtain ⟨na, nb⟩ : F23 a = 0 ∧ F23 b = 0 := by
   cases h1 : (F23 a != 0) with
   | true => rw [h1, cond_true] at hn; cases hn
   | false => rw [h1, cond_false] at hn; exact ⟨by simpa using h1, by simpa using hn⟩
  obtain ⟨D, e1, e2⟩ := Qmi a b na nb
  rw [e1] at hx
  obtain ⟨⟨t, z⟩, hz, rfl⟩ := List.mem_map.1 hx
  have hz2 : z ∈ F25 a b := by rw [e2]; exact List.mem_map.2 ⟨_, hz, rfl⟩
  have h200 : z.size ≤ 200 := by
   rcases Qds.1 hz2 with h | h
   ·exact Pd a na z h.1
   ·exact Pd b nb z h.1
  unfold txtD
  cases t
  ·show ((⟨#[43, 32]⟩ : ByteArray) ++ z).size ≤ 1048576
   rw [ByteArray.size_append]
   have : (⟨#[43, 32]⟩ : ByteArray).size = 2 := rfl
   omega
  ·show ((⟨#[45, 32]⟩ : ByteArray) ++ z).size ≤ 1048576
   rw [ByteArray.size_append]
   have : (⟨#[45, 32]⟩ : ByteArray).size = 2 := rfl
   omega
theorem kc33 (lines : List ByteArray) (user : ByteArray) {K_ : Prop} (p0_ : F23 lines = 0) (p1_ : lines.length ≤ 16) (p2_ : ∀ k : Nat, (lines.getD k default).size ≤ 1048576) (k_ : K_) : (F23 lines = 0 ∧ lines.length ≤ 16 ∧ (∀ k : Nat, (lines.getD k default).size ≤ 1048576)) ∧ (Imp (.l 1 eStr lines) (.l 1 eStr lines)) ∧ (Imp (.v (.string user)) (.v (.string user))) ∧ K_ := ⟨⟨p0_, p1_, p2_⟩, Imp.refl _, Imp.refl _, k_⟩
abbrev kh33f (lines : List ByteArray) (user : ByteArray) : Hint false Tryz.prog := .call 33 (S33 lines user) ((ok33 lines user).to false) none
theorem kg26 {K_ : Prop} (c_ b_ : Bool) (s : List ByteArray) (v1 : ByteArray) (k_ : K_) : (c_ = b_ → True) ∧ (c_ = b_ → Imp (.l 1 eStr s) (.l 1 eStr s)) ∧ (c_ = b_ → Imp (.v (.string v1)) (.v (.string v1))) ∧ K_ := ⟨fun _ => trivial, fun _ => Imp.refl _, fun _ => Imp.refl _, k_⟩
def Jy (now : List ByteArray) (next : List ByteArray) (user : ByteArray) : Int → Lp Int Bool := fun v34 =>
 bif (decide (v34 < ((F25 now next).length : Int))) then (bif (bif (!(F26 ((F33 now user).1) (⟨#[97, 108, 108]⟩ : ByteArray))) then (!(F26 ((F33 now user).1) ((F34 ((F25 now next).getD (Int.toNat v34) default) (⟨#[32]⟩ : ByteArray)).1))) else false) then (.ret false) else (.next (v34 + 1))) else (.done v34)
def F15 (now : List ByteArray) (next : List ByteArray) (user : ByteArray) : Bool :=
 bif (bif (!(F24 now)) then true else (!(F24 next))) then false else (bif (!((F33 now user).2)) then false else ((runL (Jy now next user) ((Int.toNat (((F25 now next).length : Int) - 0)) + 1) 0).fin (fun r => r) (fun v34 => true)))
abbrev Py (now : List ByteArray) (next : List ByteArray) : Nat × Int := (((Int.toNat (((F25 now next).length : Int) - 0)) + 1), 0)
abbrev Qfs (now : List ByteArray) (next : List ByteArray) (m39 : Nat) (v34 : Int) : Prop := Int.toNat (((F25 now next).length : Int) - v34) < m39 ∧ (0 : Int) ≤ v34
abbrev Qlw (now : List ByteArray) (next : List ByteArray) (user : ByteArray) : Lp Int Bool := LpX (Jy now next user) (Py now next)
abbrev Pl (now : List ByteArray) (next : List ByteArray) (user : ByteArray) (i : Nat × Int) : Prop := LpJ (Jy now next user) (Py now next) i (Qfs now next i.1 i.2)
abbrev Qmj (now : List ByteArray) (next : List ByteArray) (user : ByteArray) (i : Nat × Int) (m39 : Nat) (v34 : Int) : Prop := LpH (Jy now next user) (Py now next) i m39 v34 (Qfs now next (m39 + 1) v34)
abbrev Qly (now : List ByteArray) (next : List ByteArray) (user : ByteArray) (v34 : Int) (v34_ : Int) (K39 : Prop) : Prop := (Rf (.int .i64 ((F25 now next).length : Int))) ∧ ((.int .i64 v34 : Value) = .int .i64 v34_) ∧ (Im (.l 1 eStr ((F33 now user).1))) ∧ (Im (.l 1 eStr (F25 now next))) ∧ K39
theorem un15_0 (now : List ByteArray) (next : List ByteArray) (user : ByteArray) (i : Nat × Int) (h : Pl now next user i) : Qmj now next user i (i.1 - 1) i.2 := ⟨hd1 h.1 h.2.1, hd3 h.2.1, hd2 h.2.1, h.2.2⟩
theorem bk15_0 (now : List ByteArray) (next : List ByteArray) (user : ByteArray) (i : Nat × Int) (m39 : Nat) (v34 : Int) (hl : m39 < i.1) (e : runL (Jy now next user) m39 v34 = Qlw now next user) (h : Qfs now next m39 v34) : ∃ j : Nat × Int, Qly now next user v34 j.2 (Pl now next user j ∧ j.1 < i.1) := ⟨(m39, v34), rfl, rfl, Imp.refl _, Imp.refl _, ⟨e, h⟩, hl⟩
theorem en15_0 (now : List ByteArray) (next : List ByteArray) (user : ByteArray) (h : (0 : Int) ≤ 0) : Qly now next user 0 0 (Pl now next user (Py now next)) := ⟨rfl, rfl, Imp.refl _, Imp.refl _, rfl, Nat.lt_succ_self _, h⟩
def S15 (now : List ByteArray) (next : List ByteArray) (user : ByteArray) : Spec := ⟨[.r (.c (.l 1 eStr now)), .r (.c (.l 1 eStr next)), .r (.c (.v (.string user)))], .v (.bool (F15 now next user)), now.length ≤ 1048576 ∧ next.length ≤ 1048576 ∧ (∀ k : Nat, (now.getD k default).size ≤ 1048576) ∧ (∀ k : Nat, (next.getD k default).size ≤ 1048576)⟩
theorem ok15 (now : List ByteArray) (next : List ByteArray) (user : ByteArray) : (S15 now next user).ok Tryz.prog 15 false :=
 Qj mixed (fn := Tryz.f15) (ct := .seqk [(0, 0), (1, 0)] .no (.seq (.seq (.reg [(1, kh24 now), (5, kh24 next)]) (.cond (.seq .no .no) .no)) (.seq (.reg [(2, kh33f now user)]) (.seq (.seq .no (.cond (.seq .no .no) .no)) (.seq (.seqk [(7, 0), (32, 0)] (.reg [(2, kh25f now next)]) (.blk (.loop (ι := Nat × Int) (fun i => (fun (v34 : Int) => (⟨[(7, some (.h 0 0)), (32, some (.h 1 0)), (33, some (.v (vI ((F25 now next).length : Int)))), (34, some (.v (vI v34)))], [(0, some (.own 0 (.l 1 eStr ((F33 now user).1)))), (1, some (.own 1 (.l 1 eStr (F25 now next))))], 2⟩ : St)) i.2) (Pl now next user) (fun i => i.1) (Py now next) (fun i => (fun (v34 : Int) => (.seq .no (.seq (.cond .no .no) (.seq (.blk (.seq .no (.seq (.reg [(1, Qju ((F25 now next).getD (Int.toNat v34) default) w15_)]) (.seq (.reg [(1, kh26f ((F33 now user).1) w11_), (6, kh26f ((F33 now user).1) ((F34 ((F25 now next).getD (Int.toNat v34) default) w15_).1))]) (.cond (.seq .no .no) .no))))) (.reg [(0, .bnd)]))))) i.2)))) (.seq .no .no)))))) Tryz.func15 (fun (hp : now.length ≤ 1048576 ∧ next.length ≤ 1048576 ∧ (∀ k : Nat, (now.getD k default).size ≤ 1048576) ∧ (∀ k : Nat, (next.getD k default).size ≤ 1048576)) => have hpre0 := hp.1; have hpre1 := hp.2.1; have hpre2 := hp.2.2.1; have hpre3 := hp.2.2.2; kn now fun _ => kn next fun _ => kc24 now (by omega) (by first | assumption | exact hpre2 _ | exact fun k _ => hpre2 k | exact hpre3 _ | exact fun k _ => hpre3 k | (intros; exact trivial) | (intros; exact Nat.zero_le _)) (kg24 (!(F24 now)) false next (fun k1 => ⟨(by omega), (by first | assumption | exact hpre2 _ | exact fun k _ => hpre2 k | exact hpre3 _ | exact fun k _ => hpre3 k | (intros; exact trivial) | (intros; exact Nat.zero_le _))⟩) (ifb (bif (!(F24 now)) then true else (!(F24 next))) (fun h2 => fiB false (F15 now next user) (condT h2 rfl)) (fun h2 => kc33 now user (by first | assumption | exact Qhj _ (Yn (by assumption)).1 | exact Qx _ (Yn (by assumption)).1) (by first | assumption | exact Qhj _ (Yn (by assumption)).1 | exact Qx _ (Yn (by assumption)).1) (by first | assumption | exact Qhj _ (Yn (by assumption)).1 | exact Qx _ (Yn (by assumption)).1) (ifb (!((F33 now user).2)) (fun h3 => have _ := (Km h3); fiB false (F15 now next user) (condF h2 (condT h3 rfl))) (fun h3 => have _ := (Uv h3); kc25 now next (by first | assumption | exact Qx _ (Yn (by assumption)).1 | exact Qx _ (Yn (by assumption)).2) (by first | assumption | exact Qx _ (Yn (by assumption)).1 | exact Qx _ (Yn (by assumption)).2) (by first | assumption | exact Qx _ (Yn (by assumption)).1 | exact Qx _ (Yn (by assumption)).2) (by first | assumption | exact Qx _ (Yn (by assumption)).1 | exact Qx _ (Yn (by assumption)).2) (by first | assumption | exact Qx _ (Yn (by assumption)).1 | exact Qx _ (Yn (by assumption)).2) (by first | assumption | exact Qx _ (Yn (by assumption)).1 | exact Qx _ (Yn (by assumption)).2) (by first | assumption | exact Qx _ (Yn (by assumption)).1 | exact Qx _ (Yn (by assumption)).2) (by first | assumption | exact Qx _ (Yn (by assumption)).1 | exact Qx _ (Yn (by assumption)).2) (fun gv4 gv5 => kn ((F33 now user).1) fun _ => kn (F25 now next) fun _ => ai (en15_0 now next user (by omega)) (fun (i0 : Nat × Int) (hi0 : Pl now next user i0) => (fun (m0 : Nat) (v34 : Int) (hh0 : Qmj now next user i0 m0 v34) => have hI0 := hh0.1; have hl0 := hh0.2.1; have _ := hh0.2.2.1; have _ := hh0.2.2.2; ifd (v34 < ((F25 now next).length : Int)) (fun h7 _ => ai (by omega : ib v34 (F25 now next)) (kc34 ((F25 now next).getD (Int.toNat v34) default) w15_ (by first | decide | (have hz := (by assumption : ∀ k : Nat, ((F25 now next).getD k default).size ≤ 1048576) (Int.toNat v34); omega)) (fun gv8 gv9 => kc26 ((F33 now user).1) w11_ (kg26 (!(F26 ((F33 now user).1) w11_)) true ((F33 now user).1) ((F34 ((F25 now next).getD (Int.toNat v34) default) w15_).1) (ifb (bif (!(F26 ((F33 now user).1) w11_)) then (!(F26 ((F33 now user).1) ((F34 ((F25 now next).getD (Int.toNat v34) default) w15_).1))) else false) (fun h11 => fiB false (F15 now next user) (condF h2 (condF h3 (finR (Qs hI0 (condT h7 (condT h11 rfl))) rfl)))) (fun h11 => ai (iok (v34 + 1) (by omega)) (bk15_0 now next user i0 m0 (v34 + 1) hl0 (Qd hI0 (condT h7 (condF h11 rfl))) (by refine ⟨?_, ?_⟩ <;> omega)))))))) (fun h7 _ => have hD0_12 : Qlw now next user = Lp.done v34 := Ql hI0 (condF h7 rfl); fiB true (F15 now next user) (condF h2 (condF h3 (finD hD0_12 rfl))))) (i0.1 - 1) i0.2 (un15_0 now next user i0 hi0))))))))) (by kernel_rfl)
theorem kc29 (lines : List ByteArray) (key : ByteArray) {K_ : Prop} (p0_ : ∀ k : Nat, (lines.getD k default).size ≤ 1048576) (k_ : K_) : (∀ k : Nat, (lines.getD k default).size ≤ 1048576) ∧ (Imp (.l 1 eStr lines) (.l 1 eStr lines)) ∧ (Imp (.v (.string key)) (.v (.string key))) ∧ K_ := ⟨p0_, Imp.refl _, Imp.refl _, k_⟩
abbrev kh29 (lines : List ByteArray) (key : ByteArray) : Hint true Tryz.prog := .call 29 (S29 lines key) (ok29 lines key) none
theorem kc30 (line : ByteArray) (k : Int) {K_ : Prop} (p0_ : line.size ≤ 1048576) (p1_ : 0 ≤ k) (k_ : K_) : (line.size ≤ 1048576 ∧ 0 ≤ k) ∧ (Imp (.v (.string line)) (.v (.string line))) ∧ (Imp (.v (vI k)) (.v (vI k))) ∧ K_ := ⟨⟨p0_, p1_⟩, Imp.refl _, Imp.refl _, k_⟩
abbrev kh30 (line : ByteArray) (k : Int) : Hint true Tryz.prog := .call 30 (S30 line k) (ok30 line k) none
theorem kc8 (a : List ByteArray) (b : List ByteArray) {K_ : Prop} (p0_ : a.length ≤ 1048576) (p1_ : b.length ≤ 1048576) (p2_ : ∀ k : Nat, (a.getD k default).size ≤ 1048576) (p3_ : ∀ k : Nat, (b.getD k default).size ≤ 1048576) (k_ : K_) : (a.length ≤ 1048576 ∧ b.length ≤ 1048576 ∧ (∀ k : Nat, (a.getD k default).size ≤ 1048576) ∧ (∀ k : Nat, (b.getD k default).size ≤ 1048576)) ∧ (Imp (.l 1 eStr a) (.l 1 eStr a)) ∧ (Imp (.l 1 eStr b) (.l 1 eStr b)) ∧ K_ := ⟨⟨p0_, p1_, p2_, p3_⟩, Imp.refl _, Imp.refl _, k_⟩
abbrev kh8 (a : List ByteArray) (b : List ByteArray) : Hint true Tryz.prog := .call 8 (S8 a b) (ok8 a b) none
theorem kg32 {K_ : Prop} (c_ b_ : Bool) (s : ByteArray) (at' : Int) (p_ : c_ = b_ → s.size ≤ 1048576) (k_ : K_) : (c_ = b_ → s.size ≤ 1048576) ∧ (c_ = b_ → Imp (.v (.string s)) (.v (.string s))) ∧ (c_ = b_ → Imp (.v (.int .u8 at')) (.v (.int .u8 at'))) ∧ K_ := ⟨p_, fun _ => Imp.refl _, fun _ => Imp.refl _, k_⟩
theorem kg30 {K_ : Prop} (c_ b_ : Bool) (line : ByteArray) (k : Int) (p_ : c_ = b_ → line.size ≤ 1048576 ∧ 0 ≤ k) (k_ : K_) : (c_ = b_ → line.size ≤ 1048576 ∧ 0 ≤ k) ∧ (c_ = b_ → Imp (.v (.string line)) (.v (.string line))) ∧ (c_ = b_ → Imp (.v (vI k)) (.v (vI k))) ∧ K_ := ⟨p_, fun _ => Imp.refl _, fun _ => Imp.refl _, k_⟩
theorem kg31 {K_ : Prop} (c_ b_ : Bool) (list : List ByteArray) (s : ByteArray) (k_ : K_) : (c_ = b_ → True) ∧ (c_ = b_ → Imp (.l 1 eStr list) (.l 1 eStr list)) ∧ (c_ = b_ → Imp (.v (.string s)) (.v (.string s))) ∧ K_ := ⟨fun _ => trivial, fun _ => Imp.refl _, fun _ => Imp.refl _, k_⟩
abbrev w23_ : ByteArray := ⟨#[117, 115, 101, 114, 32]⟩
def Vy (now : List ByteArray) (next : List ByteArray) (user : ByteArray) : Int → Lp Int Bool := fun i40 =>
 bif (decide (i40 < ((F8 now next).length : Int))) then (bif (bif (!((F30 (F29 now ((⟨#[117, 115, 101, 114, 32]⟩ : ByteArray) ++ user)) 2).toList == (⟨#[97, 108, 108]⟩ : ByteArray).toList)) then (!(F31 (F32 (F30 (F29 now ((⟨#[117, 115, 101, 114, 32]⟩ : ByteArray) ++ user)) 2) 44) (F30 ((F8 now next).getD (Int.toNat i40) default) 1))) else false) then (.ret false) else (.next (i40 + 1))) else (.done i40)
def F14 (now : List ByteArray) (next : List ByteArray) (user : ByteArray) : Bool :=
 bif (bif (bif ((F23 now) != 0) then true else ((F23 next) != 0)) then true else (!(F28 user))) then false else (bif ((F29 now ((⟨#[117, 115, 101, 114, 32]⟩ : ByteArray) ++ user)).toList == (⟨#[]⟩ : ByteArray).toList) then false else ((runL (Vy now next user) ((Int.toNat (((F8 now next).length : Int) - 0)) + 1) 0).fin (fun r => r) (fun i40 => true)))
abbrev Mn (now : List ByteArray) (next : List ByteArray) : Nat × Int := (((Int.toNat (((F8 now next).length : Int) - 0)) + 1), 0)
abbrev Qeh (now : List ByteArray) (next : List ByteArray) (m39 : Nat) (i40 : Int) : Prop := Int.toNat (((F8 now next).length : Int) - i40) < m39 ∧ (0 : Int) ≤ i40
abbrev Qox (now : List ByteArray) (next : List ByteArray) (user : ByteArray) : Lp Int Bool := LpX (Vy now next user) (Mn now next)
abbrev Mt (now : List ByteArray) (next : List ByteArray) (user : ByteArray) (i : Nat × Int) : Prop := LpJ (Vy now next user) (Mn now next) i (Qeh now next i.1 i.2)
abbrev Qmr (now : List ByteArray) (next : List ByteArray) (user : ByteArray) (i : Nat × Int) (m39 : Nat) (i40 : Int) : Prop := LpH (Vy now next user) (Mn now next) i m39 i40 (Qeh now next (m39 + 1) i40)
abbrev Qqs (now : List ByteArray) (next : List ByteArray) (user : ByteArray) (i40 : Int) (i40_ : Int) (K39 : Prop) : Prop := (Rf (.string (F30 (F29 now (w23_ ++ user)) 2))) ∧ ((.int .i64 i40 : Value) = .int .i64 i40_) ∧ (Im (.l 1 eStr (F8 now next))) ∧ K39
theorem un14_0 (now : List ByteArray) (next : List ByteArray) (user : ByteArray) (i : Nat × Int) (h : Mt now next user i) : Qmr now next user i (i.1 - 1) i.2 := ⟨hd1 h.1 h.2.1, hd3 h.2.1, hd2 h.2.1, h.2.2⟩
theorem bk14_0 (now : List ByteArray) (next : List ByteArray) (user : ByteArray) (i : Nat × Int) (m39 : Nat) (i40 : Int) (hl : m39 < i.1) (e : runL (Vy now next user) m39 i40 = Qox now next user) (h : Qeh now next m39 i40) : ∃ j : Nat × Int, Qqs now next user i40 j.2 (Mt now next user j ∧ j.1 < i.1) := ⟨(m39, i40), rfl, rfl, Imp.refl _, ⟨e, h⟩, hl⟩
theorem en14_0 (now : List ByteArray) (next : List ByteArray) (user : ByteArray) (h : (0 : Int) ≤ 0) : Qqs now next user 0 0 (Mt now next user (Mn now next)) := ⟨rfl, rfl, Imp.refl _, rfl, Nat.lt_succ_self _, h⟩
def S14 (now : List ByteArray) (next : List ByteArray) (user : ByteArray) : Spec := ⟨[.r (.c (.l 1 eStr now)), .r (.c (.l 1 eStr next)), .r (.c (.v (.string user)))], .v (.bool (F14 now next user)), now.length ≤ 1048576 ∧ next.length ≤ 1048576 ∧ user.size ≤ 1048576 ∧ (∀ k : Nat, (now.getD k default).size ≤ 1048576) ∧ (∀ k : Nat, (next.getD k default).size ≤ 1048576)⟩
theorem ok14 (now : List ByteArray) (next : List ByteArray) (user : ByteArray) : (S14 now next user).ok Tryz.prog 14 :=
 Qj mixed (fn := Tryz.f14) (ct := .seqk [(0, 0), (1, 0)] .no (.seq (.seq (.reg [(1, kh23 now), (5, kh23 next), (10, kh28 user)]) (.cond (.seq .no .no) .no)) (.seq (.reg [(3, kh29 now (w23_ ++ user))]) (.seq (.seq .no (.cond (.seq .no .no) .no)) (.seq (.reg [(1, kh30 (F29 now (w23_ ++ user)) 2)]) (.seq (.reg [(2, kh8 now next)]) (.seq (.seqk [(9, 0)] .no (.blk (.loop (ι := Nat × Int) (fun i => (fun (i40 : Int) => (⟨[(8, some (.v (.string (F30 (F29 now (w23_ ++ user)) 2)))), (9, some (.h 0 0)), (10, some (.v (vI i40)))], [(0, some (.own 0 (.l 1 eStr (F8 now next))))], 1⟩ : St)) i.2) (Mt now next user) (fun i => i.1) (Mn now next) (fun i => (fun (i40 : Int) => (.seq (.seq .no (.cond .no .no)) (.seq (.blk (.seq (.reg [(4, kh32 (F30 (F29 now (w23_ ++ user)) 2) 44), (9, kh30 ((F8 now next).getD (Int.toNat i40) default) 1), (10, kh31 (F32 (F30 (F29 now (w23_ ++ user)) 2) 44) (F30 ((F8 now next).getD (Int.toNat i40) default) 1))]) (.cond (.seq .no .no) .no))) (.reg [(1, .bnd)])))) i.2)))) (.seq .no .no)))))))) Tryz.func14 (fun (hp : now.length ≤ 1048576 ∧ next.length ≤ 1048576 ∧ user.size ≤ 1048576 ∧ (∀ k : Nat, (now.getD k default).size ≤ 1048576) ∧ (∀ k : Nat, (next.getD k default).size ≤ 1048576)) => have hpre0 := hp.1; have hpre1 := hp.2.1; have hpre2 := hp.2.2.1; have hpre3 := hp.2.2.2.1; have hpre4 := hp.2.2.2.2; kn now fun _ => kn next fun _ => kc23 now (by first | assumption | exact hpre3 _ | exact fun k _ => hpre3 k | exact hpre4 _ | exact fun k _ => hpre4 k | (intros; exact trivial) | (intros; exact Nat.zero_le _)) (kg23 ((F23 now) != 0) false next (fun k1 => have _ := bneF k1; (by first | assumption | exact hpre3 _ | exact fun k _ => hpre3 k | exact hpre4 _ | exact fun k _ => hpre4 k | (intros; exact trivial) | (intros; exact Nat.zero_le _))) (kg28 (bif ((F23 now) != 0) then true else ((F23 next) != 0)) false user (fun k2 => have _ := bneF (orF1 k2); have _ := bneF (orF2 k2); (by first | omega | (simp only [lens, ib] at * <;> omega))) (ifb (bif (bif ((F23 now) != 0) then true else ((F23 next) != 0)) then true else (!(F28 user))) (fun h3 => fiB false (F14 now next user) (condT h3 rfl)) (fun h3 => have _ := bneF (orF1 (orF1 h3)); have _ := bneF (orF2 (orF1 h3)); ai (by (have hs : w23_.size = 5 := rfl; omega) : ((w23_.size + user.size : Nat) : Int) ≤ 9223372036854775807) (kc29 now (w23_ ++ user) (by first | assumption | exact hpre3 _ | exact fun k _ => hpre3 k | exact hpre4 _ | exact fun k _ => hpre4 k | (intros; exact trivial) | (intros; exact Nat.zero_le _)) (ifb ((F29 now (w23_ ++ user)).toList == w13_.toList) (fun h4 => fiB false (F14 now next user) (condF h3 (condT h4 rfl))) (fun h4 => kc30 (F29 now (w23_ ++ user)) 2 (by first | omega | exact Qjw _ _ (by assumption) | exact Me _ _ _) (by first | omega | exact Qjw _ _ (by assumption) | exact Me _ _ _) (kc8 now next (by first | omega | (simp only [lens, ib] at * <;> omega)) (by first | omega | (simp only [lens, ib] at * <;> omega)) (by first | assumption | exact hpre3 _ | exact fun k _ => hpre3 k | exact hpre4 _ | exact fun k _ => hpre4 k | (intros; exact trivial) | (intros; exact Nat.zero_le _)) (by first | assumption | exact hpre3 _ | exact fun k _ => hpre3 k | exact hpre4 _ | exact fun k _ => hpre4 k | (intros; exact trivial) | (intros; exact Nat.zero_le _)) (kn (F8 now next) fun _ => ai (en14_0 now next user (by first | omega | (simp only [lens, ib] at * <;> omega))) (fun (i0 : Nat × Int) (hi0 : Mt now next user i0) => (fun (m0 : Nat) (i40 : Int) (hh0 : Qmr now next user i0 m0 i40) => have hI0 := hh0.1; have hl0 := hh0.2.1; have _ := hh0.2.2.1; have _ := hh0.2.2.2; ifd (i40 < ((F8 now next).length : Int)) (fun h6 _ => kg32 (!((F30 (F29 now (w23_ ++ user)) 2).toList == w11_.toList)) true (F30 (F29 now (w23_ ++ user)) 2) 44 (fun k8 => (by exact Qti _ _)) (ai (fun k9 : (!((F30 (F29 now (w23_ ++ user)) 2).toList == w11_.toList)) = true => (by first | omega | (simp only [lens, ib] at * <;> omega) : ib i40 (F8 now next))) (kg30 (!((F30 (F29 now (w23_ ++ user)) 2).toList == w11_.toList)) true ((F8 now next).getD (Int.toNat i40) default) 1 (fun k10 => ⟨(by first | omega | exact Qjw _ _ (by assumption) | exact Me _ _ _), (by first | omega | exact Qjw _ _ (by assumption) | exact Me _ _ _)⟩) (kg31 (!((F30 (F29 now (w23_ ++ user)) 2).toList == w11_.toList)) true (F32 (F30 (F29 now (w23_ ++ user)) 2) 44) (F30 ((F8 now next).getD (Int.toNat i40) default) 1) (ifb (bif (!((F30 (F29 now (w23_ ++ user)) 2).toList == w11_.toList)) then (!(F31 (F32 (F30 (F29 now (w23_ ++ user)) 2) 44) (F30 ((F8 now next).getD (Int.toNat i40) default) 1))) else false) (fun h12 => have _ : (!((F30 (F29 now (w23_ ++ user)) 2).toList == w11_.toList)) = true := (Qg h12); fiB false (F14 now next user) (condF h3 (condF h4 (finR (Qs hI0 (condT h6 (condT h12 rfl))) rfl)))) (fun h12 => ai (iok (i40 + 1) (by first | omega | (simp only [lens, ib] at * <;> omega))) (bk14_0 now next user i0 m0 (i40 + 1) hl0 (Qd hI0 (condT h6 (condF h12 rfl))) (by refine ⟨?_, ?_⟩ <;> first | omega | (simp only [lens, ib] at * <;> omega))))))))) (fun h6 _ => have hD0_13 : Qox now next user = Lp.done i40 := Ql hI0 (condF h6 rfl); fiB true (F14 now next user) (condF h3 (condF h4 (finD hD0_13 rfl))))) (i0.1 - 1) i0.2 (un14_0 now next user i0 hi0)))))))))))) (by kernel_rfl)
theorem Mu {α ρ τ : Type} [Inhabited α] (xs : List α) (p : α → Bool) (r : α → ρ) (step : Int → Lp Int ρ)
  (h1 : ∀ i : Nat, i < xs.length → step (i : Int) = bif p (xs.getD i default) then .ret (r (xs.getD i default)) else .next ((i + 1 : Nat) : Int)) (h2 : step (xs.length : Int) = .done (xs.length : Int))
  (f : ρ → τ) (y : τ) : ∀ (m i : Nat), i + m = xs.length → ∀ fuel, m < fuel → (runL step fuel (i : Int)).fin f (fun _ => y) = match (xs.drop i).filter p with | [] => y | x :: _ => f (r x)
 | m, i, _, 0, hf => absurd hf (Nat.not_lt_zero _)
 | 0, i, h, fuel + 1, hf => by
  obtain rfl : i = xs.length := by omega
  rw [Zp _ h2, List.drop_of_length_le (Nat.le_refl _)]; rfl
 | m + 1, i, h, fuel + 1, hf => by
  have hd : xs.drop i = xs.getD i default :: xs.drop (i + 1) := by
   rw [List.drop_eq_getElem_cons (show i < xs.length by omega), List.getD_eq_getElem?_getD, List.getElem?_eq_getElem (show i < xs.length by omega)]; rfl
  have hst := h1 i (by omega)
  rw [hd]
  cases hp : p (xs.getD i default) with
  | true => rw [hp, cond_true] at hst; rw [Kz _ hst, List.filter_cons_of_pos hp]; rfl
  | false => rw [hp, cond_false] at hst; rw [Uo _ hst, Mu xs p r step h1 h2 f y m (i + 1) (by omega) fuel (by omega), List.filter_cons_of_neg (by rw [hp]; exact Bool.false_ne_true)]
def isU (user : ByteArray) (w : List ByteArray) : Bool := hdB w hUser && ((w.getD 1 default).toList == user.toList)
theorem Lu (lines : List ByteArray) (h : F23 lines = 0) (user : ByteArray) : F33 lines user = match lines.filter (fun l => isU user (F64 l).1) with | [] => ([], false) | l :: _ => F66 ((F64 l).1.getD 2 default) := by
 have hf := Mu (Qo lines (⟨#[117, 115, 101, 114]⟩ : ByteArray)) (fun w => (w.getD 1 default).toList == user.toList) (fun w => ((F66 (w.getD 2 default)).1, (F66 (w.getD 2 default)).2)) (Vp lines user) (fun i hi => by
  simp only [Vp, ltD hi, cond_true, nn]
  rfl) (by simp only [Vp, geD, cond_false]) (fun r => r) (([] : List ByteArray), false) (Qo lines (⟨#[117, 115, 101, 114]⟩ : ByteArray)).length 0 (by omega) (Int.toNat (((Qo lines (⟨#[117, 115, 101, 114]⟩ : ByteArray)).length : Int) - 0) + 1) (by omega)
 unfold F33
 refine hf.trans ?_
 rw [List.drop_zero, Qkw lines h, List.filter_filter]
 unfold wsL
 rw [List.filter_map]
 have e : (lines.filter ((fun a : List ByteArray => (a.getD 1 default).toList == user.toList && hdB a (⟨#[117, 115, 101, 114]⟩ : ByteArray).data.toList) ∘ fun l => (F64 l).1)) = lines.filter (fun l => isU user (F64 l).1) := by
  congr 1
  funext l
  unfold isU
  exact Bool.and_comm _ _
 rw [e]
 cases lines.filter (fun l => isU user (F64 l).1) <;> rfl
theorem of_eq (lines : List ByteArray) (key : ByteArray) : F29 lines key = match lines.filter (fun l => (F68 l).toList == key.toList) with | [] => (⟨#[]⟩ : ByteArray) | l :: _ => l := by
 unfold F29
 rw [Qig]
 obtain ⟨h1, h2⟩ := Qga (fun l : ByteArray => (F68 l).toList == key.toList) lines
 cases hf : lines.filter (fun l => (F68 l).toList == key.toList) with
 | nil => rw [decide_eq_true (h1.2 hf)]; rfl
 | cons l r =>
  have hn : ¬ idxI (fun l : ByteArray => (F68 l).toList == key.toList) lines < 0 := fun h => by rw [h1.1 h] at hf; cases hf
  rw [decide_eq_false hn, cond_false]
  exact (h2 (by omega)).trans (by rw [hf]; rfl)
theorem Qts (s : ByteArray) (h : F28 s = true) : (32 : UInt8) ∉ s.data.toList := fun hm => by
 rw [Lq] at h
 unfold Qda at h
 rw [Bool.and_eq_true, List.all_eq_true] at h
 have := h.2 32 hm
 revert this
 decide
theorem Qos (l user : ByteArray) (hk : F98 l = true) (hn : (32 : UInt8) ∉ user.data.toList) : ((F68 l).toList == ((⟨#[117, 115, 101, 114, 32]⟩ : ByteArray) ++ user).toList) = isU user (F64 l).1 := by
 have hp := Wa l hk
 have hF := hp.form
 obtain ⟨n1, n2⟩ := Yl _ hF
 obtain ⟨k1, k2, k3⟩ := Vd _ hF
 rw [Wy, Qfi l hk]
 have hno := hp.no
 generalize (F64 l).1 = w at hF n1 n2 k1 k2 k3 hno
 unfold isU
 rw [Wy]
 have hj2 : ((⟨#[117, 115, 101, 114, 32]⟩ : ByteArray) ++ user) = Uu [(⟨#[117, 115, 101, 114]⟩ : ByteArray), user] (⟨#[32]⟩ : ByteArray) := by
  rw [Qke]
  exact Kk (by simp)
 rw [hj2, Bool.eq_iff_iff, decide_eq_true_eq, Bool.and_eq_true, decide_eq_true_eq]
 constructor
 ·intro e
  have hs := congrArg (fun x => Qi x (⟨#[32]⟩ : ByteArray)) e
  rw [Br _ (by
   intro h0
   have := congrArg List.length h0
   rw [List.length_take] at this
   simp only [List.length_nil] at this
   omega) (fun x hx => (hno x (List.mem_of_mem_take hx)).1), Br _ (by simp) (by
   intro x hx
   simp only [List.mem_cons, List.not_mem_nil, or_false] at hx
   rcases hx with rfl | rfl
   ·decide
   ·exact hn)] at hs
  have h0 : w.getD 0 default = (⟨#[117, 115, 101, 114]⟩ : ByteArray) := by
   have := congrArg (fun x : List ByteArray => x.getD 0 default) hs
   rw [List.getD_eq_getElem?_getD, List.getElem?_take, if_pos (by omega), ← List.getD_eq_getElem?_getD] at this
   exact this
  have hl := congrArg List.length hs
  rw [List.length_take] at hl
  have h1 : w.getD 1 default = user := by
   have := congrArg (fun x : List ByteArray => x.getD 1 default) hs
   have hl : min (keyN (w.getD 0 default).data.toList).toNat w.length = 2 := hl
   rw [List.getD_eq_getElem?_getD, List.getElem?_take, if_pos (by omega), ← List.getD_eq_getElem?_getD] at this
   exact this
  refine ⟨?_, h1⟩
  unfold hdB
  rw [h0]; rfl
 ·rintro ⟨h0, h1⟩
  have h0 : (w.getD 0 default).data.toList = [117, 115, 101, 114] := eq_of_beq h0
  rw [h0]
  have e : (keyN [117, 115, 101, 114]).toNat = 2 := by decide
  rw [e, Gs w n1, h1]
  rw [show w.getD 0 default = (⟨#[117, 115, 101, 114]⟩ : ByteArray) from Kk h0]
theorem Qch (s : ByteArray) (h : Kp s = true) : F66 s = (bif (bif (s.toList == (⟨#[97, 108, 108]⟩ : ByteArray).toList) then true else (s.toList == (⟨#[110, 111, 110, 101]⟩ : ByteArray).toList)) then ([s], true) else (Qi s ⟨#[44]⟩, true)) := by
 have e90 : ∀ t u : ByteArray, F70 t u = Qi t u := fun _ _ => rfl
 have hl := Zd (Wc s) (Qi s ⟨#[44]⟩).length (Yi (Qi s ⟨#[44]⟩)) (([] : List ByteArray), false) (fun r => r) ((Qi s ⟨#[44]⟩), true) (fun i hi => by
  have hh := Gj F208 ((Qi s ⟨#[44]⟩).getD i default)
  unfold F208 at hh
  simp only [Wc, e90, decide_eq_true (show (i : Int) < ((Qi s ⟨#[44]⟩).length : Int) by omega), cond_true, Int.toNat_natCast, hh]
  rfl) (by simp only [Wc, e90, decide_eq_false (show ¬ ((Qi s ⟨#[44]⟩).length : Int) < ((Qi s ⟨#[44]⟩).length : Int) by omega), cond_false]) (Qi s ⟨#[44]⟩).length 0 (by omega) (Int.toNat (((Qi s ⟨#[44]⟩).length : Int) - 0) + 1) (by omega)
 unfold Kp at h
 unfold F66
 cases hc : (bif (s.toList == (⟨#[97, 108, 108]⟩ : ByteArray).toList) then true else (s.toList == (⟨#[110, 111, 110, 101]⟩ : ByteArray).toList)) with
 | true => rfl
 | false =>
  rw [hc, cond_false] at h
  rw [cond_false, cond_false]
  refine hl.trans ?_
  have h : anyF (Yi (Qi s ⟨#[44]⟩)) 0 (Qi s ⟨#[44]⟩).length = false := by
   cases hx : anyF (Yi (Qi s ⟨#[44]⟩)) 0 (Qi s ⟨#[44]⟩).length with
   | true => rw [hx] at h; cases h
   | false => rfl
  rw [h]; rfl
theorem Qfz (s x : ByteArray) (h : Kp s = true) :
  (bif (!(F26 (F66 s).1 (⟨#[97, 108, 108]⟩ : ByteArray))) then (!(F26 (F66 s).1 x)) else false) = (bif (!(s.toList == (⟨#[97, 108, 108]⟩ : ByteArray).toList)) then (!(F31 (F32 s 44) x)) else false) := by
 have hcut : F32 s 44 = Qi s ⟨#[44]⟩ := Xu s 44
 rw [Qch s h, hcut, ← Gj, Yu, Yu, Yu]
 cases ha : (s.toList == (⟨#[97, 108, 108]⟩ : ByteArray).toList) with
 | true =>
  have e : s = (⟨#[97, 108, 108]⟩ : ByteArray) := by rw [Wy] at ha; exact of_decide_eq_true ha
  rw [cond_true, cond_true]
  show (bif !decide ((⟨#[97, 108, 108]⟩ : ByteArray) ∈ [s]) then _ else false) = _
  rw [e]; simp
 | false =>
  have hne : s ≠ (⟨#[97, 108, 108]⟩ : ByteArray) := by rw [Wy] at ha; exact of_decide_eq_false ha
  rw [cond_false]
  cases hb : (s.toList == (⟨#[110, 111, 110, 101]⟩ : ByteArray).toList) with
  | true =>
   have e : s = (⟨#[110, 111, 110, 101]⟩ : ByteArray) := by rw [Wy] at hb; exact of_decide_eq_true hb
   rw [cond_true]
   have es : Qi s ⟨#[44]⟩ = [s] := by
    rw [Ku, Uf (by rw [e]; decide)]
    exact congrArg (fun z => [z]) (Gf s)
   rw [es, decide_eq_false (show (⟨#[97, 108, 108]⟩ : ByteArray) ∉ [s] by rw [List.mem_singleton]; exact fun e => hne e.symm)]
  | false =>
   rw [cond_false]
   have hall : (⟨#[97, 108, 108]⟩ : ByteArray) ∉ Qi s ⟨#[44]⟩ := fun hm => by
    unfold Kp at h
    rw [ha, hb, cond_false, cond_false] at h
    obtain ⟨k, hk, e⟩ := Je hm
    have hx : anyF (Yi (Qi s ⟨#[44]⟩)) 0 (Qi s ⟨#[44]⟩).length = false := by
     cases hx : anyF (Yi (Qi s ⟨#[44]⟩)) 0 (Qi s ⟨#[44]⟩).length with
     | true => rw [hx] at h; cases h
     | false => rfl
    have hk2 := Qai _ _ hx k (Nat.zero_le _) (by omega)
    unfold Yi at hk2
    rw [e, Jz] at hk2
    revert hk2
    rw [show decide ((⟨#[97, 108, 108]⟩ : ByteArray) ∈ F208) = false from by decide]
    simp
   rw [decide_eq_false hall]
theorem Qcu (c : UInt8) : ∀ (ws : List (List UInt8)) (b : UInt8), b ∈ Lib.join ws [c] → b = c ∨ ∃ w ∈ ws, b ∈ w
 | [], b, h => by cases h
 | [x], b, h => by rw [Lib.join_one] at h; exact .inr ⟨x, List.mem_cons_self, h⟩
 | x :: y :: r, b, h => by
  rw [Lib.join_cons] at h
  rcases List.mem_append.1 h with h | h
  ·exact .inr ⟨x, List.mem_cons_self, h⟩
  ·have e : Lib.joinTail [c] (y :: r) = c :: Lib.join (y :: r) [c] := by rw [Lib.join_cons]; rfl
   rw [e] at h
   rcases List.mem_cons.1 h with h | h
   ·exact .inl h
   ·rcases Qcu c (y :: r) b h with h | ⟨w, hw, hb⟩
    ·exact .inl h
    ·exact .inr ⟨w, List.mem_cons_of_mem _ hw, hb⟩
theorem Pa (c : UInt8) : ∀ (l w : List UInt8), w ∈ Qp c l → ∀ b ∈ w, b ∈ l
 | [], w, h, b, hb => by rw [Qp, List.mem_singleton] at h; rw [h] at hb; cases hb
 | x :: l, w, h, b, hb => by
  have ih := Pa c l
  rw [Qp] at h
  by_cases hx : x = c
  ·rw [if_pos hx] at h
   rcases List.mem_cons.1 h with rfl | h
   ·cases hb
   ·exact List.mem_cons_of_mem _ (ih w h b hb)
  ·rw [if_neg hx] at h
   cases hs : Qp c l with
   | nil =>
    rw [hs, List.mem_singleton] at h
    rw [h] at hb
    rcases List.mem_cons.1 hb with rfl | hb
    ·exact List.mem_cons_self
    ·cases hb
   | cons p ps =>
    rw [hs] at h ih
    rcases List.mem_cons.1 h with rfl | h
    ·rcases List.mem_cons.1 hb with rfl | hb
     ·exact List.mem_cons_self
     ·exact List.mem_cons_of_mem _ (ih p List.mem_cons_self b hb)
    ·exact List.mem_cons_of_mem _ (ih w (List.mem_cons_of_mem _ h) b hb)
theorem Qfa (l : ByteArray) (hk : F98 l = true) : (35 : UInt8) ∉ l.data.toList ∧ Zi l.data.toList = ((F64 l).1, true) := by
 have hp := Wa l hk
 have hw := Jl l
 have h35 : (35 : UInt8) ∉ (cut3 l (⟨#[35]⟩ : ByteArray)).1.data.toList := by
  rcases Ys l 35 with ⟨h1, h2⟩ | ⟨a, b, h1, h2, h3⟩
  ·rw [h2]; exact h1
  ·rw [h3]; simpa using h2
 have hno : (35 : UInt8) ∉ l.data.toList := fun hm => by
  rw [← hp.joins, Jk] at hm
  rcases Qcu 32 _ _ hm with h | ⟨w, hw1, hb⟩
  ·exact absurd h (by decide)
  ·obtain ⟨x, hx, rfl⟩ := List.mem_map.1 hw1
   rw [hw] at hx
   unfold Zi at hx
   cases hc : ((cut3 l (⟨#[35]⟩ : ByteArray)).1.data.toList.all okB && fitW (Qn (cut3 l (⟨#[35]⟩ : ByteArray)).1.data.toList)) with
   | false => rw [hc, cond_false] at hx; cases hx
   | true =>
    rw [hc, cond_true] at hx
    obtain ⟨y, hy, rfl⟩ := List.mem_map.1 hx
    unfold Qn at hy
    exact h35 (Pa 32 _ y (List.mem_filter.1 hy).1 35 hb)
 refine ⟨hno, ?_⟩
 have hcut : (cut3 l (⟨#[35]⟩ : ByteArray)).1 = l := by
  rcases Ys l 35 with ⟨h1, h2⟩ | ⟨a, b, h1, h2, h3⟩
  ·rw [h2]
  ·exact absurd (by rw [h1]; simp) hno
 rw [hcut] at hw
 rw [← hw, hp.words]
theorem Qex (t : Bool) (l : ByteArray) (hk : F98 l = true) : (F64 (txtD (t, l))).1.getD 1 default = (F64 l).1.getD 0 default ∧ 2 ≤ (F64 (txtD (t, l))).1.length := by
 have hp := Wa l hk
 obtain ⟨n1, n2⟩ := Yl _ hp.form
 obtain ⟨h35, hw⟩ := Qfa l hk
 obtain ⟨c, hc35, hc32, hcok, e⟩ : ∃ c : UInt8, c ≠ 35 ∧ c ≠ 32 ∧ okB c = true ∧ (txtD (t, l)).data.toList = c :: 32 :: l.data.toList := by
  cases t
  ·exact ⟨43, by decide, by decide, by decide, by unfold txtD; simp⟩
  ·exact ⟨45, by decide, by decide, by decide, by unfold txtD; simp⟩
 have hcut : (cut3 (txtD (t, l)) (⟨#[35]⟩ : ByteArray)).1 = txtD (t, l) := by
  rcases Ys (txtD (t, l)) 35 with ⟨h1, h2⟩ | ⟨a, b, h1, h2, h3⟩
  ·rw [h2]
  ·have hm : (35 : UInt8) ∈ (txtD (t, l)).data.toList := by rw [h1]; simp
   rw [e] at hm
   rcases List.mem_cons.1 hm with h | hm
   ·exact absurd h.symm hc35
   ·rcases List.mem_cons.1 hm with h | hm
    ·exact absurd h (by decide)
    ·exact absurd hm h35
 rw [Jl, hcut, e]
 generalize (F64 l).1 = w at n1 n2 hw ⊢
 have hwl : Qn (c :: 32 :: l.data.toList) = [c] :: Qn l.data.toList := by
  unfold Qn
  have hs := Uj (c := 32) l.data.toList (a := [c]) (by
   intro hm
   rcases List.mem_cons.1 hm with h | h
   ·exact hc32 h.symm
   ·cases h)
  rw [show c :: 32 :: l.data.toList = [c] ++ 32 :: l.data.toList from rfl, hs]
  rfl
 unfold Zi at hw ⊢
 rw [hwl]
 cases hx : (l.data.toList.all okB && fitW (Qn l.data.toList)) with
 | false => rw [hx, cond_false] at hw; exact Bool.noConfusion (congrArg Prod.snd hw)
 | true =>
  rw [hx, cond_true] at hw
  have hw1 : (Qn l.data.toList).map mkB = w := congrArg (·.1) hw
  rw [Bool.and_eq_true] at hx
  unfold fitW at hx ⊢
  rw [Bool.and_eq_true, decide_eq_true_eq] at hx
  have hlen : (Qn l.data.toList).length = w.length := by rw [← hw1, List.length_map]
  have h2 : ((c :: 32 :: l.data.toList).all okB && (decide (([c] :: Qn l.data.toList).length ≤ 8) && ([c] :: Qn l.data.toList).all fun w => decide (w.length ≤ 24))) = true := by
   rw [List.all_cons, List.all_cons, List.all_cons, hcok, hx.1, hx.2.2]
   rw [decide_eq_true (show ([c] :: Qn l.data.toList).length ≤ 8 by rw [List.length_cons]; omega)]
   rfl
  rw [h2, cond_true, List.map_cons, hw1]
  refine ⟨rfl, ?_⟩
  show 2 ≤ (mkB [c] :: w).length
  rw [List.length_cons]; omega
theorem Qkm (l : ByteArray) (hk : F98 l = true) : (cut3 l (⟨#[32]⟩ : ByteArray)).1 = (F64 l).1.getD 0 default := by
 have hp := Wa l hk
 obtain ⟨n1, n2⟩ := Yl _ hp.form
 have hs := hp.splits
 rw [Ku] at hs
 generalize (F64 l).1 = w at n1 n2 hs ⊢
 rcases Ys l 32 with ⟨h1, h2⟩ | ⟨a, b, h1, h2, h3⟩
 ·rw [Uf h1] at hs
  rw [← hs] at n1
  exact absurd n1 (by simp)
 ·rw [h1, Uj b h2] at hs
  rw [h3, ← hs]
  rfl
theorem Qoz (now next : List ByteArray) (user : ByteArray) : F15 now next user = F14 now next user := by
 unfold F15 F14
 have e : ∀ x : List ByteArray, (!F24 x) = (F23 x != 0) := fun x => by unfold F24; rw [Xi]; rfl
 rw [e, e]
 cases hn : (bif F23 now != 0 then true else F23 next != 0) with
 | true => rfl
 | false =>
 rw [cond_false, cond_false]
 obtain ⟨na, nb⟩ : F23 now = 0 ∧ F23 next = 0 := by
  cases h1 : (F23 now != 0) with
  | true => rw [h1, cond_true] at hn; cases hn
  | false => rw [h1, cond_false] at hn; exact ⟨by simpa using h1, by simpa using hn⟩
 have hkn := (Wm now na).2
 have hkx := (Wm next nb).2
 rw [Lu now na]
 cases hu : F28 user with
 | false =>
  have hnil : now.filter (fun l => isU user (F64 l).1) = [] := by
   rw [List.filter_eq_nil_iff]
   intro l hl hc
   unfold isU at hc
   rw [Bool.and_eq_true] at hc
   have hP := Qav (Wa l (hkn l hl)).form (eq_of_beq hc.1)
   have hnm := hP.2.2.1
   rw [show (F64 l).1.getD 1 default = user from by
    have := hc.2
    rw [Wy] at this
    exact of_decide_eq_true this] at hnm
   rw [hu] at hnm
   cases hnm
  rw [hnil]
  rfl
 | true =>
 have hno := Qts user hu
 rw [of_eq]
 have hf : now.filter (fun l => (F68 l).toList == ((⟨#[117, 115, 101, 114, 32]⟩ : ByteArray) ++ user).toList) = now.filter (fun l => isU user (F64 l).1) := List.filter_congr fun l hl => Qos l user (hkn l hl) hno
 rw [hf]
 have hO : ∀ l r, now.filter (fun l => isU user (F64 l).1) = l :: r → F29 now ((⟨#[117, 115, 101, 114, 32]⟩ : ByteArray) ++ user) = l := fun l r h => by rw [of_eq, hf, h]
 cases hfl : now.filter (fun l => isU user (F64 l).1) with
 | nil =>
  show false = bif ((⟨#[]⟩ : ByteArray).toList == (⟨#[]⟩ : ByteArray).toList) then false else _
  rw [beq_self_eq_true]; rfl
 | cons l r =>
  have hO := hO l r hfl
  have hm : l ∈ now.filter (fun l => isU user (F64 l).1) := by rw [hfl]; exact List.mem_cons_self
  obtain ⟨hl, hl2⟩ := List.mem_filter.1 hm
  unfold isU at hl2
  rw [Bool.and_eq_true] at hl2
  have hp := Wa l (hkn l hl)
  have hP := Qav hp.form (eq_of_beq hl2.1)
  have hR : Kp ((F64 l).1.getD 2 default) = true := by rw [← Xv]; exact hP.2.2.2
  have h2 : (F66 ((F64 l).1.getD 2 default)).2 = true := by rw [Xt]; exact hR
  have hne : (l.toList == (⟨#[]⟩ : ByteArray).toList) = false := by
   rw [isE]
   have hlen := (Pd now na l hl)
   cases hd : l.data.toList with
   | nil =>
    have hw0 := hp.splits
    rw [Ku, hd] at hw0
    have n1 := (Yl _ hp.form).1
    rw [← hw0] at n1
    exact absurd n1 (by decide)
   | cons b r => rfl
  have hs2 : F30 l 2 = (F64 l).1.getD 2 default := by
   unfold F30
   rw [show decide ((2 : Int) < ((F64 l).1.length : Int)) = true from decide_eq_true (by rw [hP.2.1]; decide)]
   rfl
  obtain ⟨D, e1, e2⟩ := Qmi now next na nb
  have hcl := anyL (F25 now next) (fun z => (bif (!(F26 (F66 ((F64 l).1.getD 2 default)).1 (⟨#[97, 108, 108]⟩ : ByteArray))) then (!(F26 (F66 ((F64 l).1.getD 2 default)).1 (cut3 z (⟨#[32]⟩ : ByteArray)).1)) else false)) false (Jy now next user) (fun i hi => by
   simp only [Jy, ltD hi, cond_true, nn, Lu now na, hfl]
   rfl) (by simp only [Jy, geD, cond_false]) (fun r => r) (fun _ => true) true (fun _ => rfl)
  have hcs := anyL (F8 now next) (fun d => (bif (!(((F64 l).1.getD 2 default).toList == (⟨#[97, 108, 108]⟩ : ByteArray).toList)) then (!(F31 (F32 ((F64 l).1.getD 2 default) 44) (F30 d 1))) else false)) false (Vy now next user) (fun i hi => by
   simp only [Vy, ltD hi, cond_true, nn, hO, hs2]
   rfl) (by simp only [Vy, geD, cond_false]) (fun r => r) (fun _ => true) true (fun _ => rfl)
  show (bif !(F66 ((F64 l).1.getD 2 default)).2 then false else _) = (bif (l.toList == (⟨#[]⟩ : ByteArray).toList) then false else _)
  rw [h2, hne, Bool.not_true, cond_false, cond_false]
  refine hcl.trans (Eq.trans ?_ hcs.symm)
  rw [e1, e2, List.any_map, List.any_map]
  rw [Xr (q := (fun d => (bif (!(((F64 l).1.getD 2 default).toList == (⟨#[97, 108, 108]⟩ : ByteArray).toList)) then (!(F31 (F32 ((F64 l).1.getD 2 default) 44) (F30 d 1))) else false)) ∘ txtD) fun tz htz => ?_]
  obtain ⟨t, z⟩ := tz
  have hz : z ∈ F25 now next := by rw [e2]; exact List.mem_map.2 ⟨_, htz, rfl⟩
  have hkz : F98 z = true := by
   rcases Qds.1 hz with h | h
   ·exact hkn z h.1
   ·exact hkx z h.1
  obtain ⟨w1, w2⟩ := Qex t z hkz
  have hw1 : F30 (txtD (t, z)) 1 = (cut3 z (⟨#[32]⟩ : ByteArray)).1 := by
   unfold F30
   rw [show decide ((1 : Int) < ((F64 (txtD (t, z))).1.length : Int)) = true from decide_eq_true (by omega), Qkm z hkz]
   exact w1
  show (bif (!(F26 _ _)) then (!(F26 _ (cut3 z (⟨#[32]⟩ : ByteArray)).1)) else false) = (bif _ then (!(F31 _ (F30 (txtD (t, z)) 1))) else false)
  rw [hw1]
  exact Qfz _ _ hR
def Ea (a : List ByteArray) : (Int × List ByteArray) → Lp (Int × List ByteArray) (List ByteArray) := fun (i40, xs) =>
 bif (decide (i40 < (a.length : Int))) then (.next ((i40 + 1), (xs.set (i40).toNat (a.getD (Int.toNat i40) default)))) else (.done (i40, xs))
def F9 (a : List ByteArray) : List ByteArray :=
 (runL (Ea a) ((Int.toNat ((a.length : Int) - 0)) + 1) (0, (List.replicate (Int.toNat (a.length : Int)) ((⟨#[]⟩ : ByteArray) : ByteArray)))).fin (fun r => r) (fun (i40, xs) => xs)
abbrev Qcw (a : List ByteArray) : Nat × (Int × List ByteArray) := (((Int.toNat ((a.length : Int) - 0)) + 1), (0, (List.replicate (Int.toNat (a.length : Int)) (w13_ : ByteArray))))
abbrev Qmd (a : List ByteArray) (m39 : Nat) (i40 : Int) (xs : List ByteArray) : Prop := Int.toNat ((a.length : Int) - i40) < m39 ∧ (0 : Int) ≤ i40 ∧ xs.length = (List.replicate (Int.toNat (a.length : Int)) (w13_ : ByteArray)).length
abbrev lX9_0 (a : List ByteArray) : Lp (Int × List ByteArray) (List ByteArray) := LpX (Ea a) (Qcw a)
abbrev Qdm (a : List ByteArray) (i : Nat × (Int × List ByteArray)) : Prop := LpJ (Ea a) (Qcw a) i (Qmd a i.1 i.2.1 i.2.2)
abbrev lH9_0 (a : List ByteArray) (i : Nat × (Int × List ByteArray)) (m39 : Nat) (i40 : Int) (xs : List ByteArray) : Prop := LpH (Ea a) (Qcw a) i m39 (i40, xs) (Qmd a (m39 + 1) i40 xs)
abbrev lE9_0 (a : List ByteArray) (i40 : Int) (xs : List ByteArray) (i40_ : Int) (xs_ : List ByteArray) (K39 : Prop) : Prop := ((.int .i64 i40 : Value) = .int .i64 i40_) ∧ (Im (.l 1 eStr a)) ∧ (Imp (.l 1 eStr xs) (.l 1 eStr xs_)) ∧ K39
theorem un9_0 (a : List ByteArray) (i : Nat × (Int × List ByteArray)) (h : Qdm a i) : lH9_0 a i (i.1 - 1) i.2.1 i.2.2 := ⟨hd1 h.1 h.2.1, hd3 h.2.1, hd2 h.2.1, h.2.2⟩
theorem bk9_0 (a : List ByteArray) (i : Nat × (Int × List ByteArray)) (m39 : Nat) (i40 : Int) (xs : List ByteArray) (hl : m39 < i.1) (e : runL (Ea a) m39 (i40, xs) = lX9_0 a) (h : Qmd a m39 i40 xs) : ∃ j : Nat × (Int × List ByteArray), lE9_0 a i40 xs j.2.1 j.2.2 (Qdm a j ∧ j.1 < i.1) := ⟨(m39, (i40, xs)), rfl, Imp.refl _, Imp.refl _, ⟨e, h⟩, hl⟩
theorem en9_0 (a : List ByteArray) (h : (0 : Int) ≤ 0 ∧ (List.replicate (Int.toNat (a.length : Int)) (w13_ : ByteArray)).length = (List.replicate (Int.toNat (a.length : Int)) (w13_ : ByteArray)).length) : lE9_0 a 0 (List.replicate (Int.toNat (a.length : Int)) (w13_ : ByteArray)) 0 (List.replicate (Int.toNat (a.length : Int)) (w13_ : ByteArray)) (Qdm a (Qcw a)) := ⟨rfl, Imp.refl _, Imp.refl _, rfl, Nat.lt_succ_self _, h⟩
theorem fi9 (a : List ByteArray) (r : List ByteArray) (hF : r = (F9 a)) : (Imp (.l 1 eStr r) (.l 1 eStr (F9 a))) ∧ True := by cases hF; exact ⟨Imp.refl _, trivial⟩
def S9 (R : List ByteArray) (a : List ByteArray) : Spec := ⟨[.r (.c (.l 1 eStr a))], .ow (.l 1 eStr R), a.length ≤ 1000000000 ∧ (∀ k : Nat, (a.getD k default).size ≤ 1000000000)⟩
theorem ok9 (a : List ByteArray) : (S9 (F9 a) a).ok Tryz.prog 9 :=
 Qj mixed (fn := Tryz.f9) (ct := .seqk [(0, 0)] .no (.seq (.reg [(2, .dat (.l 1 eStr (List.replicate (Int.toNat (a.length : Int)) (w13_ : ByteArray))))]) (.seq (.seqk [(0, 0), (3, 0)] .no (.blk (.loop (ι := Nat × (Int × List ByteArray)) (fun i => (fun (i40 : Int) (xs : List ByteArray) => (⟨[(0, some (.h 0 0)), (3, some (.h 1 0)), (4, some (.v (vI i40)))], [(0, some (.shr none (.l 1 eStr a))), (1, some (.own 1 (.l 1 eStr xs)))], 2⟩ : St)) i.2.1 i.2.2) (Qdm a) (fun i => i.1) (Qcw a) (fun i => (fun (i40 : Int) (xs : List ByteArray) => (.seq (.seq .no (.cond .no .no)) (.seq (.blk (.reg [(7, .dat (.l 1 eStr (xs.set (i40).toNat (a.getD (Int.toNat i40) default))))])) (.reg [(1, .bnd)])))) i.2.1 i.2.2)))) (.seq .no .no)))) Tryz.func9 (fun (hp : a.length ≤ 1000000000 ∧ (∀ k : Nat, (a.getD k default).size ≤ 1000000000)) => have hpre0 := hp.1; have hpre1 := hp.2; kn a fun _ => ai (by first | omega | (simp only [lens, ib] at * <;> omega) : 0 ≤ (a.length : Int) ∧ (a.length : Int) ≤ (a.length : Int) ∧ (16 : Int) * (a.length : Int) ≤ 281474976710656) (ai (MakeOK.mk eStr (w13_ : ByteArray) (by exact ai ir trivial) : MakeOK 1 [.v (.string w13_)] (Int.toNat (a.length : Int)) (.l 1 eStr (List.replicate (Int.toNat (a.length : Int)) (w13_ : ByteArray)))) (kn a fun _ => kn (List.replicate (Int.toNat (a.length : Int)) (w13_ : ByteArray)) fun _ => ai (en9_0 a (by refine ⟨?_, ?_⟩ <;> first | omega | (simp only [lens, ib] at * <;> omega))) (fun (i0 : Nat × (Int × List ByteArray)) (hi0 : Qdm a i0) => (fun (m0 : Nat) (i40 : Int) (xs : List ByteArray) (hh0 : lH9_0 a i0 m0 i40 xs) => have hI0 := hh0.1; have hl0 := hh0.2.1; have _ := hh0.2.2.1; have _ := hh0.2.2.2; ifd (i40 < (a.length : Int)) (fun h2 _ => ai (by first | omega | (simp only [lens, ib] at * <;> omega) : ib i40 a) (ai (by first | omega | (simp only [lens, ib] at * <;> omega) : ib i40 xs) (ai (setr 1 eStr xs (i40).toNat (a.getD (Int.toNat i40) default)) (ai (iok (i40 + 1) (by first | omega | (simp only [lens, ib] at * <;> omega))) (bk9_0 a i0 m0 (i40 + 1) (xs.set (i40).toNat (a.getD (Int.toNat i40) default)) hl0 (Qd hI0 (condT h2 rfl)) (by refine ⟨?_, ?_, ?_⟩ <;> first | omega | (simp only [lens, ib] at * <;> omega))))))) (fun h2 _ => have hD0_3 : lX9_0 a = Lp.done (i40, xs) := Ql hI0 (condF h2 rfl); fi9 a xs (finD hD0_3 rfl))) (i0.1 - 1) i0.2.1 i0.2.2 (un9_0 a i0 hi0))))) (by kernel_rfl)
theorem as9 (a : List ByteArray) : F9 a = (a) := by
 exact Qsc (fun x => x) (fun _ => rfl) a _ (by simp) (Ea a) (fun i xs => rfl)
theorem oa9 (a : List ByteArray) : (S9 (a) a).ok Tryz.prog 9 := by
 intro hp; have h := ok9 a hp; rw [as9 a] at h; exact h
def Xy (a : List ByteArray) (b : List ByteArray) : Int → Lp Int Bool := fun i40 =>
 bif (decide (i40 < (a.length : Int))) then (bif (!((a.getD (Int.toNat i40) default).toList == (b.getD (Int.toNat i40) default).toList)) then (.ret false) else (.next (i40 + 1))) else (.done i40)
def F11 (a : List ByteArray) (b : List ByteArray) : Bool :=
 bif ((a.length : Int) != (b.length : Int)) then false else ((runL (Xy a b) ((Int.toNat ((a.length : Int) - 0)) + 1) 0).fin (fun r => r) (fun i40 => true))
abbrev Ph (a : List ByteArray) : Nat × Int := (((Int.toNat ((a.length : Int) - 0)) + 1), 0)
abbrev Qfr (a : List ByteArray) (m39 : Nat) (i40 : Int) : Prop := Int.toNat ((a.length : Int) - i40) < m39 ∧ (0 : Int) ≤ i40
abbrev Qoo (a : List ByteArray) (b : List ByteArray) : Lp Int Bool := LpX (Xy a b) (Ph a)
abbrev Mz (a : List ByteArray) (b : List ByteArray) (i : Nat × Int) : Prop := LpJ (Xy a b) (Ph a) i (Qfr a i.1 i.2)
abbrev Qqf (a : List ByteArray) (b : List ByteArray) (i : Nat × Int) (m39 : Nat) (i40 : Int) : Prop := LpH (Xy a b) (Ph a) i m39 i40 (Qfr a (m39 + 1) i40)
abbrev Qnp (a : List ByteArray) (b : List ByteArray) (i40 : Int) (i40_ : Int) (K39 : Prop) : Prop := ((.int .i64 i40 : Value) = .int .i64 i40_) ∧ (Im (.l 1 eStr a)) ∧ (Im (.l 1 eStr b)) ∧ K39
theorem un11_0 (a : List ByteArray) (b : List ByteArray) (i : Nat × Int) (h : Mz a b i) : Qqf a b i (i.1 - 1) i.2 := ⟨hd1 h.1 h.2.1, hd3 h.2.1, hd2 h.2.1, h.2.2⟩
theorem bk11_0 (a : List ByteArray) (b : List ByteArray) (i : Nat × Int) (m39 : Nat) (i40 : Int) (hl : m39 < i.1) (e : runL (Xy a b) m39 i40 = Qoo a b) (h : Qfr a m39 i40) : ∃ j : Nat × Int, Qnp a b i40 j.2 (Mz a b j ∧ j.1 < i.1) := ⟨(m39, i40), rfl, Imp.refl _, Imp.refl _, ⟨e, h⟩, hl⟩
theorem en11_0 (a : List ByteArray) (b : List ByteArray) (h : (0 : Int) ≤ 0) : Qnp a b 0 0 (Mz a b (Ph a)) := ⟨rfl, Imp.refl _, Imp.refl _, rfl, Nat.lt_succ_self _, h⟩
def S11 (R : Bool) (a : List ByteArray) (b : List ByteArray) : Spec := ⟨[.r (.c (.l 1 eStr a)), .r (.c (.l 1 eStr b))], .v (.bool R), True⟩
theorem ok11 (a : List ByteArray) (b : List ByteArray) : (S11 (F11 a b) a b).ok Tryz.prog 11 :=
 Qj mixed (fn := Tryz.f11) (ct := .seqk [(0, 0), (1, 0)] .no (.seq (.seq .no (.cond (.seq .no .no) .no)) (.seq (.seqk [(0, 0), (1, 0)] .no (.blk (.loop (ι := Nat × Int) (fun i => (fun (i40 : Int) => (⟨[(0, some (.h 0 0)), (1, some (.h 1 0)), (5, some (.v (vI i40)))], [(0, some (.shr none (.l 1 eStr a))), (1, some (.shr none (.l 1 eStr b)))], 2⟩ : St)) i.2) (Mz a b) (fun i => i.1) (Ph a) (fun i => (fun (i40 : Int) => (.seq (.seq .no (.cond .no .no)) (.seq (.blk (.seq .no (.cond (.seq .no .no) .no))) (.reg [(1, .bnd)])))) i.2)))) (.seq .no .no)))) Tryz.func11 (fun (_ : True) => kn a fun _ => kn b fun _ => ifn (a.length : Int) (b.length : Int) (fun h1 _ => fiB false (F11 a b) (condT h1 rfl)) (fun h1 _ => kn a fun _ => kn b fun _ => ai (en11_0 a b (by omega)) (fun (i0 : Nat × Int) (hi0 : Mz a b i0) => (fun (m0 : Nat) (i40 : Int) (hh0 : Qqf a b i0 m0 i40) => have hI0 := hh0.1; have hl0 := hh0.2.1; have _ := hh0.2.2.1; have _ := hh0.2.2.2; ifd (i40 < (a.length : Int)) (fun h3 _ => ai (by omega : ib i40 a) (ai (by omega : ib i40 b) (ifb (!((a.getD (Int.toNat i40) default).toList == (b.getD (Int.toNat i40) default).toList)) (fun h4 => fiB false (F11 a b) (condF h1 (finR (Qs hI0 (condT h3 (condT h4 rfl))) rfl))) (fun h4 => ai (iok (i40 + 1) (by omega)) (bk11_0 a b i0 m0 (i40 + 1) hl0 (Qd hI0 (condT h3 (condF h4 rfl))) (by refine ⟨?_, ?_⟩ <;> omega)))))) (fun h3 _ => have hD0_5 : Qoo a b = Lp.done i40 := Ql hI0 (condF h3 rfl); fiB true (F11 a b) (condF h1 (finD hD0_5 rfl)))) (i0.1 - 1) i0.2 (un11_0 a b i0 hi0)))) (by kernel_rfl)
theorem as11 (a : List ByteArray) (b : List ByteArray) : F11 a b = (decide (a = b)) := by
 exact Qtc (fun x y => decide (x = y)) (fun _ _ => rfl) a b (Xy a b) (fun i => by simp only [Xy, neI, neB, neS])
theorem oa11 (a : List ByteArray) (b : List ByteArray) : (S11 (decide (a = b)) a b).ok Tryz.prog 11 := by
 intro hp; have h := ok11 a b hp; rw [as11 a b] at h; exact h
theorem kc7 (a : List ByteArray) (left' : Int) {K_ : Prop} (p0_ : 0 ≤ left') (p1_ : left' ≤ 1048576) (p2_ : ∀ k : Nat, (a.getD k default).size ≤ 9223372036854775807) (k_ : (0 ≤ left' → left' ≤ 1048576 → 0 ≤ (F7 a left') → (F7 a left') ≤ left') → (0 ≤ left' → left' ≤ 1048576 → 0 ≤ (F7 a left') → a.length ≤ 1000000000) → (0 ≤ left' → left' ≤ 1048576 → 0 ≤ (F7 a left') → ∀ k : Nat, (a.getD k default).size ≤ 1000000000) → K_) : (0 ≤ left' ∧ left' ≤ 1048576 ∧ (∀ k : Nat, (a.getD k default).size ≤ 9223372036854775807)) ∧ (Imp (.l 1 eStr a) (.l 1 eStr a)) ∧ (Imp (.v (vI left')) (.v (vI left'))) ∧ K_ := ⟨⟨p0_, p1_, p2_⟩, Imp.refl _, Imp.refl _, k_ (g7_0 a left') (g7_1 a left') (g7_2 a left')⟩
theorem kc9a (a : List ByteArray) {K_ : Prop} (p0_ : a.length ≤ 1000000000) (p1_ : ∀ k : Nat, (a.getD k default).size ≤ 1000000000) (k_ : K_) : (a.length ≤ 1000000000 ∧ (∀ k : Nat, (a.getD k default).size ≤ 1000000000)) ∧ (Imp (.l 1 eStr a) (.l 1 eStr a)) ∧ K_ := ⟨⟨p0_, p1_⟩, Imp.refl _, k_⟩
theorem kc14 (now : List ByteArray) (next : List ByteArray) (user : ByteArray) {K_ : Prop} (p0_ : now.length ≤ 1048576) (p1_ : next.length ≤ 1048576) (p2_ : user.size ≤ 1048576) (p3_ : ∀ k : Nat, (now.getD k default).size ≤ 1048576) (p4_ : ∀ k : Nat, (next.getD k default).size ≤ 1048576) (k_ : K_) : (now.length ≤ 1048576 ∧ next.length ≤ 1048576 ∧ user.size ≤ 1048576 ∧ (∀ k : Nat, (now.getD k default).size ≤ 1048576) ∧ (∀ k : Nat, (next.getD k default).size ≤ 1048576)) ∧ (Imp (.l 1 eStr now) (.l 1 eStr now)) ∧ (Imp (.l 1 eStr next) (.l 1 eStr next)) ∧ (Imp (.v (.string user)) (.v (.string user))) ∧ K_ := ⟨⟨p0_, p1_, p2_, p3_, p4_⟩, Imp.refl _, Imp.refl _, Imp.refl _, k_⟩
theorem kc15 (now : List ByteArray) (next : List ByteArray) (user : ByteArray) {K_ : Prop} (p0_ : now.length ≤ 1048576) (p1_ : next.length ≤ 1048576) (p2_ : ∀ k : Nat, (now.getD k default).size ≤ 1048576) (p3_ : ∀ k : Nat, (next.getD k default).size ≤ 1048576) (k_ : K_) : (now.length ≤ 1048576 ∧ next.length ≤ 1048576 ∧ (∀ k : Nat, (now.getD k default).size ≤ 1048576) ∧ (∀ k : Nat, (next.getD k default).size ≤ 1048576)) ∧ (Imp (.l 1 eStr now) (.l 1 eStr now)) ∧ (Imp (.l 1 eStr next) (.l 1 eStr next)) ∧ (Imp (.v (.string user)) (.v (.string user))) ∧ K_ := ⟨⟨p0_, p1_, p2_, p3_⟩, Imp.refl _, Imp.refl _, Imp.refl _, k_⟩
abbrev kh7f (a : List ByteArray) (left' : Int) : Hint false Tryz.prog := .call 7 (S7 a left') ((ok7 a left').to false) none
abbrev Ey (a : List ByteArray) : Hint false Tryz.prog := .call 9 (S9 a a) ((oa9 a).to false) none
abbrev kh14f (now : List ByteArray) (next : List ByteArray) (user : ByteArray) : Hint false Tryz.prog := .call 14 (S14 now next user) ((ok14 now next user).to false) none
abbrev kh15 (now : List ByteArray) (next : List ByteArray) (user : ByteArray) : Hint false Tryz.prog := .call 15 (S15 now next user) (ok15 now next user) none
theorem kc11a (a : List ByteArray) (b : List ByteArray) {K_ : Prop} (k_ : K_) : (True) ∧ (Imp (.l 1 eStr a) (.l 1 eStr a)) ∧ (Imp (.l 1 eStr b) (.l 1 eStr b)) ∧ K_ := ⟨trivial, Imp.refl _, Imp.refl _, k_⟩
abbrev Qpc (a : List ByteArray) (b : List ByteArray) : Hint false Tryz.prog := .call 11 (S11 (decide (a = b)) a b) ((oa11 a b).to false) none
def F4 (aNow : List ByteArray) (aNext : List ByteArray) (aUser : ByteArray) : Bool :=
 bif (decide ((aUser.size : Int) > 1048576)) then true else (bif (decide ((F7 aNow 1048576) < 0)) then true else (bif (decide ((F7 aNext (F7 aNow 1048576)) < 0)) then true else (bif (!((F15 aNow aNext aUser) == (F14 aNow aNext aUser))) then false else (bif (!(decide (aNow = aNow))) then false else (bif (!(decide (aNext = aNext))) then false else true)))))
def S4 (aNow : List ByteArray) (aNext : List ByteArray) (aUser : ByteArray) : Spec := ⟨[.r (.c (.l 1 eStr aNow)), .r (.c (.l 1 eStr aNext)), .r (.c (.v (.string aUser)))], .v (.bool (F4 aNow aNext aUser)), (∀ k : Nat, (aNow.getD k default).size ≤ 9223372036854775807) ∧ (∀ k : Nat, (aNext.getD k default).size ≤ 9223372036854775807)⟩
theorem ok4 (aNow : List ByteArray) (aNext : List ByteArray) (aUser : ByteArray) : (S4 aNow aNext aUser).ok Tryz.prog 4 false :=
 Qj mixed (fn := Tryz.f4) (ct := .seqk [(0, 0), (1, 0)] .no (.seq (.seq .no (.cond (.seq .no .no) .no)) (.seq .no (.seq (.reg [(2, kh7f aNow 1048576)]) (.seq (.seq .no (.cond (.seq .no .no) .no)) (.seq (.reg [(2, kh7f aNext (F7 aNow 1048576))]) (.seq (.seq .no (.cond (.seq .no .no) .no)) (.seq (.reg [(1, Ey aNow), (3, Ey aNext), (5, kh14f aNow aNext aUser)]) (.seq (.reg [(1, Ey aNow)]) (.seq (.reg [(1, Ey aNext)]) (.seq (.reg [(3, kh15 aNow aNext aUser)]) (.seq (.seq .no (.cond (.seq .no .no) .no)) (.seq (.seq (.reg [(2, Ey aNow), (3, Qpc aNow aNow)]) (.cond (.seq .no .no) .no)) (.seq (.seq (.reg [(2, Ey aNext), (3, Qpc aNext aNext)]) (.cond (.seq .no .no) .no)) (.seq .no .no))))))))))))))) Tryz.func4 (fun (hp : (∀ k : Nat, (aNow.getD k default).size ≤ 9223372036854775807) ∧ (∀ k : Nat, (aNext.getD k default).size ≤ 9223372036854775807)) => have hpre0 := hp.1; have hpre1 := hp.2; kn aNow fun _ => kn aNext fun _ => ifd ((aUser.size : Int) > 1048576) (fun h1 _ => fiB true (F4 aNow aNext aUser) (condT h1 rfl)) (fun h1 _ => kc7 aNow 1048576 (by first | omega | assumption | exact Int.le_trans (Qz aNow 1048576 (by omega)) (by decide) | exact Uc aNow (l := 1048576) (by omega) (by omega) | exact Qt aNow (l := 1048576) (by omega) (by omega) | exact Uc aNext (l := F7 aNow 1048576) (by omega) (Int.le_trans (Qz aNow 1048576 (by omega)) (by decide)) | exact Qt aNext (l := F7 aNow 1048576) (by omega) (Int.le_trans (Qz aNow 1048576 (by omega)) (by decide))) (by first | omega | assumption | exact Int.le_trans (Qz aNow 1048576 (by omega)) (by decide) | exact Uc aNow (l := 1048576) (by omega) (by omega) | exact Qt aNow (l := 1048576) (by omega) (by omega) | exact Uc aNext (l := F7 aNow 1048576) (by omega) (Int.le_trans (Qz aNow 1048576 (by omega)) (by decide)) | exact Qt aNext (l := F7 aNow 1048576) (by omega) (Int.le_trans (Qz aNow 1048576 (by omega)) (by decide))) (by first | omega | assumption | exact Int.le_trans (Qz aNow 1048576 (by omega)) (by decide) | exact Uc aNow (l := 1048576) (by omega) (by omega) | exact Qt aNow (l := 1048576) (by omega) (by omega) | exact Uc aNext (l := F7 aNow 1048576) (by omega) (Int.le_trans (Qz aNow 1048576 (by omega)) (by decide)) | exact Qt aNext (l := F7 aNow 1048576) (by omega) (Int.le_trans (Qz aNow 1048576 (by omega)) (by decide))) (fun gv2 gv3 gv4 => ifd ((F7 aNow 1048576) < 0) (fun h5 _ => fiB true (F4 aNow aNext aUser) (condF h1 (condT h5 rfl))) (fun h5 _ => kc7 aNext (F7 aNow 1048576) (by first | omega | assumption | exact Int.le_trans (Qz aNow 1048576 (by omega)) (by decide) | exact Uc aNow (l := 1048576) (by omega) (by omega) | exact Qt aNow (l := 1048576) (by omega) (by omega) | exact Uc aNext (l := F7 aNow 1048576) (by omega) (Int.le_trans (Qz aNow 1048576 (by omega)) (by decide)) | exact Qt aNext (l := F7 aNow 1048576) (by omega) (Int.le_trans (Qz aNow 1048576 (by omega)) (by decide))) (by first | omega | assumption | exact Int.le_trans (Qz aNow 1048576 (by omega)) (by decide) | exact Uc aNow (l := 1048576) (by omega) (by omega) | exact Qt aNow (l := 1048576) (by omega) (by omega) | exact Uc aNext (l := F7 aNow 1048576) (by omega) (Int.le_trans (Qz aNow 1048576 (by omega)) (by decide)) | exact Qt aNext (l := F7 aNow 1048576) (by omega) (Int.le_trans (Qz aNow 1048576 (by omega)) (by decide))) (by first | omega | assumption | exact Int.le_trans (Qz aNow 1048576 (by omega)) (by decide) | exact Uc aNow (l := 1048576) (by omega) (by omega) | exact Qt aNow (l := 1048576) (by omega) (by omega) | exact Uc aNext (l := F7 aNow 1048576) (by omega) (Int.le_trans (Qz aNow 1048576 (by omega)) (by decide)) | exact Qt aNext (l := F7 aNow 1048576) (by omega) (Int.le_trans (Qz aNow 1048576 (by omega)) (by decide))) (fun gv6 gv7 gv8 => ifd ((F7 aNext (F7 aNow 1048576)) < 0) (fun h9 _ => fiB true (F4 aNow aNext aUser) (condF h1 (condF h5 (condT h9 rfl)))) (fun h9 _ => kc9a aNow (by omega) (by first | assumption | exact hpre0 _ | exact fun k _ => hpre0 k | exact hpre1 _ | exact fun k _ => hpre1 k | exact gv4 (by omega) (by omega) (by omega) | exact gv8 (by omega) (by omega) (by omega) | (intros; exact trivial) | (intros; exact Nat.zero_le _)) (kc9a aNext (by omega) (by first | assumption | exact hpre0 _ | exact fun k _ => hpre0 k | exact hpre1 _ | exact fun k _ => hpre1 k | exact gv4 (by omega) (by omega) (by omega) | exact gv8 (by omega) (by omega) (by omega) | (intros; exact trivial) | (intros; exact Nat.zero_le _)) (kc14 aNow aNext aUser (by first | omega | assumption | exact Int.le_trans (Qz aNow 1048576 (by omega)) (by decide) | exact Uc aNow (l := 1048576) (by omega) (by omega) | exact Qt aNow (l := 1048576) (by omega) (by omega) | exact Uc aNext (l := F7 aNow 1048576) (by omega) (Int.le_trans (Qz aNow 1048576 (by omega)) (by decide)) | exact Qt aNext (l := F7 aNow 1048576) (by omega) (Int.le_trans (Qz aNow 1048576 (by omega)) (by decide))) (by first | omega | assumption | exact Int.le_trans (Qz aNow 1048576 (by omega)) (by decide) | exact Uc aNow (l := 1048576) (by omega) (by omega) | exact Qt aNow (l := 1048576) (by omega) (by omega) | exact Uc aNext (l := F7 aNow 1048576) (by omega) (Int.le_trans (Qz aNow 1048576 (by omega)) (by decide)) | exact Qt aNext (l := F7 aNow 1048576) (by omega) (Int.le_trans (Qz aNow 1048576 (by omega)) (by decide))) (by first | omega | assumption | exact Int.le_trans (Qz aNow 1048576 (by omega)) (by decide) | exact Uc aNow (l := 1048576) (by omega) (by omega) | exact Qt aNow (l := 1048576) (by omega) (by omega) | exact Uc aNext (l := F7 aNow 1048576) (by omega) (Int.le_trans (Qz aNow 1048576 (by omega)) (by decide)) | exact Qt aNext (l := F7 aNow 1048576) (by omega) (Int.le_trans (Qz aNow 1048576 (by omega)) (by decide))) (by first | omega | assumption | exact Int.le_trans (Qz aNow 1048576 (by omega)) (by decide) | exact Uc aNow (l := 1048576) (by omega) (by omega) | exact Qt aNow (l := 1048576) (by omega) (by omega) | exact Uc aNext (l := F7 aNow 1048576) (by omega) (Int.le_trans (Qz aNow 1048576 (by omega)) (by decide)) | exact Qt aNext (l := F7 aNow 1048576) (by omega) (Int.le_trans (Qz aNow 1048576 (by omega)) (by decide))) (by first | omega | assumption | exact Int.le_trans (Qz aNow 1048576 (by omega)) (by decide) | exact Uc aNow (l := 1048576) (by omega) (by omega) | exact Qt aNow (l := 1048576) (by omega) (by omega) | exact Uc aNext (l := F7 aNow 1048576) (by omega) (Int.le_trans (Qz aNow 1048576 (by omega)) (by decide)) | exact Qt aNext (l := F7 aNow 1048576) (by omega) (Int.le_trans (Qz aNow 1048576 (by omega)) (by decide))) (kc9a aNow (by omega) (by first | assumption | exact hpre0 _ | exact fun k _ => hpre0 k | exact hpre1 _ | exact fun k _ => hpre1 k | exact gv4 (by omega) (by omega) (by omega) | exact gv8 (by omega) (by omega) (by omega) | (intros; exact trivial) | (intros; exact Nat.zero_le _)) (kc9a aNext (by omega) (by first | assumption | exact hpre0 _ | exact fun k _ => hpre0 k | exact hpre1 _ | exact fun k _ => hpre1 k | exact gv4 (by omega) (by omega) (by omega) | exact gv8 (by omega) (by omega) (by omega) | (intros; exact trivial) | (intros; exact Nat.zero_le _)) (kc15 aNow aNext aUser (by first | omega | assumption | exact Int.le_trans (Qz aNow 1048576 (by omega)) (by decide) | exact Uc aNow (l := 1048576) (by omega) (by omega) | exact Qt aNow (l := 1048576) (by omega) (by omega) | exact Uc aNext (l := F7 aNow 1048576) (by omega) (Int.le_trans (Qz aNow 1048576 (by omega)) (by decide)) | exact Qt aNext (l := F7 aNow 1048576) (by omega) (Int.le_trans (Qz aNow 1048576 (by omega)) (by decide))) (by first | omega | assumption | exact Int.le_trans (Qz aNow 1048576 (by omega)) (by decide) | exact Uc aNow (l := 1048576) (by omega) (by omega) | exact Qt aNow (l := 1048576) (by omega) (by omega) | exact Uc aNext (l := F7 aNow 1048576) (by omega) (Int.le_trans (Qz aNow 1048576 (by omega)) (by decide)) | exact Qt aNext (l := F7 aNow 1048576) (by omega) (Int.le_trans (Qz aNow 1048576 (by omega)) (by decide))) (by first | omega | assumption | exact Int.le_trans (Qz aNow 1048576 (by omega)) (by decide) | exact Uc aNow (l := 1048576) (by omega) (by omega) | exact Qt aNow (l := 1048576) (by omega) (by omega) | exact Uc aNext (l := F7 aNow 1048576) (by omega) (Int.le_trans (Qz aNow 1048576 (by omega)) (by decide)) | exact Qt aNext (l := F7 aNow 1048576) (by omega) (Int.le_trans (Qz aNow 1048576 (by omega)) (by decide))) (by first | omega | assumption | exact Int.le_trans (Qz aNow 1048576 (by omega)) (by decide) | exact Uc aNow (l := 1048576) (by omega) (by omega) | exact Qt aNow (l := 1048576) (by omega) (by omega) | exact Uc aNext (l := F7 aNow 1048576) (by omega) (Int.le_trans (Qz aNow 1048576 (by omega)) (by decide)) | exact Qt aNext (l := F7 aNow 1048576) (by omega) (Int.le_trans (Qz aNow 1048576 (by omega)) (by decide))) (ifb (!((F15 aNow aNext aUser) == (F14 aNow aNext aUser))) (fun h10 => fiB false (F4 aNow aNext aUser) (condF h1 (condF h5 (condF h9 (condT h10 rfl))))) (fun h10 => kc9a aNow (by omega) (by first | assumption | exact hpre0 _ | exact fun k _ => hpre0 k | exact hpre1 _ | exact fun k _ => hpre1 k | exact gv4 (by omega) (by omega) (by omega) | exact gv8 (by omega) (by omega) (by omega) | (intros; exact trivial) | (intros; exact Nat.zero_le _)) (kc11a aNow aNow (ifb (!(decide (aNow = aNow))) (fun h11 => have _ := of_decide_eq_false (Km h11); fiB false (F4 aNow aNext aUser) (condF h1 (condF h5 (condF h9 (condF h10 (condT h11 rfl)))))) (fun h11 => have _ := of_decide_eq_true (Uv h11); kc9a aNext (by omega) (by first | assumption | exact hpre0 _ | exact fun k _ => hpre0 k | exact hpre1 _ | exact fun k _ => hpre1 k | exact gv4 (by omega) (by omega) (by omega) | exact gv8 (by omega) (by omega) (by omega) | (intros; exact trivial) | (intros; exact Nat.zero_le _)) (kc11a aNext aNext (ifb (!(decide (aNext = aNext))) (fun h12 => have _ := of_decide_eq_false (Km h12); fiB false (F4 aNow aNext aUser) (condF h1 (condF h5 (condF h9 (condF h10 (condF h11 (condT h12 rfl))))))) (fun h12 => have _ := of_decide_eq_true (Uv h12); fiB true (F4 aNow aNext aUser) (condF h1 (condF h5 (condF h9 (condF h10 (condF h11 (condF h12 rfl))))))))))))))))))))))))) (by kernel_rfl)
theorem Qub (a b : List ByteArray) (u : ByteArray) : F4 a b u = true := by
 unfold F4
 rw [Qoz]
 simp
end Go.Proofs.YthjaknclldmheaaGreatDoor
namespace Go.Proofs.YthjaknclldmheaaGreatDoor
open Go Go.RowKit Go.ChangeShapes Go.WideShapes Go.ChangeAt
set_option maxRecDepth 100000
set_option linter.unusedVariables false
theorem op_9 : OpD Tryz.prog 9 eStr := OpD.str Tryz.underlying9
theorem op_22 : OpD Tryz.prog 22 (fun xs : List ByteArray => [.l 1 eStr xs]) := OpD.slice 1 Tryz.underlying22 op_9 (fun _ => rfl) (by kernel_rfl) (by decide)
def Qow (s : ByteArray) : List Dat := [.x (BX s 9223372036854775807)]
theorem Qun : OpD Tryz.prog 9 Qow := fun H e W f cs y h => by
 obtain ⟨s, rfl, _, hs⟩ := DataW.trod_string Tryz.underlying9 h
 exact ⟨s, _, _, rfl, ⟨rfl, hs⟩, rfl⟩
theorem Qkd {S : Nat → Prop} {W : World} {xs : List ByteArray} {v : Value} (h : RdV S W (.l 1 Qow xs) v) : RdV S W (.l 1 eStr xs) v ∧ ∀ k : Nat, (xs.getD k default).size ≤ 9223372036854775807 := by
 obtain ⟨a, c, e, h1, h2, h3⟩ := h
 refine ⟨⟨a, c, e, h1, h2, fun i x hx => ?_⟩, fun k => ?_⟩
 ·obtain ⟨k1, k2, cs, k3, k4, k5⟩ := h3 i x hx
  obtain ⟨u, us, rfl, ⟨k6, k7⟩, k8⟩ := k5
  exact ⟨k1, k2, _, k3, k4, u, us, rfl, ⟨k6, rfl⟩, k8⟩
 ·rw [List.getD_eq_getElem?_getD]
  cases hx : xs[k]? with
  | none => exact Nat.zero_le _
  | some x =>
   obtain ⟨k1, k2, cs, k3, k4, k5⟩ := h3 k x hx
   obtain ⟨u, us, rfl, ⟨k6, k7⟩, k8⟩ := k5
   exact k7
theorem Qqj : OpD Tryz.prog 22 (fun xs : List ByteArray => [.l 1 Qow xs]) := OpD.slice 1 Tryz.underlying22 Qun (fun _ => rfl) (by kernel_rfl) (by decide)
theorem own : ownKnob Tryz.prog.godebug = none := by kernel_rfl
theorem cfA : Tryz.prog.inPlace 4 = Rows.fnExactConfMayRow.inPlace := by kernel_rfl
theorem cfB : Tryz.prog.unfollowed 4 = Rows.fnExactConfMayRow.unfollowed := by kernel_rfl
theorem cfC : Tryz.prog.recurses 4 = Rows.fnExactConfMayRow.recurses := by kernel_rfl
theorem cfD : Tryz.prog.varsNamed 4 = Rows.fnExactConfMayRow.named := by kernel_rfl
set_option maxRecDepth 100000 in
def putC (cs : Array Value) : Obj → Obj
 | .cells _ t fz => .cells cs t fz
 | o => o
noncomputable def Hr (os : Os) : World :=
 let w := World.holding Tryz.prog os ⟨#[.cells #[.string ⟨#[118, 97, 108, 117, 101, 32, 111, 117, 116, 32, 111, 102, 32, 114, 97, 110, 103, 101]⟩] 224, .cells #[.string ⟨#[105, 110, 118, 97, 108, 105, 100, 32, 115, 121, 110, 116, 97, 120]⟩] 224], #[], []⟩
 { w with heap := (((((((w.heap.modify ((Tryz.prog.globalNamed "math/bits.deBruijn32tab").getD 0) (putC #[(.int .u8 0), (.int .u8 1), (.int .u8 28), (.int .u8 2), (.int .u8 29), (.int .u8 14), (.int .u8 24), (.int .u8 3), (.int .u8 30), (.int .u8 22), (.int .u8 20), (.int .u8 15), (.int .u8 25), (.int .u8 17), (.int .u8 4), (.int .u8 8), (.int .u8 31), (.int .u8 27), (.int .u8 13), (.int .u8 23), (.int .u8 21), (.int .u8 19), (.int .u8 16), (.int .u8 7), (.int .u8 26), (.int .u8 12), (.int .u8 18), (.int .u8 6), (.int .u8 11), (.int .u8 5), (.int .u8 10), (.int .u8 9)])).modify ((Tryz.prog.globalNamed "math/bits.deBruijn64tab").getD 0) (putC #[(.int .u8 0), (.int .u8 1), (.int .u8 56), (.int .u8 2), (.int .u8 57), (.int .u8 49), (.int .u8 28), (.int .u8 3), (.int .u8 61), (.int .u8 58), (.int .u8 42), (.int .u8 50), (.int .u8 38), (.int .u8 29), (.int .u8 17), (.int .u8 4), (.int .u8 62), (.int .u8 47), (.int .u8 59), (.int .u8 36), (.int .u8 45), (.int .u8 43), (.int .u8 51), (.int .u8 22), (.int .u8 53), (.int .u8 39), (.int .u8 33), (.int .u8 30), (.int .u8 24), (.int .u8 18), (.int .u8 12), (.int .u8 5), (.int .u8 63), (.int .u8 55), (.int .u8 48), (.int .u8 27), (.int .u8 60), (.int .u8 41), (.int .u8 37), (.int .u8 16), (.int .u8 46), (.int .u8 35), (.int .u8 44), (.int .u8 21), (.int .u8 52), (.int .u8 32), (.int .u8 23), (.int .u8 11), (.int .u8 54), (.int .u8 26), (.int .u8 40), (.int .u8 15), (.int .u8 34), (.int .u8 20), (.int .u8 31), (.int .u8 10), (.int .u8 25), (.int .u8 14), (.int .u8 19), (.int .u8 9), (.int .u8 13), (.int .u8 8), (.int .u8 7), (.int .u8 6)])).modify ((Tryz.prog.globalNamed "internal/strconv.uint64pow10").getD 0) (putC #[(.int .u64 1), (.int .u64 10), (.int .u64 100), (.int .u64 1000), (.int .u64 10000), (.int .u64 100000), (.int .u64 1000000), (.int .u64 10000000), (.int .u64 100000000), (.int .u64 1000000000), (.int .u64 10000000000), (.int .u64 100000000000), (.int .u64 1000000000000), (.int .u64 10000000000000), (.int .u64 100000000000000), (.int .u64 1000000000000000), (.int .u64 10000000000000000), (.int .u64 100000000000000000), (.int .u64 1000000000000000000), (.int .u64 10000000000000000000)])).modify ((Tryz.prog.globalNamed "unicode/utf8.acceptRanges").getD 0) (putC #[(.int .u8 128), (.int .u8 191), (.int .u8 160), (.int .u8 191), (.int .u8 128), (.int .u8 159), (.int .u8 144), (.int .u8 191), (.int .u8 128), (.int .u8 143), (.int .u8 0), (.int .u8 0), (.int .u8 0), (.int .u8 0), (.int .u8 0), (.int .u8 0), (.int .u8 0), (.int .u8 0), (.int .u8 0), (.int .u8 0), (.int .u8 0), (.int .u8 0), (.int .u8 0), (.int .u8 0), (.int .u8 0), (.int .u8 0), (.int .u8 0), (.int .u8 0), (.int .u8 0), (.int .u8 0), (.int .u8 0), (.int .u8 0)])).modify ((Tryz.prog.globalNamed "strconv.ErrRange").getD 0) (putC #[.iface 222 (.pointer (some ⟨Tryz.prog.low + 0, 0, none⟩))])).modify ((Tryz.prog.globalNamed "strconv.ErrSyntax").getD 0) (putC #[.iface 222 (.pointer (some ⟨Tryz.prog.low + 1, 0, none⟩))])).modify ((Tryz.prog.globalNamed "unicode/utf8.first").getD 0) (putC ((Go.Pinned.utf8FirstZ.map fun n => Value.int .u8 (n : Nat)).toArray))) }
theorem Qnv (os : Os) : laidMet Tryz.prog Rows.fnExactConfMayRow.laid ((Hr os).forCall (fun _ _ => 0) ⟨#[], #[.slice none 0 0, .slice none 0 0, .string (⟨#[]⟩ : ByteArray)], []⟩).memory :=
 laidMet_of_run3 8 (by kernel_rfl) (by kernel_rfl) (by kernel_rfl)
theorem reads (os : Os) {H : Type} (enc : TypeId × Value → H) : ∃ Vr, DataW.whole enc Tryz.prog ((Hr os).forCall (fun _ _ => 0) ⟨#[], #[.slice none 0 0, .slice none 0 0, .string (⟨#[]⟩ : ByteArray)], []⟩).memory Tryz.f4.params.toList Rows.fnExactConfMaySpec.vars false #[.slice none 0 0, .slice none 0 0, .string (⟨#[]⟩ : ByteArray)].toList 8 = some ([.nil, .nil, .lit (.string [])], [], Vr) :=
 ⟨[], by kernel_rfl⟩
theorem Qcj {W : World} {l : List (String × DataW Unit)} (h : laidMet Tryz.prog l W) {n tn : String} {d : DataW Unit} (hm : (n, .iface tn d) ∈ l) {g : Nat} (hg : Tryz.prog.globalNamed n = some g) (ht : (Tryz.prog.globals[g]?).map (·.type) = some 126) :
  ∃ e, W.cell? ⟨g, 0, none⟩ = some e ∧ (e = .nilIface ∨ ∃ te pe, e = .iface te pe) := by
 obtain ⟨g', t', cs, fuel, p, h1, h2, h3, h4⟩ := Lib.laidMet.reads h hm
 obtain rfl := Option.some.inj (hg.symm.trans h1)
 obtain rfl := Option.some.inj (ht.symm.trans h2)
 have hc : ∀ i, W.cell? ⟨g, i, none⟩ = cs[i]? := fun i => by
  unfold World.var? at h3
  rw [hg] at h3
  simp only [Option.bind_some] at h3
  split at h3
  ·rename_i c _ _ hh
   simp only [Option.some.injEq] at h3
   subst h3
   simp [World.cell?, hh]
  ·cases h3
 cases fuel with
 | zero => simp [DataW.trod] at h4
 | succ fuel =>
  simp only [DataW.trod, Tryz.underlying126] at h4
  split at h4 <;> first
   | (cases h4; done)
   | (rename_i hcs; refine ⟨_, (hc 0).trans (by rw [← Array.getElem?_toList, hcs]; rfl), ?_⟩; first | exact .inl rfl | exact .inr ⟨_, _, rfl⟩)
   | (simp at h4; done)
   | (exfalso; simp_all; done)
theorem lifted (os : Os) (started : os.Started) (H : Type) (enc : TypeId × Value → H) (F : Stop.Interp) :
  ReturnsInHanded {} Tryz.checked os 4 .any ((OpenSpec.ofChange Rows.fnExactConfMaySpec).preRow enc Tryz.prog Tryz.f4 Rows.fnExactConfMayRow.domain false Rows.fnExactConfMayRow.laid) (((OpenSpec.ofChange Rows.fnExactConfMaySpec).at F).post enc Tryz.prog Tryz.f4 false true false false) := by
 obtain ⟨Vr, hx⟩ := reads os enc
 refine returnsInHanded_of_row (C := Tryz.checked) (s := OpenSpec.ofChange Rows.fnExactConfMaySpec) own started (by kernel_rfl) Tryz.func4
  (witness_row_at (enc := enc) (C := Tryz.checked) false (Hr os) #[.slice none 0 0, .slice none 0 0, .string (⟨#[]⟩ : ByteArray)] rfl (by kernel_rfl) (by kernel_rfl) (by kernel_rfl)
   (OpenSpec.preRow_of_cond 8 hx (by kernel_rfl) (fun k hk => by cases hk) (by kernel_rfl) (Qnv os))) ?_
 intro W base args ds gs before hval0 hW hcnd _ _ hL hsh _
 have hL' : laidMet Tryz.prog Rows.fnExactConfMayRow.laid W := by
  have h0 := hL
  unfold laidMetH at h0
  rw [show (Rows.fnExactConfMayRow.laid.filter fun x => x.2.handleName?.isSome) = [] from by kernel_rfl] at h0
  exact h0
 have hval : ∀ (j : Nat) t v, Tryz.f4.params[j]? = some t → args[j]? = some v → Value.okWide Tryz.prog W .any base t v := hval0
 have hW' := hW
 obtain ⟨p, q, hA0, hV, rfl, hfz, hnd⟩ := hW
 have hA : DataW.TrodAll enc Tryz.prog W 0 (fun _ => true) true Tryz.f4.params.toList args.toList ds p := hA0
 rw [Tryz.params4] at hA hval
 obtain ⟨v0, vs0, d0, ds0, p0, q0, hargs, rfl, rfl, h0, r0⟩ := trodAll_cons hA
 obtain ⟨v1, vs1, d1, ds1, p1, q1, rfl, rfl, rfl, h1, r1⟩ := trodAll_cons r0
 obtain ⟨v2, vs2, d2, ds2, p2, q2, rfl, rfl, rfl, h2, r2⟩ := trodAll_cons r1
 obtain ⟨rfl, rfl, rfl⟩ := trodAll_nil r2
 obtain rfl : args = #[v0, v1, v2] := by cases args; simp_all
 obtain ⟨rfl, rfl⟩ := trodVars_none hV
 obtain ⟨fu0, t0⟩ := h0
 obtain ⟨a0, n0, c0, rfl⟩ := okWide_slice Tryz.underlying22 (hval 0 22 v0 rfl rfl)
 obtain ⟨x0, u0, us0, e0, o0, -⟩ := Qqj H enc W fu0 _ _ t0
 obtain ⟨o0, b0⟩ := Qkd o0
 obtain rfl : u0 = _ := (List.cons.inj e0).1.symm
 obtain ⟨fu1, t1⟩ := h1
 obtain ⟨a1, n1, c1, rfl⟩ := okWide_slice Tryz.underlying22 (hval 1 22 v1 rfl rfl)
 obtain ⟨x1, u1, us1, e1, o1, -⟩ := Qqj H enc W fu1 _ _ t1
 obtain ⟨o1, b1⟩ := Qkd o1
 obtain rfl : u1 = _ := (List.cons.inj e1).1.symm
 obtain ⟨fu2, t2⟩ := h2
 obtain ⟨x2, rfl⟩ := okWide_string Tryz.underlying9 (hval 2 9 v2 rfl rfl)
 have hG : GP W := ⟨fun b hb => by
  simp only [GBe, List.nil_append, List.cons_append, List.mem_cons, List.not_mem_nil, or_false] at hb
  rcases hb with rfl | rfl
  ·exact Qcj hL' (n := "strconv.ErrSyntax") (by unfold Rows.fnExactConfMayRow; exact List.mem_cons_of_mem _ (List.mem_cons_of_mem _ (List.mem_cons_of_mem _ (List.mem_cons_of_mem _ (List.mem_cons_of_mem _ (List.mem_cons_self)))))) (show Tryz.prog.globalNamed "strconv.ErrSyntax" = some ((Tryz.prog.globalNamed "strconv.ErrSyntax").getD 0) from by kernel_rfl) (by kernel_rfl)
  ·exact Qcj hL' (n := "strconv.ErrRange") (by unfold Rows.fnExactConfMayRow; exact List.mem_cons_of_mem _ (List.mem_cons_of_mem _ (List.mem_cons_of_mem _ (List.mem_cons_of_mem _ (List.mem_cons_self))))) (show Tryz.prog.globalNamed "strconv.ErrRange" = some ((Tryz.prog.globalNamed "strconv.ErrRange").getD 0) from by kernel_rfl) (by kernel_rfl), fun b hb => by simp only [GBi, List.nil_append, List.mem_cons, List.not_mem_nil, or_false] at hb; subst hb; exact layCutM.s1_3 W hsh, fun q hq => by
  simp only [GBt, List.nil_append, List.mem_cons, List.not_mem_nil, or_false] at hq
  subst hq
  obtain ⟨g', t', cs, fuel, p, h1, h2, h3, h4⟩ := Lib.laidMet.reads hL' (n := "internal/strconv.uint64pow10") (by unfold Rows.fnExactConfMayRow; exact List.mem_cons_of_mem _ (List.mem_cons_of_mem _ (List.mem_cons_self)))
  obtain rfl := Option.some.inj ((show Tryz.prog.globalNamed "internal/strconv.uint64pow10" = some ((Tryz.prog.globalNamed "internal/strconv.uint64pow10").getD 0) from by kernel_rfl).symm.trans h1)
  obtain rfl := Option.some.inj ((show (Tryz.prog.globals[(Tryz.prog.globalNamed "internal/strconv.uint64pow10").getD 0]?).map (·.type) = some 226 from by kernel_rfl).symm.trans h2)
  have hc := Lib.cells_of_tab (k := .u64) (zs := Lib.pow10Tab) Tryz.underlying226 Tryz.underlying142 (by kernel_rfl) (by kernel_rfl) h4
  unfold World.var? at h3
  rw [(show Tryz.prog.globalNamed "internal/strconv.uint64pow10" = some ((Tryz.prog.globalNamed "internal/strconv.uint64pow10").getD 0) from by kernel_rfl)] at h3
  simp only [Option.bind_some] at h3
  split at h3
  ·rename_i c T fz hh
   simp only [Option.some.injEq] at h3
   subst h3
   exact ⟨T, fz, hh.trans (by congr 1; congr 1; exact Array.ext' (by simpa using hc))⟩
  ·cases h3⟩
 have hc := Qot (W := W) (vs := [.slice a0 n0 c0, .slice a1 n1 c1, .string x2]) (ok4 x0 x1 x2) (And.intro (b0) (b1)) (x := .bool (F4 x0 x1 x2)) hG ⟨_, _, [], [], rfl, ⟨o0, rfl⟩, ⟨_, _, [], [], rfl, ⟨o1, rfl⟩, ⟨_, _, [], [], rfl, ⟨⟨rfl, rfl⟩, rfl⟩, ⟨rfl, rfl⟩, rfl, List.nodup_nil⟩, rfl, List.nodup_nil⟩, rfl, List.nodup_nil⟩ rfl rfl
 rw [Qub x0 x1 x2] at hc
 refine hc.mono fun e W' ⟨he, hb⟩ => ?_
 subst he
 exact ⟨_, rfl, Qqy rfl hW' hb rfl Tryz.underlying4 rfl rfl rfl laid (by decide +kernel)⟩
theorem said_FnExactConfMay : Rows.FnExactConfMaySaid :=
 OpenClaim.holds_of_cond 4 Tryz.f4 rfl rfl rfl rfl rfl rfl rfl ⟨rfl, rfl, rfl, rfl, rfl⟩ rfl rfl rfl rfl rfl (by kernel_rfl) Tryz.func4 (by
   show joinedFacts Tryz.prog 4 Tryz.f4 (OpenSpec.ofChange Rows.fnExactConfMaySpec).bare Rows.fnExactConfMayRow = true
   simp only [joinedFacts, laid, cfMaps, cfKeys, Qtg, Qsy, Qsh, cfMake, cfA, cfB, cfC, cfD, Bool.and_true]
   kernel_rfl)
  (of_decide_eq_true (by kernel_rfl)) (by unfold Func.isWrapper; first | (rw [if_pos (by decide +kernel)]; kernel_rfl) | (rw [if_neg (by decide +kernel)]; exact ⟨rfl, rfl⟩))
  (fun os started H enc _ F => by rw [OpenClaim.pre_eq_preRow]; exact lifted os started H enc F)
theorem Qkq (f : FuncId) (fn : Func) (hf : Tryz.pinned.checked.prog.funcNamed "loop.example/tern/laws.FnExactConfMay" = some f) (hfn : Tryz.pinned.checked.prog.funcs[f]? = some fn) :
  true = Tryz.pinned.checked.prog.looks [] ∧ ∀ (j : Nat) t, fn.params[j]? = some t → Tryz.pinned.checked.prog.wantsStandIn t = false := by
 obtain rfl : f = 4 := Option.some.inj ((show Tryz.prog.funcNamed "loop.example/tern/laws.FnExactConfMay" = some 4 by kernel_rfl).symm.trans hf) |>.symm
 obtain rfl : fn = Tryz.f4 := (Option.some.inj (Tryz.func4.symm.trans hfn)).symm
 refine ⟨by kernel_rfl, fun j t ht => ?_⟩
 rw [Tryz.params4] at ht
 have hm := Array.mem_of_getElem? ht
 simp only [List.mem_toArray, List.mem_cons, List.not_mem_nil, or_false] at hm
 rcases hm with rfl | rfl | rfl
 ·exact (show Tryz.prog.wantsStandIn 22 = false by kernel_rfl)
 ·exact (show Tryz.prog.wantsStandIn 22 = false by kernel_rfl)
 ·exact (show Tryz.prog.wantsStandIn 9 = false by kernel_rfl)
theorem card_wf : Rows.fnExactConfMayRow.wfByText (OpenSpec.ofChange Rows.fnExactConfMaySpec) = true := by kernel_rfl
theorem card_main : Tryz.prog.mainIs = some (Rows.fnExactConfMayCard.stood.harness.1, Rows.fnExactConfMayCard.stood.harness.2.toList) := by kernel_rfl
theorem card_goes : false = Rows.fnExactConfMayRow.goesBy Tryz.prog := by kernel_rfl
theorem proved_FnExactConfMay : Rows.FnExactConfMayCardSaid :=
 Claim7.holds_tied_plain_at .later [] _ _ _ _ said_FnExactConfMay (fun _ h => by cases h) card_wf (fun _ h => by cases h) fnExactConfMay_row_tie rfl ⟨rfl, rfl⟩ card_main rfl Qkq card_goes
#print axioms proved_FnExactConfMay
end Go.Proofs.YthjaknclldmheaaGreatDoor
