/- The card's statement of FnExactConfParse: for all arguments the law returns true, without further conditions. Texts put together: VPA, PPA, VPB, PPB, VPC, PPC, VPCL, PPCL, C36. -/
import Derived.Test.YtbaholefcgacpaaGreatDoorRows
import Derived.Test.YtbaholefcgacpaaGreatDoorCards
import Derived.Test.YtbaholefcgacpaaGreatDoorTie
import Derived.Deep.DeepHandedRow
import Derived.Deep.DeepLaidRun
import Derived.JoinedCond
import Derived.Lib.LaidU8
import Derived.Test.YtbaholefcgacpaaGreatDoorZC36E
namespace Go.Proofs.YtbaholefcgacpaaGreatDoor
open Go.RowKit
set_option maxRecDepth 100000
set_option linter.unusedVariables false
set_option linter.unusedSimpArgs false
def F10 (text : ByteArray) : List ByteArray :=
 bif (((F19 text 10).getD (Int.toNat (((F19 text 10).length : Int) - 1)) default).toList == (⟨#[]⟩ : ByteArray).toList) then ((F19 text 10).take (Int.toNat (((F19 text 10).length : Int) - 1))) else (F19 text 10)
theorem fi10 (text : ByteArray) (r : List ByteArray) (hF : r = (F10 text)) : (Imp (.l 1 eStr r) (.l 1 eStr (F10 text))) ∧ True := by cases hF; exact ⟨Imp.refl _, trivial⟩
def S10 (text : ByteArray) : Spec := ⟨[.r (.c (.v (.string text)))], .ow (.l 1 eStr (F10 text)), text.size ≤ 1048576⟩
theorem ok10 (text : ByteArray) : (S10 text).ok Tryz.prog 10 :=
 Qj mixed (fn := Tryz.f10) (ct := .seq .no (.seq (.reg [(1, kh19 text 10)]) (.seq (.seq (.reg [(3, .bnd)]) (.cond (.seq (.reg [(3, .bnd), (4, .own)]) .no) .no)) (.seq .no .no)))) Tryz.func10 (fun (hpre0 : text.size ≤ 1048576) => kc19 text 10 (by first | omega | (simp only [lens, ib] at * <;> omega)) (by first | omega | (simp only [lens, ib] at * <;> omega)) (fun gv1 => have gv2 : 1 ≤ (F19 text 10).length := (by exact Qzg _ _); have gv3 : (F19 text 10).length ≤ text.size + 1 := (by exact (Qjc _ _).2); ai (iok (((F19 text 10).length : Int) - 1) (by first | omega | (simp only [lens, ib] at * <;> omega))) (ai (by first | omega | (simp only [lens, ib] at * <;> omega) : ib (((F19 text 10).length : Int) - 1) (F19 text 10)) (ifb (((F19 text 10).getD (Int.toNat (((F19 text 10).length : Int) - 1)) default).toList == w13_.toList) (fun h4 => ai (iok (((F19 text 10).length : Int) - 1) (by first | omega | (simp only [lens, ib] at * <;> omega))) (ai (by first | omega | (simp only [lens, ib] at * <;> omega) : 0 ≤ (0 : Int) ∧ (0 : Int) ≤ (((F19 text 10).length : Int) - 1) ∧ (((F19 text 10).length : Int) - 1) ≤ ((F19 text 10).length : Int)) (fi10 text ((F19 text 10).take (Int.toNat (((F19 text 10).length : Int) - 1))) (condT h4 rfl)))) (fun h4 => fi10 text (F19 text 10) (condF h4 rfl)))))) (by kernel_rfl)
def Mu (lines : List ByteArray) (key : ByteArray) : Int → Lp Int Int := fun i40 =>
 bif (decide (i40 < (lines.length : Int))) then (bif ((F23 (lines.getD (Int.toNat i40) default)).toList == key.toList) then (.ret i40) else (.next (i40 + 1))) else (.done i40)
def F22 (lines : List ByteArray) (key : ByteArray) : Int :=
 (runL (Mu lines key) ((Int.toNat ((lines.length : Int) - 0)) + 1) 0).fin (fun r => r) (fun i40 => (-1))
abbrev Ta (lines : List ByteArray) : Nat × Int := (((Int.toNat ((lines.length : Int) - 0)) + 1), 0)
abbrev Qjx (lines : List ByteArray) (m39 : Nat) (i40 : Int) : Prop := Int.toNat ((lines.length : Int) - i40) < m39 ∧ (0 : Int) ≤ i40
abbrev Quk (lines : List ByteArray) (key : ByteArray) : Lp Int Int := LpX (Mu lines key) (Ta lines)
abbrev Qas (lines : List ByteArray) (key : ByteArray) (i : Nat × Int) : Prop := LpJ (Mu lines key) (Ta lines) i (Qjx lines i.1 i.2)
abbrev Qtx (lines : List ByteArray) (key : ByteArray) (i : Nat × Int) (m39 : Nat) (i40 : Int) : Prop := LpH (Mu lines key) (Ta lines) i m39 i40 (Qjx lines (m39 + 1) i40)
abbrev Qyy (lines : List ByteArray) (key : ByteArray) (i40 : Int) (i40_ : Int) (K39 : Prop) : Prop := (Rf (.string key)) ∧ ((.int .i64 i40 : Value) = .int .i64 i40_) ∧ (Im (.l 1 eStr lines)) ∧ K39
theorem un22_0 (lines : List ByteArray) (key : ByteArray) (i : Nat × Int) (h : Qas lines key i) : Qtx lines key i (i.1 - 1) i.2 := ⟨hd1 h.1 h.2.1, hd3 h.2.1, hd2 h.2.1, h.2.2⟩
theorem bk22_0 (lines : List ByteArray) (key : ByteArray) (i : Nat × Int) (m39 : Nat) (i40 : Int) (hl : m39 < i.1) (e : runL (Mu lines key) m39 i40 = Quk lines key) (h : Qjx lines m39 i40) : ∃ j : Nat × Int, Qyy lines key i40 j.2 (Qas lines key j ∧ j.1 < i.1) := ⟨(m39, i40), rfl, rfl, Imp.refl _, ⟨e, h⟩, hl⟩
theorem en22_0 (lines : List ByteArray) (key : ByteArray) (h : (0 : Int) ≤ 0) : Qyy lines key 0 0 (Qas lines key (Ta lines)) := ⟨rfl, rfl, Imp.refl _, rfl, Nat.lt_succ_self _, h⟩
def S22 (lines : List ByteArray) (key : ByteArray) : Spec := ⟨[.r (.c (.l 1 eStr lines)), .r (.c (.v (.string key)))], .v (vI (F22 lines key)), (∀ k : Nat, (lines.getD k default).size ≤ 1048576)⟩
theorem ok22 (lines : List ByteArray) (key : ByteArray) : (S22 lines key).ok Tryz.prog 22 :=
 Qj mixed (fn := Tryz.f22) (ct := .seqk [(0, 0)] .no (.seq (.seqk [(0, 0)] .no (.blk (.loop (ι := Nat × Int) (fun i => (fun (i40 : Int) => (⟨[(0, some (.h 0 0)), (1, some (.v (.string key))), (5, some (.v (vI i40)))], [(0, some (.shr none (.l 1 eStr lines)))], 1⟩ : St)) i.2) (Qas lines key) (fun i => i.1) (Ta lines) (fun i => (fun (i40 : Int) => (.seq (.seq .no (.cond .no .no)) (.seq (.blk (.seq (.reg [(4, kh23 (lines.getD (Int.toNat i40) default))]) (.cond (.seq .no .no) .no))) (.reg [(1, .bnd)])))) i.2)))) (.seq .no .no))) Tryz.func22 (fun (hpre0 : ∀ k : Nat, (lines.getD k default).size ≤ 1048576) => kn lines fun _ => kn lines fun _ => ai (en22_0 lines key (by omega)) (fun (i0 : Nat × Int) (hi0 : Qas lines key i0) => (fun (m0 : Nat) (i40 : Int) (hh0 : Qtx lines key i0 m0 i40) => have hI0 := hh0.1; have hl0 := hh0.2.1; have _ := hh0.2.2.1; have _ := hh0.2.2.2; ifd (i40 < (lines.length : Int)) (fun h2 _ => ai (by omega : ib i40 lines) (kc23 (lines.getD (Int.toNat i40) default) (by first | omega | exact hpre0 _ | (intros; exact trivial) | (intros; exact Nat.zero_le _)) (ifb ((F23 (lines.getD (Int.toNat i40) default)).toList == key.toList) (fun h3 => fiI i40 (F22 lines key) (finR (Qr hI0 (condT h2 (condT h3 rfl))) rfl)) (fun h3 => ai (iok (i40 + 1) (by omega)) (bk22_0 lines key i0 m0 (i40 + 1) hl0 (Qd hI0 (condT h2 (condF h3 rfl))) (by refine ⟨?_, ?_⟩ <;> omega)))))) (fun h2 _ => have hD0_4 : Quk lines key = Lp.done i40 := Qk hI0 (condF h2 rfl); fiI (-1) (F22 lines key) (finD hD0_4 rfl))) (i0.1 - 1) i0.2 (un22_0 lines key i0 hi0))) (by kernel_rfl)
def Jl (lines : List ByteArray) (line : ByteArray) : Int → Lp Int (List ByteArray) := fun k400 =>
 bif (bif decide (k400 < (lines.length : Int)) then (Op.bytesLess (lines.getD (Int.toNat k400) default).toList line.toList) else false) then (.next (k400 + 1)) else (.done k400)
def Ey (lines : List ByteArray) (line : ByteArray) : Lp Int (List ByteArray) :=
 (runL (Jl lines line) ((Int.toNat ((lines.length : Int) - 0)) + 1) 0).fin Lp.ret (fun k400 => .done k400)
def F24 (lines : List ByteArray) (line : ByteArray) : List ByteArray :=
 (Ey lines line).fin (fun r => r) (fun k => (((([] : List ByteArray) ++ (lines.take (Int.toNat k))) ++ [line]) ++ (lines.drop (Int.toNat k))))
abbrev Rx (lines : List ByteArray) : Nat × Int := (((Int.toNat ((lines.length : Int) - 0)) + 1), 0)
abbrev Qnf (lines : List ByteArray) (m39 : Nat) (k400 : Int) : Prop := Int.toNat ((lines.length : Int) - k400) < m39 ∧ (0 : Int) ≤ k400 ∧ k400 ≤ (lines.length : Int) ∧ (0 : Int) ≤ k400
abbrev Qvu (lines : List ByteArray) (line : ByteArray) : Lp Int (List ByteArray) := LpX (Jl lines line) (Rx lines)
abbrev Qbj (lines : List ByteArray) (line : ByteArray) (i : Nat × Int) : Prop := LpJ (Jl lines line) (Rx lines) i (Qnf lines i.1 i.2)
abbrev Quz (lines : List ByteArray) (line : ByteArray) (i : Nat × Int) (m39 : Nat) (k400 : Int) : Prop := LpH (Jl lines line) (Rx lines) i m39 k400 (Qnf lines (m39 + 1) k400)
abbrev Qwm (lines : List ByteArray) (line : ByteArray) (k400 : Int) (k400_ : Int) (K39 : Prop) : Prop := (Rf (.string line)) ∧ ((.int .i64 k400 : Value) = .int .i64 k400_) ∧ (Im (.l 1 eStr lines)) ∧ K39
theorem un24_0 (lines : List ByteArray) (line : ByteArray) (i : Nat × Int) (h : Qbj lines line i) : Quz lines line i (i.1 - 1) i.2 := ⟨hd1 h.1 h.2.1, hd3 h.2.1, hd2 h.2.1, h.2.2⟩
theorem bk24_0 (lines : List ByteArray) (line : ByteArray) (i : Nat × Int) (m39 : Nat) (k400 : Int) (hl : m39 < i.1) (e : runL (Jl lines line) m39 k400 = Qvu lines line) (h : Qnf lines m39 k400) : ∃ j : Nat × Int, Qwm lines line k400 j.2 (Qbj lines line j ∧ j.1 < i.1) := ⟨(m39, k400), rfl, rfl, Imp.refl _, ⟨e, h⟩, hl⟩
theorem en24_0 (lines : List ByteArray) (line : ByteArray) (h : (0 : Int) ≤ 0 ∧ 0 ≤ (lines.length : Int) ∧ (0 : Int) ≤ 0) : Qwm lines line 0 0 (Qbj lines line (Rx lines)) := ⟨rfl, rfl, Imp.refl _, rfl, Nat.lt_succ_self _, h⟩
abbrev Qmt (lines : List ByteArray) (line : ByteArray) (k : Int) : Prop := 0 ≤ k ∧ k ≤ (lines.length : Int)
abbrev Qkk (lines : List ByteArray) (line : ByteArray) (j : Int) : Prop := (Ey lines line) = Lp.done j ∧ Qmt lines line j
theorem jn24_0 (lines : List ByteArray) (line : ByteArray) (k : Int) (e : (Ey lines line) = Lp.done k) (h : Qmt lines line k) : ∃ j : Int, ((.string line : Value) = .string line) ∧ ((.int .i64 k : Value) = .int .i64 j) ∧ (Imp (.l 1 eStr lines) (.l 1 eStr lines)) ∧ Qkk lines line j := ⟨k, rfl, rfl, Imp.refl _, e, h⟩
theorem fi24 (lines : List ByteArray) (line : ByteArray) (r : List ByteArray) (hF : r = (F24 lines line)) : (Imp (.l 1 eStr r) (.l 1 eStr (F24 lines line))) ∧ True := by cases hF; exact ⟨Imp.refl _, trivial⟩
def S24 (lines : List ByteArray) (line : ByteArray) : Spec := ⟨[.r (.c (.l 1 eStr lines)), .r (.c (.v (.string line)))], .ow (.l 1 eStr (F24 lines line)), lines.length ≤ 1048576 ∧ (∀ k : Nat, (lines.getD k default).size ≤ 1048576)⟩
theorem ok24 (lines : List ByteArray) (line : ByteArray) : (S24 lines line).ok Tryz.prog 24 :=
 Qj mixed (fn := Tryz.f24) (ct := .seqk [(0, 0)] .no (.seqk [(0, 0)] .no (.cut (ι := Int) (fun j => (fun (k : Int) => (⟨[(0, some (.h 0 0)), (1, some (.v (.string line))), (5, some (.v (vI k)))], [(0, some (.shr none (.l 1 eStr lines)))], 1⟩ : St)) j) (Qkk lines line) (.blk (.loop (ι := Nat × Int) (fun i => (fun (k400 : Int) => (⟨[(0, some (.h 0 0)), (1, some (.v (.string line))), (5, some (.v (vI k400)))], [(0, some (.shr none (.l 1 eStr lines)))], 1⟩ : St)) i.2) (Qbj lines line) (fun i => i.1) (Rx lines) (fun i => (fun (k400 : Int) => (.seq (.seq .no (.cond .no .no)) (.blk (.reg [(1, .bnd)])))) i.2))) (fun j => (fun (k : Int) => (.seq (.reg [(0, .dat (.l 1 eStr ([] : List ByteArray))), (4, .dat (.l 1 eStr (([] : List ByteArray) ++ (lines.take (Int.toNat k))))), (7, .dat (.l 1 eStr ((([] : List ByteArray) ++ (lines.take (Int.toNat k))) ++ [line]))), (11, .dat (.l 1 eStr (((([] : List ByteArray) ++ (lines.take (Int.toNat k))) ++ [line]) ++ (lines.drop (Int.toNat k)))))]) .no)) j)))) Tryz.func24 (fun (hp : lines.length ≤ 1048576 ∧ (∀ k : Nat, (lines.getD k default).size ≤ 1048576)) => have hpre0 := hp.1; have hpre1 := hp.2; kn lines fun _ => kn lines fun _ => ai (ai (en24_0 lines line (by refine ⟨?_, ?_, ?_⟩ <;> first | omega | (simp only [lens, ib] at * <;> omega) | omega | (simp only [Bool.cond_true_left, Bool.cond_false_right, Bool.or_eq_true, Bool.and_eq_true, Bool.or_eq_false_iff, Bool.and_eq_false_iff, decide_eq_true_eq, decide_eq_false_iff_not, beq_iff_eq, beq_eq_false_iff_ne, List.length_append, List.length_cons, List.length_nil] at *; omega))) (fun (i0 : Nat × Int) (hi0 : Qbj lines line i0) => (fun (m0 : Nat) (k400 : Int) (hh0 : Quz lines line i0 m0 k400) => have hI0 := hh0.1; have hl0 := hh0.2.1; have _ := hh0.2.2.1; have _ := hh0.2.2.2; ai (fun k2 : (decide (k400 < (lines.length : Int))) = true => have _ := of_decide_eq_true k2; (by (first | omega | (simp only [Bool.cond_true_left, Bool.cond_false_right, Bool.or_eq_true, Bool.and_eq_true, Bool.or_eq_false_iff, Bool.and_eq_false_iff, decide_eq_true_eq, decide_eq_false_iff_not, beq_iff_eq, beq_eq_false_iff_ne, List.length_append, List.length_cons, List.length_nil] at *; omega)) : 0 ≤ k400 ∧ k400 < (lines.length : Int))) (ifb (bif decide (k400 < (lines.length : Int)) then (Op.bytesLess (lines.getD (Int.toNat k400) default).toList line.toList) else false) (fun h3 => have _ := of_decide_eq_true (Qi h3); have _ := (Qt h3); ai (iok (k400 + 1) (by first | omega | (simp only [lens, ib] at * <;> omega))) (bk24_0 lines line i0 m0 (k400 + 1) hl0 (Qd hI0 (condT h3 rfl)) (by refine ⟨?_, ?_, ?_, ?_⟩ <;> first | omega | (simp only [lens, ib] at * <;> omega) | omega | (simp only [Bool.cond_true_left, Bool.cond_false_right, Bool.or_eq_true, Bool.and_eq_true, Bool.or_eq_false_iff, Bool.and_eq_false_iff, decide_eq_true_eq, decide_eq_false_iff_not, beq_iff_eq, beq_eq_false_iff_ne, List.length_append, List.length_cons, List.length_nil] at *; omega)))) (fun h3 => have hD0_4 : Qvu lines line = Lp.done k400 := Qk hI0 (condF h3 rfl); jn24_0 lines line k400 (Eq.symm (finD hD0_4 rfl)) (by refine ⟨?_, ?_⟩ <;> first | omega | (simp only [lens, ib] at * <;> omega))))) (i0.1 - 1) i0.2 (un24_0 lines line i0 hi0))) (fun (j : Int) (hj : Qkk lines line j) => (fun (k : Int) (hJ0_5 : (Ey lines line) = Lp.done k) (hw : Qmt lines line k) => have _ := hw.1; have _ := hw.2; ai (bokr 1 eStr ([] : List ByteArray) fun _ => rfl) (ai (by first | omega | (simp only [lens, ib] at * <;> omega) : 0 ≤ (0 : Int) ∧ (0 : Int) ≤ k ∧ k ≤ (lines.length : Int)) (ai (AppL.mk eStr ([] : List ByteArray) (lines.take (Int.toNat k)) (Imp.refl (.l 1 eStr ([] : List ByteArray))) ir (fun y => ⟨rfl, fun e he => by simp only [eStr, List.mem_cons, List.not_mem_nil, or_false] at he; rcases he with rfl <;> exact ⟨_, rfl⟩⟩) : AppL (.l 1 eStr ([] : List ByteArray)) (.l 1 eStr (lines.take (Int.toNat k))) 1 (.l 1 eStr (([] : List ByteArray) ++ (lines.take (Int.toNat k))))) (ai (by (try simp only [lens]); omega : (([] : List ByteArray) ++ (lines.take (Int.toNat k))).length * 16 ≤ 140737488355328) (ai (appr 1 eStr (([] : List ByteArray) ++ (lines.take (Int.toNat k))) [line] fun _ => rfl) (ai (by (try simp only [lens]); omega : ((([] : List ByteArray) ++ (lines.take (Int.toNat k))) ++ [line]).length * 16 ≤ 140737488355328) (ai (by first | omega | (simp only [lens, ib] at * <;> omega) : 0 ≤ k ∧ k ≤ (lines.length : Int) ∧ (lines.length : Int) ≤ (lines.length : Int)) (ai (AppL.mk eStr ((([] : List ByteArray) ++ (lines.take (Int.toNat k))) ++ [line]) (lines.drop (Int.toNat k)) (Imp.refl (.l 1 eStr ((([] : List ByteArray) ++ (lines.take (Int.toNat k))) ++ [line]))) ir (fun y => ⟨rfl, fun e he => by simp only [eStr, List.mem_cons, List.not_mem_nil, or_false] at he; rcases he with rfl <;> exact ⟨_, rfl⟩⟩) : AppL (.l 1 eStr ((([] : List ByteArray) ++ (lines.take (Int.toNat k))) ++ [line])) (.l 1 eStr (lines.drop (Int.toNat k))) 1 (.l 1 eStr (((([] : List ByteArray) ++ (lines.take (Int.toNat k))) ++ [line]) ++ (lines.drop (Int.toNat k))))) (ai (by (try simp only [lens]); omega : (((([] : List ByteArray) ++ (lines.take (Int.toNat k))) ++ [line]) ++ (lines.drop (Int.toNat k))).length * 16 ≤ 140737488355328) (fi24 lines line (((([] : List ByteArray) ++ (lines.take (Int.toNat k))) ++ [line]) ++ (lines.drop (Int.toNat k))) (finD hJ0_5 rfl))))))))))) j hj.1 hj.2)) (by kernel_rfl)
theorem Nl (text : ByteArray) : F10 text = bif (((Qq text ⟨#[10]⟩).getD ((Qq text ⟨#[10]⟩).length - 1) default).toList == (⟨#[]⟩ : ByteArray).toList) then (Qq text ⟨#[10]⟩).take ((Qq text ⟨#[10]⟩).length - 1) else Qq text ⟨#[10]⟩ := by
 unfold F10
 have e : F19 text 10 = Qq text ⟨#[10]⟩ := Km text 10
 rw [e, show Int.toNat (((Qq text ⟨#[10]⟩).length : Int) - 1) = (Qq text ⟨#[10]⟩).length - 1 by omega]
theorem Qkl (text : ByteArray) (h : text.size ≤ 1048576) : (F10 text).length ≤ 1048577 := by
 rw [Nl]
 have := Bs text ⟨#[10]⟩ (Nat.le_refl 1)
 cases (((Qq text ⟨#[10]⟩).getD ((Qq text ⟨#[10]⟩).length - 1) default).toList == (⟨#[]⟩ : ByteArray).toList) with
 | true => rw [cond_true, List.length_take]; omega
 | false => rw [cond_false]; omega
theorem Qrq (text : ByteArray) (h : text.size ≤ 1048576) : ∀ k : Nat, ((F10 text).getD k default).size ≤ 1048576 := by
 have hs : ∀ x ∈ Qq text ⟨#[10]⟩, x.size ≤ 1048576 := fun x hx => Qfl (fun k => by
  have := Zy text 10 h k
  rw [show F19 text 10 = Qq text ⟨#[10]⟩ from Km text 10] at this
  exact this) hx
 refine Hv fun x hx => ?_
 rw [Nl] at hx
 cases hc : (((Qq text ⟨#[10]⟩).getD ((Qq text ⟨#[10]⟩).length - 1) default).toList == (⟨#[]⟩ : ByteArray).toList) with
 | true => rw [hc, cond_true] at hx; exact hs x (List.mem_of_mem_take hx)
 | false => rw [hc, cond_false] at hx; exact hs x hx
theorem Qxc (lines : List ByteArray) (line : ByteArray) : ∀ (m i : Nat), i + m = lines.length → (∀ j, j < i → ltB (lines.getD j default) line = true) → ∀ fuel, m < fuel →
  ∃ k : Nat, k ≤ lines.length ∧ (runL (Jl lines line) fuel (i : Int)).fin Lp.ret (fun k => .done k) = (.done (k : Int) : Lp Int (List ByteArray)) ∧ (∀ j, j < k → ltB (lines.getD j default) line = true) ∧ (k < lines.length → ltB (lines.getD k default) line = false)
 | m, i, _, _, 0, hf => absurd hf (Nat.not_lt_zero _)
 | 0, i, h, hb, fuel + 1, hf => by
  obtain rfl : i = lines.length := by omega
  have e : Jl lines line (lines.length : Int) = .done (lines.length : Int) := by
   simp only [Jl, geD, cond_false]
  exact ⟨lines.length, Nat.le_refl _, by rw [Zg _ e]; rfl, hb, fun h => absurd h (Nat.lt_irrefl _)⟩
 | m + 1, i, h, hb, fuel + 1, hf => by
  have e : Jl lines line (i : Int) = bif ltB (lines.getD i default) line then .next ((i + 1 : Nat) : Int) else .done (i : Int) := by
   simp only [Jl, ltD (show i < lines.length by omega), cond_true, nn]
   rfl
  cases hl : ltB (lines.getD i default) line with
  | true =>
   rw [hl, cond_true] at e
   rw [Uj _ e]
   exact Qxc lines line m (i + 1) (by omega) (fun j hj => by
    rcases Nat.lt_or_ge j i with h1 | h1
    ·exact hb j h1
    ·obtain rfl : j = i := by omega
     exact hl) fuel (by omega)
  | false =>
   rw [hl, cond_false] at e
   exact ⟨i, by omega, by rw [Zg _ e]; rfl, hb, fun _ => hl⟩
theorem Qlj (lines : List ByteArray) (line : ByteArray) : ∃ k : Nat, k ≤ lines.length ∧ F24 lines line = lines.take k ++ line :: lines.drop k ∧ (∀ j, j < k → ltB (lines.getD j default) line = true) ∧ (k < lines.length → ltB (lines.getD k default) line = false) := by
 obtain ⟨k, h1, h2, h3, h4⟩ := Qxc lines line lines.length 0 (by omega) (fun j h => absurd h (Nat.not_lt_zero _)) (Int.toNat ((lines.length : Int) - 0) + 1) (by omega)
 refine ⟨k, h1, ?_, h3, h4⟩
 unfold F24 Ey
 refine (congrArg (fun z : Lp Int (List ByteArray) => z.fin (fun r => r) (fun k => (((([] : List ByteArray) ++ (lines.take (Int.toNat k))) ++ [line]) ++ (lines.drop (Int.toNat k))))) h2).trans ?_
 show ((([] : List ByteArray) ++ (lines.take (Int.toNat (k : Int)))) ++ [line]) ++ (lines.drop (Int.toNat (k : Int))) = _
 rw [Int.toNat_natCast]
 simp
theorem Qfj (lines : List ByteArray) (line : ByteArray) : (F24 lines line).length = lines.length + 1 := by
 obtain ⟨k, h1, h2, _⟩ := Qlj lines line
 rw [h2]
 simp
 omega
theorem Ubf {lines : List ByteArray} {line z : ByteArray} : z ∈ F24 lines line ↔ z = line ∨ z ∈ lines := by
 obtain ⟨k, h1, h2, _⟩ := Qlj lines line
 rw [h2, List.mem_append, List.mem_cons]
 conv => rhs; rhs; rw [← List.take_append_drop k lines, List.mem_append]
 constructor
 ·rintro (h | h | h)
  ·exact .inr (.inl h)
  ·exact .inl h
  ·exact .inr (.inr h)
 ·rintro (h | h | h)
  ·exact .inr (.inl h)
  ·exact .inl h
  ·exact .inr (.inr h)
theorem put_sz (lines : List ByteArray) (line : ByteArray) (h : ∀ k : Nat, (lines.getD k default).size ≤ 1048576) (hl : line.size ≤ 1048576) : ∀ k : Nat, ((F24 lines line).getD k default).size ≤ 1048576 :=
 Hv fun x hx => by
  rcases Ubf.1 hx with rfl | hx
  ·exact hl
  ·exact Qfl h hx
theorem Qni {lines : List ByteArray} {line : ByteArray} (h : Vi lines) (hn : line ∉ lines) : Vi (F24 lines line) := by
 obtain ⟨k, h1, h2, h3, h4⟩ := Qlj lines line
 rw [h2]
 have hsp := h
 rw [← List.take_append_drop k lines] at hsp
 obtain ⟨a1, a2, a3⟩ := List.pairwise_append.1 hsp
 have hlt : ∀ x ∈ lines.take k, ltB x line = true := fun x hx => by
  obtain ⟨j, hj, rfl⟩ := Vb hx
  have hl : j < k := by rw [List.length_take] at hj; omega
  rw [List.getD_eq_getElem?_getD, List.getElem?_take, if_pos hl, ← List.getD_eq_getElem?_getD]
  exact h3 j hl
 have hgt : ∀ x ∈ lines.drop k, ltB line x = true := fun x hx => by
  have hk : k < lines.length := by
   rcases Nat.lt_or_ge k lines.length with h | h
   ·exact h
   ·rw [List.drop_of_length_le h] at hx; cases hx
  have hd := Qgk lines k hk
  have h0 : ltB line (lines.getD k default) = true := by
   rcases Qox line (lines.getD k default) with h | h | h
   ·exact h
   ·exact absurd (h ▸ Ku lines hk) hn
   ·rw [h4 hk] at h; cases h
  rw [hd] at hx a2
  rcases List.mem_cons.1 hx with rfl | hx
  ·exact h0
  ·exact Qdr h0 ((List.pairwise_cons.1 a2).1 x hx)
 refine List.pairwise_append.2 ⟨a1, List.pairwise_cons.2 ⟨hgt, a2⟩, fun x hx y hy => ?_⟩
 rcases List.mem_cons.1 hy with rfl | hy
 ·exact hlt x hx
 ·exact a3 x hx y hy
structure ConfFault where
 Line : Int
 Code : Int
 deriving DecidableEq, Inhabited
def Ke (x : ConfFault) : List Dat := [.v (vI x.Line), .v (vI x.Code)]
theorem kc22 (lines : List ByteArray) (key : ByteArray) {K_ : Prop} (p0_ : ∀ k : Nat, (lines.getD k default).size ≤ 1048576) (k_ : K_) : (∀ k : Nat, (lines.getD k default).size ≤ 1048576) ∧ (Imp (.l 1 eStr lines) (.l 1 eStr lines)) ∧ (Imp (.v (.string key)) (.v (.string key))) ∧ K_ := ⟨p0_, Imp.refl _, Imp.refl _, k_⟩
abbrev kh22 (lines : List ByteArray) (key : ByteArray) : Hint true Tryz.prog := .call 22 (S22 lines key) (ok22 lines key) none
theorem kc24 (lines : List ByteArray) (line : ByteArray) {K_ : Prop} (p0_ : lines.length ≤ 1048576) (p1_ : ∀ k : Nat, (lines.getD k default).size ≤ 1048576) (q0_ : ∀ k : Nat, (lines.getD k default).size ≤ 1048576) (q1_ : line.size ≤ 1048576) (k_ : ((F24 lines line).length = lines.length + 1) → (∀ k : Nat, ((F24 lines line).getD k default).size ≤ 1048576) → K_) : (lines.length ≤ 1048576 ∧ (∀ k : Nat, (lines.getD k default).size ≤ 1048576)) ∧ (Imp (.l 1 eStr lines) (.l 1 eStr lines)) ∧ (Imp (.v (.string line)) (.v (.string line))) ∧ K_ := ⟨⟨p0_, p1_⟩, Imp.refl _, Imp.refl _, k_ (Qfj lines line) (put_sz lines line q0_ q1_)⟩
abbrev kh24 (lines : List ByteArray) (line : ByteArray) : Hint true Tryz.prog := .call 24 (S24 lines line) (ok24 lines line) none
def Jp (list : List ByteArray) : (List ByteArray × Int) → Lp (List ByteArray × Int) (List ByteArray × ConfFault) := fun (out, i40) =>
 bif (decide (i40 < (list.length : Int))) then (bif (bif (F20 (list.getD (Int.toNat i40) default)).2 then ((((F20 (list.getD (Int.toNat i40) default)).1).length : Int) == 0) else false) then (.next (out, (i40 + 1))) else (bif (!((F21 (list.getD (Int.toNat i40) default)).2)) then (.ret (([] : List ByteArray), (⟨(i40 + 1), 2⟩ : ConfFault))) else (bif (decide ((F22 out (F23 ((F21 (list.getD (Int.toNat i40) default)).1))) ≥ 0)) then (.ret (([] : List ByteArray), (⟨(i40 + 1), 4⟩ : ConfFault))) else (bif ((out.length : Int) == 16) then (.ret (([] : List ByteArray), (⟨(i40 + 1), 1⟩ : ConfFault))) else (.next ((F24 out ((F21 (list.getD (Int.toNat i40) default)).1)), (i40 + 1))))))) else (.done (out, i40))
def F11 (list : List ByteArray) : List ByteArray × ConfFault :=
 (runL (Jp list) ((Int.toNat ((list.length : Int) - 0)) + 1) (([] : List ByteArray), 0)).fin (fun r => r) (fun (out, i40) => (out, (⟨0, 0⟩ : ConfFault)))
abbrev Eo (list : List ByteArray) : Nat × (List ByteArray × Int) := (((Int.toNat ((list.length : Int) - 0)) + 1), (([] : List ByteArray), 0))
abbrev Qlq (list : List ByteArray) (m39 : Nat) (out : List ByteArray) (i40 : Int) : Prop := Int.toNat ((list.length : Int) - i40) < m39 ∧ out.length ≤ 16 ∧ (∀ k : Nat, (out.getD k default).size ≤ 1048576) ∧ (0 : Int) ≤ i40
abbrev Qtc (list : List ByteArray) : Lp (List ByteArray × Int) (List ByteArray × ConfFault) := LpX (Jp list) (Eo list)
abbrev Qao (list : List ByteArray) (i : Nat × (List ByteArray × Int)) : Prop := LpJ (Jp list) (Eo list) i (Qlq list i.1 i.2.1 i.2.2)
abbrev Uai (list : List ByteArray) (i : Nat × (List ByteArray × Int)) (m39 : Nat) (out : List ByteArray) (i40 : Int) : Prop := LpH (Jp list) (Eo list) i m39 (out, i40) (Qlq list (m39 + 1) out i40)
abbrev Qzm (list : List ByteArray) (out : List ByteArray) (i40 : Int) (out_ : List ByteArray) (i40_ : Int) (K39 : Prop) : Prop := ((.int .i64 i40 : Value) = .int .i64 i40_) ∧ (Im (.l 1 eStr list)) ∧ (Rf (.int .i64 0)) ∧ (Rf (.int .i64 0)) ∧ (Imp (.l 1 eStr out) (.l 1 eStr out_)) ∧ K39
theorem un11_0 (list : List ByteArray) (i : Nat × (List ByteArray × Int)) (h : Qao list i) : Uai list i (i.1 - 1) i.2.1 i.2.2 := ⟨hd1 h.1 h.2.1, hd3 h.2.1, hd2 h.2.1, h.2.2⟩
theorem Qvh (list : List ByteArray) (i : Nat × (List ByteArray × Int)) (m39 : Nat) (out : List ByteArray) (i40 : Int) (hl : m39 < i.1) (e : runL (Jp list) m39 (out, i40) = Qtc list) (h : Qlq list m39 out i40) : ∃ j : Nat × (List ByteArray × Int), Qzm list out i40 j.2.1 j.2.2 (Qao list j ∧ j.1 < i.1) := ⟨(m39, (out, i40)), rfl, Imp.refl _, rfl, rfl, Imp.refl _, ⟨e, h⟩, hl⟩
theorem en11_0 (list : List ByteArray) (h : ([] : List ByteArray).length ≤ 16 ∧ (∀ k : Nat, (([] : List ByteArray).getD k default).size ≤ 1048576) ∧ (0 : Int) ≤ 0) : Qzm list ([] : List ByteArray) 0 ([] : List ByteArray) 0 (Qao list (Eo list)) := ⟨rfl, Imp.refl _, rfl, rfl, Imp.refl _, rfl, Nat.lt_succ_self _, h⟩
theorem fi11 (list : List ByteArray) (r : List ByteArray × ConfFault) (hF : r = (F11 list)) : (Imp (.l 1 eStr r.1) (.l 1 eStr ((F11 list).1))) ∧ ((.int .i64 r.2.Line : Value) = .int .i64 (((F11 list).2).Line)) ∧ ((.int .i64 r.2.Code : Value) = .int .i64 (((F11 list).2).Code)) ∧ True := by cases hF; exact ⟨Imp.refl _, rfl, rfl, trivial⟩
def S11 (list : List ByteArray) : Spec := ⟨[.r (.c (.l 1 eStr list))], .tu [.ow (.l 1 eStr ((F11 list).1)), .ag [.v (vI (((F11 list).2).Line)), .v (vI (((F11 list).2).Code))]], list.length ≤ 1048577 ∧ (∀ k : Nat, (list.getD k default).size ≤ 1048576)⟩
theorem ok11 (list : List ByteArray) : (S11 list).ok Tryz.prog 11 :=
 Qj mixed (fn := Tryz.f11) (ct := .seqk [(0, 0)] .no (.seq (.reg [(0, .dat (.l 1 eStr ([] : List ByteArray)))]) (.seq (.seqk [(0, 0), (4, 0)] .no (.blk (.loop (ι := Nat × (List ByteArray × Int)) (fun i => (fun (out : List ByteArray) (i40 : Int) => (⟨[(0, some (.h 0 0)), (3, some (.p 1 0)), (4, some (.h 2 0)), (5, some (.v (vI i40)))], [(0, some (.shr none (.l 1 eStr list))), (1, some (.box 24 [.v (vI 0), .v (vI 0)])), (2, some (.own 2 (.l 1 eStr out)))], 3⟩ : St)) i.2.1 i.2.2) (Qao list) (fun i => i.1) (Eo list) (fun i => (fun (out : List ByteArray) (i40 : Int) => (.seq (.seq .no (.cond .no .no)) (.seq (.blk (.seq (.reg [(4, kh20 (list.getD (Int.toNat i40) default))]) (.seq (.seq .no (.cond .no .no)) (.seq (.reg [(4, kh21 (list.getD (Int.toNat i40) default))]) (.seq (.blk (.seq .no (.cond (.seq (.reg [(0, .dat (.l 1 eStr ([] : List ByteArray))), (2, .bnd)]) .no) (.seq (.reg [(2, kh23 ((F21 (list.getD (Int.toNat i40) default)).1)), (3, kh22 out (F23 ((F21 (list.getD (Int.toNat i40) default)).1)))]) (.cond (.seq (.reg [(0, .dat (.l 1 eStr ([] : List ByteArray))), (2, .bnd)]) .no) (.seq .no (.cond (.seq (.reg [(0, .dat (.l 1 eStr ([] : List ByteArray))), (2, .bnd)]) .no) .no))))))) (.reg [(2, kh24 out ((F21 (list.getD (Int.toNat i40) default)).1))])))))) (.reg [(1, .bnd)])))) i.2.1 i.2.2)))) (.seq .no .no)))) Tryz.func11 (fun (hp : list.length ≤ 1048577 ∧ (∀ k : Nat, (list.getD k default).size ≤ 1048576)) => have hpre0 := hp.1; have hpre1 := hp.2; kn list fun _ => ai (bokr 1 eStr ([] : List ByteArray) fun _ => rfl) (kn list fun _ => kn ([] : List ByteArray) fun _ => ai (en11_0 list (by refine ⟨?_, ?_, ?_⟩ <;> first | omega | (simp only [lens, ib] at * <;> omega) | exact Bf | assumption | omega | (simp only [Bool.cond_true_left, Bool.cond_false_right, Bool.or_eq_true, Bool.and_eq_true, Bool.or_eq_false_iff, Bool.and_eq_false_iff, decide_eq_true_eq, decide_eq_false_iff_not, beq_iff_eq, beq_eq_false_iff_ne, List.length_append, List.length_cons, List.length_nil] at *; omega))) (fun (i0 : Nat × (List ByteArray × Int)) (hi0 : Qao list i0) => (fun (m0 : Nat) (out : List ByteArray) (i40 : Int) (hh0 : Uai list i0 m0 out i40) => have hI0 := hh0.1; have hl0 := hh0.2.1; have _ := hh0.2.2.1; have _ := hh0.2.2.2.1; have _ := hh0.2.2.2.2.1; have _ := hh0.2.2.2.2.2; ifd (i40 < (list.length : Int)) (fun h2 _ => ai (by omega : ib i40 list) (kc20 (list.getD (Int.toNat i40) default) (by first | omega | exact hpre1 _ | exact gv3 | exact gv3 _ | exact gv9 | exact gv9 _ | exact gv3 | exact gv3 _ | exact gv9 | exact gv9 _ | (intros; exact trivial) | (intros; exact Nat.zero_le _)) (fun gv3 gv4 => ifb (bif (F20 (list.getD (Int.toNat i40) default)).2 then ((((F20 (list.getD (Int.toNat i40) default)).1).length : Int) == 0) else false) (fun h5 => have _ := (Qi h5); have _ := eq_of_beq (Qt h5); ai (iok (i40 + 1) (by omega)) (Qvh list i0 m0 out (i40 + 1) hl0 (Qd hI0 (condT h2 (condT h5 rfl))) (by refine ⟨?_, ?_, ?_, ?_⟩ <;> first | omega | (simp only [lens, ib] at * <;> omega) | exact Bf | assumption | omega | (simp only [Bool.cond_true_left, Bool.cond_false_right, Bool.or_eq_true, Bool.and_eq_true, Bool.or_eq_false_iff, Bool.and_eq_false_iff, decide_eq_true_eq, decide_eq_false_iff_not, beq_iff_eq, beq_eq_false_iff_ne, List.length_append, List.length_cons, List.length_nil] at *; omega)))) (fun h5 => ai (by omega : ib i40 list) (kc21 (list.getD (Int.toNat i40) default) (by first | omega | exact hpre1 _ | exact gv3 | exact gv3 _ | exact gv9 | exact gv9 _ | exact gv3 | exact gv3 _ | exact gv9 | exact gv9 _ | exact gv4 | exact gv4 _ | (intros; exact trivial) | (intros; exact Nat.zero_le _)) (ifb (!((F21 (list.getD (Int.toNat i40) default)).2)) (fun h6 => have _ := (Wo h6); ai (bokr 1 eStr ([] : List ByteArray) fun _ => rfl) (ai (iok (i40 + 1) (by omega)) (fi11 list (([] : List ByteArray), (⟨(i40 + 1), 2⟩ : ConfFault)) (finR (Qr hI0 (condT h2 (condF h5 (condT h6 rfl)))) rfl)))) (fun h6 => have _ := (Uw h6); kc23 ((F21 (list.getD (Int.toNat i40) default)).1) (by exact Yz _) (kc22 out (F23 ((F21 (list.getD (Int.toNat i40) default)).1)) (by assumption) (ifd ((F22 out (F23 ((F21 (list.getD (Int.toNat i40) default)).1))) ≥ 0) (fun h7 _ => ai (bokr 1 eStr ([] : List ByteArray) fun _ => rfl) (ai (iok (i40 + 1) (by omega)) (fi11 list (([] : List ByteArray), (⟨(i40 + 1), 4⟩ : ConfFault)) (finR (Qr hI0 (condT h2 (condF h5 (condF h6 (condT h7 rfl))))) rfl)))) (fun h7 _ => ife (out.length : Int) 16 (fun h8 _ => ai (bokr 1 eStr ([] : List ByteArray) fun _ => rfl) (ai (iok (i40 + 1) (by omega)) (fi11 list (([] : List ByteArray), (⟨(i40 + 1), 1⟩ : ConfFault)) (finR (Qr hI0 (condT h2 (condF h5 (condF h6 (condF h7 (condT h8 rfl)))))) rfl)))) (fun h8 _ => kc24 out ((F21 (list.getD (Int.toNat i40) default)).1) (by first | omega | exact Yz _ | assumption) (by first | omega | exact Yz _ | assumption) (by first | omega | exact Yz _ | assumption) (by first | omega | exact Yz _ | assumption) (fun gv9 gv10 => ai (iok (i40 + 1) (by omega)) (Qvh list i0 m0 (F24 out ((F21 (list.getD (Int.toNat i40) default)).1)) (i40 + 1) hl0 (Qd hI0 (condT h2 (condF h5 (condF h6 (condF h7 (condF h8 rfl)))))) (by refine ⟨?_, ?_, ?_, ?_⟩ <;> first | omega | (simp only [lens, ib] at * <;> omega) | exact Bf | assumption | omega | (simp only [Bool.cond_true_left, Bool.cond_false_right, Bool.or_eq_true, Bool.and_eq_true, Bool.or_eq_false_iff, Bool.and_eq_false_iff, decide_eq_true_eq, decide_eq_false_iff_not, beq_iff_eq, beq_eq_false_iff_ne, List.length_append, List.length_cons, List.length_nil] at *; omega))))))))))))))) (fun h2 _ => have hD0_11 : Qtc list = Lp.done (out, i40) := Qk hI0 (condF h2 rfl); fi11 list (out, (⟨0, 0⟩ : ConfFault)) (finD hD0_11 rfl))) (i0.1 - 1) i0.2.1 i0.2.2 (un11_0 list i0 hi0)))) (by kernel_rfl)
def F40 (l : ByteArray) (p1 : ByteArray) : Bool :=
 ((F41 l).toList == (F41 p1).toList)
def S40 (l : ByteArray) (p1 : ByteArray) : Spec := ⟨[.r (.c (.v (.string l))), .rp ([.v (.string p1)])], .v (.bool (F40 l p1)), l.size ≤ 1048576 ∧ p1.size ≤ 1048576⟩
theorem ok40 (l : ByteArray) (p1 : ByteArray) : (S40 l p1).ok Tryz.prog 40 false :=
 Qj mixed (fn := Tryz.f40) (ct := .seq .no (.seq (.reg [(1, kh41 l), (3, kh41 p1)]) .no)) Tryz.func40 (fun (hp : l.size ≤ 1048576 ∧ p1.size ≤ 1048576) => have hpre0 := hp.1; have hpre1 := hp.2; kc41 l (by omega) (kc41 p1 (by omega) (fiB ((F41 l).toList == (F41 p1).toList) (F40 l p1) rfl))) (by kernel_rfl)
def F15 (lines : List ByteArray) (text : ByteArray) : ByteArray × Int :=
 bif (!((F39 text).2)) then ((⟨#[]⟩ : ByteArray), 2) else (bif (lines.any (fun (x0 : ByteArray) => F40 x0 ((F39 text).1))) then ((⟨#[]⟩ : ByteArray), 4) else (bif ((lines.length : Int) == 16) then ((⟨#[]⟩ : ByteArray), 1) else ((F39 text).1, 0)))
theorem fi15 (lines : List ByteArray) (text : ByteArray) (r : ByteArray × Int) (hF : r = (F15 lines text)) : ((.string r.1 : Value) = .string ((F15 lines text).1)) ∧ ((.int .i64 r.2 : Value) = .int .i64 ((F15 lines text).2)) ∧ True := by cases hF; exact ⟨rfl, rfl, trivial⟩
def S15 (lines : List ByteArray) (text : ByteArray) : Spec := ⟨[.r (.c (.l 1 eStr lines)), .r (.c (.v (.string text)))], .tu [.v (.string ((F15 lines text).1)), .v (vI ((F15 lines text).2))], text.size ≤ 1048576 ∧ (∀ k : Nat, (lines.getD k default).size ≤ 1048576)⟩
theorem ok15 (lines : List ByteArray) (text : ByteArray) : (S15 lines text).ok Tryz.prog 15 false :=
 Qj mixed (fn := Tryz.f15) (ct := .seqk [(0, 0)] .no (.seq (.reg [(1, kh39 text)]) (.seq (.blk (.seq .no (.cond (.seq .no .no) (.seq (.reg [(2, .call 37 (S37 (lines.any (fun (x0 : ByteArray) => F40 x0 ((F39 text).1))) lines (fun (x0 : ByteArray) => F40 x0 ((F39 text).1)) (fun (x0 : ByteArray) => x0.size ≤ 1048576 ∧ ((F39 text).1).size ≤ 1048576)) (oa37 lines (fun (x0 : ByteArray) => F40 x0 ((F39 text).1)) (fun (x0 : ByteArray) => x0.size ≤ 1048576 ∧ ((F39 text).1).size ≤ 1048576)) (some ⟨false, 40, Ym (fun (x0 : ByteArray) => x0.size ≤ 1048576 ∧ ((F39 text).1).size ≤ 1048576) (fun (x0 : ByteArray) => F40 x0 ((F39 text).1)), [.rp ([.v (.string ((F39 text).1))])], rfl, True, fun i => Vk (ok40 i ((F39 text).1))⟩))]) (.cond (.seq .no .no) (.seq .no (.cond (.seq .no .no) .no))))))) (.seq .no .no)))) Tryz.func15 (fun (hp : text.size ≤ 1048576 ∧ (∀ k : Nat, (lines.getD k default).size ≤ 1048576)) => have hpre0 := hp.1; have hpre1 := hp.2; kn lines fun _ => kc39 text (by omega) (ifb (!((F39 text).2)) (fun h1 => have _ := (Wo h1); fi15 lines text (w13_, 2) (condT h1 rfl)) (fun h1 => have _ := (Uw h1); ai (by exact fun k _ => ⟨(by assumption : ∀ k : Nat, (lines.getD k default).size ≤ 1048576) k, Pb _⟩ : ∀ k : Nat, k < lines.length → (fun (x0 : ByteArray) => x0.size ≤ 1048576 ∧ ((F39 text).1).size ≤ 1048576) (lines.getD k default)) (ai (Imp.refl (.l 1 eStr lines)) (ai (Eq.refl (Ym (fun (x0 : ByteArray) => x0.size ≤ 1048576 ∧ ((F39 text).1).size ≤ 1048576) (fun (x0 : ByteArray) => F40 x0 ((F39 text).1)))) (ai trivial (ai (Imps.refl [.v (.string ((F39 text).1))]) (ifb (lines.any (fun (x0 : ByteArray) => F40 x0 ((F39 text).1))) (fun h2 => fi15 lines text (w13_, 4) (condF h1 (condT h2 rfl))) (fun h2 => ife (lines.length : Int) 16 (fun h3 _ => fi15 lines text (w13_, 1) (condF h1 (condF h2 (condT h3 rfl)))) (fun h3 _ => fi15 lines text ((F39 text).1, 0) (condF h1 (condF h2 (condF h3 rfl))))))))))))) (by kernel_rfl)
def F16 (x9 : List ByteArray) : List ByteArray :=
 Ka x9
def S16 (x9 : List ByteArray) : Spec := ⟨[.ow (.l 1 eStr x9) (some (.l 1 eStr (F16 x9)))], .tu [], x9.length ≤ 4000000000000000000⟩
theorem ok16 (x9 : List ByteArray) : (S16 x9).ok Tryz.prog 16 :=
 Qte Quj x9
def Ut (put : List ByteArray → ByteArray → List ByteArray) : Nat → List ByteArray → List ByteArray → List ByteArray × ConfFault
 | _, acc, [] => (acc, ⟨0, 0⟩)
 | i, acc, c :: r => bif ((F20 c).2 && ((F20 c).1.length == 0)) then Ut put (i + 1) acc r
  else bif !(F21 c).2 then ([], ⟨((i + 1 : Nat) : Int), 2⟩)
  else bif acc.any (fun l => F23 l == F23 (F21 c).1) then ([], ⟨((i + 1 : Nat) : Int), 4⟩)
  else bif acc.length == 16 then ([], ⟨((i + 1 : Nat) : Int), 1⟩)
  else Ut put (i + 1) (put acc (F21 c).1) r
theorem Pp (a b : Nat) : ((a : Int) == (b : Int)) = (a == b) := by
 rw [Bool.eq_iff_iff, beq_iff_eq, beq_iff_eq]
 exact Int.ofNat_inj
theorem Udf (out : List ByteArray) (k : ByteArray) : decide (F22 out k ≥ 0) = out.any fun l => F23 l == k := by
 have h := Wl (fun l : ByteArray => (F23 l).toList == k.toList) out (Mu out k) (fun i => rfl)
 have e : F22 out k = idxI (fun l : ByteArray => (F23 l).toList == k.toList) out := h
 rw [e, Lg]
 congr 1
 funext l
 rw [Ml, Bool.eq_iff_iff, decide_eq_true_eq, beq_iff_eq]
theorem Jm (list : List ByteArray) : ∀ (m i : Nat) (out : List ByteArray), i + m = list.length → ∀ fuel, m < fuel →
  (runL (Jp list) fuel (out, (i : Int))).fin (fun r => r) (fun (x : List ByteArray × Int) => (x.1, (⟨0, 0⟩ : ConfFault))) = Ut F24 i out (list.drop i)
 | m, i, out, _, 0, hf => absurd hf (Nat.not_lt_zero _)
 | 0, i, out, h, fuel + 1, hf => by
  obtain rfl : i = list.length := by omega
  have e : Jp list (out, (list.length : Int)) = .done (out, (list.length : Int)) := by
   simp only [Jp, geD, cond_false]
  rw [Zg _ e, List.drop_of_length_le (Nat.le_refl _)]; rfl
 | m + 1, i, out, h, fuel + 1, hf => by
  rw [Qgk list i (by omega), Ut]
  generalize hc : list.getD i default = c
  have e : Jp list (out, (i : Int)) = bif ((F20 c).2 && ((F20 c).1.length == 0)) then .next (out, ((i + 1 : Nat) : Int))
    else bif !(F21 c).2 then .ret ([], ⟨((i + 1 : Nat) : Int), 2⟩) else bif out.any (fun l => F23 l == F23 (F21 c).1) then .ret ([], ⟨((i + 1 : Nat) : Int), 4⟩)
    else bif out.length == 16 then .ret ([], ⟨((i + 1 : Nat) : Int), 1⟩) else .next (F24 out (F21 c).1, ((i + 1 : Nat) : Int)) := by
   simp only [Jp, ltD (show i < list.length by omega), cond_true, nn, hc, Udf]
   rw [show ((((F20 c).1.length : Nat) : Int) == 0) = ((F20 c).1.length == 0) from Pp _ 0, show (((out.length : Nat) : Int) == 16) = (out.length == 16) from Pp _ 16]
   cases (F20 c).2 <;> rfl
  cases h1 : ((F20 c).2 && ((F20 c).1.length == 0)) with
  | true => rw [h1, cond_true] at e; rw [Uj _ e, Jm list m (i + 1) out (by omega) fuel (by omega), cond_true]
  | false =>
  rw [h1, cond_false] at e; rw [cond_false]
  cases h2 : (!(F21 c).2) with
  | true => rw [h2, cond_true] at e; rw [Ya _ e]; rfl
  | false =>
  rw [h2, cond_false] at e; rw [cond_false]
  cases h3 : out.any (fun l => F23 l == F23 (F21 c).1) with
  | true => rw [h3, cond_true] at e; rw [Ya _ e]; rfl
  | false =>
  rw [h3, cond_false] at e; rw [cond_false]
  cases h4 : (out.length == 16) with
  | true => rw [h4, cond_true] at e; rw [Ya _ e]; rfl
  | false =>
  rw [h4, cond_false] at e; rw [cond_false, Uj _ e, Jm list m (i + 1) _ (by omega) fuel (by omega)]
theorem Pd (list : List ByteArray) : F11 list = Ut F24 0 [] list := by
 have := Jm list list.length 0 [] (by omega) (Int.toNat ((list.length : Int) - 0) + 1) (by omega)
 rw [List.drop_zero] at this
 exact this
theorem Mg (put : List ByteArray → ByteArray → List ByteArray) (hl : ∀ a x, (put a x).length = a.length + 1) (hm : ∀ a x z, z ∈ put a x → z = x ∨ z ∈ a) : ∀ (r : List ByteArray) (i : Nat) (acc : List ByteArray), acc.length ≤ 16 → (∀ z ∈ acc, z.size ≤ 1048576) → (Ut put i acc r).1.length ≤ 16 ∧ ∀ z ∈ (Ut put i acc r).1, z.size ≤ 1048576
 | [], i, acc, h1, h2 => ⟨h1, h2⟩
 | c :: r, i, acc, h1, h2 => by
  rw [Ut]
  cases ((F20 c).2 && ((F20 c).1.length == 0)) with
  | true => exact Mg put hl hm r (i + 1) acc h1 h2
  | false =>
  cases (!(F21 c).2) with
  | true => exact ⟨Nat.zero_le _, fun z hz => by cases hz⟩
  | false =>
  cases acc.any (fun l => F23 l == F23 (F21 c).1) with
  | true => exact ⟨Nat.zero_le _, fun z hz => by cases hz⟩
  | false =>
  cases h4 : (acc.length == 16) with
  | true => exact ⟨Nat.zero_le _, fun z hz => by cases hz⟩
  | false =>
   have hne : acc.length ≠ 16 := beq_eq_false_iff_ne.1 h4
   refine Mg put hl hm r (i + 1) _ (by rw [hl]; omega) fun z hz => ?_
   rcases hm _ _ _ hz with rfl | hz
   ·exact Yz c
   ·exact h2 z hz
theorem Qhf (list : List ByteArray) : (F11 list).1.length ≤ 16 ∧ ∀ z ∈ (F11 list).1, z.size ≤ 1048576 := by
 rw [Pd]
 exact Mg _ Qfj (fun a x z h => Ubf.1 h) list 0 [] (Nat.zero_le _) fun z hz => by cases hz
theorem Qiz (list : List ByteArray) : (F11 list).1.length ≤ 16 := (Qhf list).1
theorem Ucr (list : List ByteArray) : ∀ k : Nat, ((F11 list).1.getD k default).size ≤ 1048576 := Hv (Qhf list).2
theorem Gs : ∀ (r : List ByteArray) (i : Nat) (L O : List ByteArray), Vi O → (∀ z, z ∈ L ↔ z ∈ O) → L.Nodup → L.length = O.length →
  (Ut (fun a x => a ++ [x]) i L r).2 = (Ut F24 i O r).2 ∧ Vi (Ut F24 i O r).1 ∧ (∀ z, z ∈ (Ut (fun a x => a ++ [x]) i L r).1 ↔ z ∈ (Ut F24 i O r).1) ∧ (Ut (fun a x => a ++ [x]) i L r).1.Nodup
 | [], i, L, O, h1, h2, h3, h4 => ⟨rfl, h1, h2, h3⟩
 | c :: r, i, L, O, h1, h2, h3, h4 => by
  rw [Ut, Ut]
  cases ((F20 c).2 && ((F20 c).1.length == 0)) with
  | true => exact Gs r (i + 1) L O h1 h2 h3 h4
  | false =>
  rw [cond_false, cond_false]
  cases (!(F21 c).2) with
  | true => exact ⟨rfl, List.Pairwise.nil, fun z => Iff.rfl, List.Pairwise.nil⟩
  | false =>
  rw [cond_false, cond_false]
  have ha : L.any (fun l => F23 l == F23 (F21 c).1) = O.any (fun l => F23 l == F23 (F21 c).1) := by
   rw [Bool.eq_iff_iff, List.any_eq_true, List.any_eq_true]
   exact ⟨fun ⟨x, hx, hp⟩ => ⟨x, (h2 x).1 hx, hp⟩, fun ⟨x, hx, hp⟩ => ⟨x, (h2 x).2 hx, hp⟩⟩
  rw [ha, h4]
  cases hk : O.any (fun l => F23 l == F23 (F21 c).1) with
  | true => exact ⟨rfl, List.Pairwise.nil, fun z => Iff.rfl, List.Pairwise.nil⟩
  | false =>
  rw [cond_false, cond_false]
  cases (O.length == 16) with
  | true => exact ⟨rfl, List.Pairwise.nil, fun z => Iff.rfl, List.Pairwise.nil⟩
  | false =>
   have hn : (F21 c).1 ∉ O := fun hm => by
    rw [List.any_eq_true.2 ⟨_, hm, by simp⟩] at hk
    cases hk
   refine Gs r (i + 1) _ _ (Qni h1 hn) (fun z => ?_) ?_ (by rw [Qfj, List.length_append, h4]; rfl)
   ·rw [Ubf, List.mem_append, List.mem_singleton, h2 z]
    exact Or.comm
   ·refine List.pairwise_append.2 ⟨h3, List.pairwise_singleton _ _, fun x hx y hy e => ?_⟩
    rw [List.mem_singleton] at hy
    subst hy; subst e
    exact hn ((h2 _).1 hx)
theorem Qlb (text : ByteArray) (h : text.size ≤ 1048576) : ∀ k : Nat, ((F13 text (⟨#[10]⟩ : ByteArray)).getD k default).size ≤ 1048576 := fun k => by
 have := Zy text 10 h k
 rw [show F19 text 10 = Qq text ⟨#[10]⟩ from Km text 10] at this
 exact this
theorem Qfr {xs : List ByteArray} {n : Nat} (h : ∀ k : Nat, (xs.getD k default).size ≤ n) (m : Nat) : ∀ k : Nat, ((xs.take m).getD k default).size ≤ n := Hv fun x hx => Qfl h (List.mem_of_mem_take hx)
theorem Xc (lines : List ByteArray) (text : ByteArray) (h : (F15 lines text).2 = 0) : lines.length ≠ 16 := fun hl => by
 unfold F15 at h
 rw [hl] at h
 revert h
 cases (!((F39 text).2)) <;> cases (lines.any (fun (x0 : ByteArray) => F40 x0 ((F39 text).1))) <;> simp
theorem Je (lines : List ByteArray) (text : ByteArray) : (F15 lines text).1.size ≤ 1048576 := by
 unfold F15
 cases (!((F39 text).2)) <;> cases (lines.any (fun (x0 : ByteArray) => F40 x0 ((F39 text).1))) <;> cases (((lines.length : Int)) == 16) <;> first | exact Nat.zero_le _ | exact Pb text
theorem Qib {xs : List ByteArray} {n : Nat} (h : ∀ k : Nat, (xs.getD k default).size ≤ n) : ∀ k : Nat, ((F16 xs).getD k default).size ≤ n := Hv fun x hx => Qfl h (sortS_mem.1 hx)
theorem Qhr (xs : List ByteArray) : (F16 xs).length = xs.length := Zm xs
theorem kc15 (lines : List ByteArray) (text : ByteArray) {K_ : Prop} (p0_ : text.size ≤ 1048576) (p1_ : ∀ k : Nat, (lines.getD k default).size ≤ 1048576) (k_ : K_) : (text.size ≤ 1048576 ∧ (∀ k : Nat, (lines.getD k default).size ≤ 1048576)) ∧ (Imp (.l 1 eStr lines) (.l 1 eStr lines)) ∧ (Imp (.v (.string text)) (.v (.string text))) ∧ K_ := ⟨⟨p0_, p1_⟩, Imp.refl _, Imp.refl _, k_⟩
abbrev kh15 (lines : List ByteArray) (text : ByteArray) : Hint false Tryz.prog := .call 15 (S15 lines text) (ok15 lines text) none
theorem kc16 (x9 : List ByteArray) {K_ : Prop} (p0_ : x9.length ≤ 4000000000000000000) (k_ : K_) : (x9.length ≤ 4000000000000000000) ∧ (Imp (.l 1 eStr x9) (.l 1 eStr x9)) ∧ K_ := ⟨p0_, Imp.refl _, k_⟩
abbrev kh16f (x9 : List ByteArray) : Hint false Tryz.prog := .call 16 (S16 x9) ((ok16 x9).to false) none
theorem kc17 (lines : List ByteArray) {K_ : Prop} (p0_ : lines.length ≤ 1048576) (p1_ : ∀ k : Nat, (lines.getD k default).size ≤ 1048576) (k_ : K_) : (lines.length ≤ 1048576 ∧ (∀ k : Nat, (lines.getD k default).size ≤ 1048576)) ∧ (Imp (.l 1 eStr lines) (.l 1 eStr lines)) ∧ K_ := ⟨⟨p0_, p1_⟩, Imp.refl _, k_⟩
abbrev kh17 (lines : List ByteArray) : Hint false Tryz.prog := .call 17 (S17 lines) (ok17 lines) none
abbrev w21_ : ByteArray := ⟨#[10]⟩
def Qdd (text : ByteArray) : Lp (List ByteArray) (List ByteArray × ConfFault) :=
 bif (((F13 text (⟨#[10]⟩ : ByteArray)).getD (Int.toNat (((F13 text (⟨#[10]⟩ : ByteArray)).length : Int) - 1)) default).toList == (⟨#[]⟩ : ByteArray).toList) then (.done ((F13 text (⟨#[10]⟩ : ByteArray)).take (Int.toNat (((F13 text (⟨#[10]⟩ : ByteArray)).length : Int) - 1)))) else (.done (F13 text (⟨#[10]⟩ : ByteArray)))
def Gi (text : ByteArray) (cuts : List ByteArray) : (List ByteArray × Int) → Lp (List ByteArray × Int) (List ByteArray × ConfFault) := fun (lines1, v39) =>
 bif (decide (v39 < (cuts.length : Int))) then (bif (bif (F14 (cuts.getD (Int.toNat v39) default)).2 then ((((F14 (cuts.getD (Int.toNat v39) default)).1).length : Int) == 0) else false) then (.next (lines1, (v39 + 1))) else (bif ((F15 lines1 (cuts.getD (Int.toNat v39) default)).2 != 0) then (.ret (([] : List ByteArray), (⟨(v39 + 1), (F15 lines1 (cuts.getD (Int.toNat v39) default)).2⟩ : ConfFault))) else (.next ((lines1 ++ [(F15 lines1 (cuts.getD (Int.toNat v39) default)).1]), (v39 + 1))))) else (.done (lines1, v39))
def Qhh (text : ByteArray) (cuts : List ByteArray) : Lp (List ByteArray) (List ByteArray × ConfFault) :=
 (runL (Gi text cuts) ((Int.toNat ((cuts.length : Int) - 0)) + 1) (([] : List ByteArray), 0)).fin Lp.ret (fun (lines1, v39) => .done lines1)
def F5 (text : ByteArray) : List ByteArray × ConfFault :=
 (Qdd text).fin (fun r => r) (fun cuts => bif (bif decide ((text.size : Int) > 4000) then true else decide ((cuts.length : Int) > 80)) then (([] : List ByteArray), (⟨0, 10⟩ : ConfFault)) else ((Qhh text cuts).fin (fun r => r) (fun lines => bif ((F17 (F16 lines)) != 0) then (([] : List ByteArray), (⟨0, (F17 (F16 lines))⟩ : ConfFault)) else ((F16 lines), (⟨0, 0⟩ : ConfFault)))))
abbrev Uac (text : ByteArray) (cuts : List ByteArray) : Prop := (∀ k : Nat, (cuts.getD k default).size ≤ 1048576) ∧ True
abbrev Qzj (text : ByteArray) (j : List ByteArray) : Prop := (Qdd text) = Lp.done j ∧ Uac text j
theorem jn5_0 (text : ByteArray) (cuts : List ByteArray) (e : (Qdd text) = Lp.done cuts) (h : Uac text cuts) : ∃ j : List ByteArray, ((.string text : Value) = .string text) ∧ ((.int .i64 0 : Value) = .int .i64 0) ∧ ((.int .i64 0 : Value) = .int .i64 0) ∧ (Imp (.l 1 eStr cuts) (.l 1 eStr j)) ∧ Qzj text j := ⟨cuts, rfl, rfl, rfl, Imp.refl _, e, h⟩
abbrev Qhx (cuts : List ByteArray) : Nat × (List ByteArray × Int) := (((Int.toNat ((cuts.length : Int) - 0)) + 1), (([] : List ByteArray), 0))
abbrev Qsj (cuts : List ByteArray) (m39 : Nat) (lines1 : List ByteArray) (v39 : Int) : Prop := Int.toNat ((cuts.length : Int) - v39) < m39 ∧ lines1.length ≤ 16 ∧ (∀ k : Nat, (lines1.getD k default).size ≤ 1048576) ∧ (0 : Int) ≤ v39
abbrev lX5_0 (text : ByteArray) (cuts : List ByteArray) : Lp (List ByteArray × Int) (List ByteArray × ConfFault) := LpX (Gi text cuts) (Qhx cuts)
abbrev Qio (text : ByteArray) (cuts : List ByteArray) (i : Nat × (List ByteArray × Int)) : Prop := LpJ (Gi text cuts) (Qhx cuts) i (Qsj cuts i.1 i.2.1 i.2.2)
abbrev lH5_0 (text : ByteArray) (cuts : List ByteArray) (i : Nat × (List ByteArray × Int)) (m39 : Nat) (lines1 : List ByteArray) (v39 : Int) : Prop := LpH (Gi text cuts) (Qhx cuts) i m39 (lines1, v39) (Qsj cuts (m39 + 1) lines1 v39)
abbrev lE5_0 (cuts : List ByteArray) (lines1 : List ByteArray) (v39 : Int) (lines1_ : List ByteArray) (v39_ : Int) (K39 : Prop) : Prop := (Rf (.int .i64 (cuts.length : Int))) ∧ ((.int .i64 v39 : Value) = .int .i64 v39_) ∧ (Rf (.int .i64 0)) ∧ (Rf (.int .i64 0)) ∧ (Imp (.l 1 eStr lines1) (.l 1 eStr lines1_)) ∧ (Im (.l 1 eStr cuts)) ∧ K39
theorem un5_0 (text : ByteArray) (cuts : List ByteArray) (i : Nat × (List ByteArray × Int)) (h : Qio text cuts i) : lH5_0 text cuts i (i.1 - 1) i.2.1 i.2.2 := ⟨hd1 h.1 h.2.1, hd3 h.2.1, hd2 h.2.1, h.2.2⟩
theorem bk5_0 (text : ByteArray) (cuts : List ByteArray) (i : Nat × (List ByteArray × Int)) (m39 : Nat) (lines1 : List ByteArray) (v39 : Int) (hl : m39 < i.1) (e : runL (Gi text cuts) m39 (lines1, v39) = lX5_0 text cuts) (h : Qsj cuts m39 lines1 v39) : ∃ j : Nat × (List ByteArray × Int), lE5_0 cuts lines1 v39 j.2.1 j.2.2 (Qio text cuts j ∧ j.1 < i.1) := ⟨(m39, (lines1, v39)), rfl, rfl, rfl, rfl, Imp.refl _, Imp.refl _, ⟨e, h⟩, hl⟩
theorem en5_0 (text : ByteArray) (cuts : List ByteArray) (h : ([] : List ByteArray).length ≤ 16 ∧ (∀ k : Nat, (([] : List ByteArray).getD k default).size ≤ 1048576) ∧ (0 : Int) ≤ 0) : lE5_0 cuts ([] : List ByteArray) 0 ([] : List ByteArray) 0 (Qio text cuts (Qhx cuts)) := ⟨rfl, rfl, rfl, rfl, Imp.refl _, Imp.refl _, rfl, Nat.lt_succ_self _, h⟩
abbrev Qwu (text : ByteArray) (cuts : List ByteArray) (lines : List ByteArray) : Prop := lines.length ≤ 16 ∧ (∀ k : Nat, (lines.getD k default).size ≤ 1048576)
abbrev Qyw (text : ByteArray) (cuts : List ByteArray) (j : List ByteArray) : Prop := (Qhh text cuts) = Lp.done j ∧ Qwu text cuts j
theorem jn5_1 (text : ByteArray) (cuts : List ByteArray) (lines : List ByteArray) (e : (Qhh text cuts) = Lp.done lines) (h : Qwu text cuts lines) : ∃ j : List ByteArray, ((.int .i64 0 : Value) = .int .i64 0) ∧ ((.int .i64 0 : Value) = .int .i64 0) ∧ (Imp (.l 1 eStr lines) (.l 1 eStr j)) ∧ Qyw text cuts j := ⟨lines, rfl, rfl, Imp.refl _, e, h⟩
theorem fi5 (text : ByteArray) (r : List ByteArray × ConfFault) (hF : r = (F5 text)) : (Imp (.l 1 eStr r.1) (.l 1 eStr ((F5 text).1))) ∧ ((.int .i64 r.2.Line : Value) = .int .i64 (((F5 text).2).Line)) ∧ ((.int .i64 r.2.Code : Value) = .int .i64 (((F5 text).2).Code)) ∧ True := by cases hF; exact ⟨Imp.refl _, rfl, rfl, trivial⟩
def S5 (text : ByteArray) : Spec := ⟨[.r (.c (.v (.string text)))], .tu [.ow (.l 1 eStr ((F5 text).1)), .ag [.v (vI (((F5 text).2).Line)), .v (vI (((F5 text).2).Code))]], text.size ≤ 1048576⟩
theorem ok5 (text : ByteArray) : (S5 text).ok Tryz.prog 5 false :=
 Qj mixed (fn := Tryz.f5) (ct := .seq .no (.seq (.reg [(1, Qrv text w21_)]) (.cut (ι := List ByteArray) (fun j => (fun (cuts : List ByteArray) => (⟨[(0, some (.v (.string text))), (3, some (.p 0 0)), (4, some (.h 1 0))], [(0, some (.box 24 [.v (vI 0), .v (vI 0)])), (1, some (.own 1 (.l 1 eStr cuts)))], 2⟩ : St)) j) (Qzj text) (.seq (.reg [(3, .bnd)]) (.cond (.reg [(3, .bnd), (4, .own)]) .no)) (fun j => (fun (cuts : List ByteArray) => (.seq (.seq .no (.cond (.seq .no .no) .no)) (.seq (.reg [(0, .dat (.l 1 eStr ([] : List ByteArray)))]) (.cut (ι := List ByteArray) (fun j => (fun (lines : List ByteArray) => (⟨[(3, some (.p 0 0)), (5, some (.h 1 0))], [(0, some (.box 24 [.v (vI 0), .v (vI 0)])), (1, some (.own 1 (.l 1 eStr lines)))], 2⟩ : St)) j) (Qyw text cuts) (.seqk [(5, 0), (37, 0)] .no (.blk (.loop (ι := Nat × (List ByteArray × Int)) (fun i => (fun (lines1 : List ByteArray) (v39 : Int) => (⟨[(3, some (.p 0 0)), (5, some (.h 1 0)), (37, some (.h 2 0)), (38, some (.v (vI (cuts.length : Int)))), (39, some (.v (vI v39)))], [(0, some (.box 24 [.v (vI 0), .v (vI 0)])), (1, some (.own 1 (.l 1 eStr lines1))), (2, some (.own 2 (.l 1 eStr cuts)))], 3⟩ : St)) i.2.1 i.2.2) (Qio text cuts) (fun i => i.1) (Qhx cuts) (fun i => (fun (lines1 : List ByteArray) (v39 : Int) => (.seq .no (.seq (.cond .no .no) (.seq (.blk (.seq .no (.seq (.seq (.reg [(1, kh14 (cuts.getD (Int.toNat v39) default))]) (.seq .no (.cond .no .no))) (.seq (.reg [(2, kh15 lines1 (cuts.getD (Int.toNat v39) default))]) (.seq (.seq .no (.cond (.seq (.reg [(1, .bnd)]) .no) .no)) (.reg [(3, .dat (.l 1 eStr (lines1 ++ [(F15 lines1 (cuts.getD (Int.toNat v39) default)).1])))])))))) (.reg [(0, .bnd)]))))) i.2.1 i.2.2)))) (fun j => (fun (lines : List ByteArray) => (.seq (.reg [(1, kh16f lines)]) (.seq (.seq (.reg [(1, kh17 (F16 lines))]) (.seq .no (.cond (.seq .no .no) .no))) (.seq .no .no)))) j))))) j)))) Tryz.func5 (fun (hpre0 : text.size ≤ 1048576) => kc13 text w21_ (by first | omega | (simp only [lens, ib] at * <;> omega)) (by decide) (by decide) (by decide) (fun gv1 gv2 => have gv3 : 1 ≤ (F13 text w21_).length := (by exact Hh _ _ (Nat.le_refl 1)); have gv4 : (F13 text w21_).length ≤ text.size + 1 := (by exact Bs _ _ (Nat.le_refl 1)); have gv5 : ∀ k : Nat, ((F13 text w21_).getD k default).size ≤ 1048576 := (by exact Qlb text (by first | omega | (simp only [lens, ib] at * <;> omega))); ai (ai (iok (((F13 text w21_).length : Int) - 1) (by first | omega | (simp only [lens, ib] at * <;> omega))) (ai (by first | omega | (simp only [lens, ib] at * <;> omega) : ib (((F13 text w21_).length : Int) - 1) (F13 text w21_)) (ifb (((F13 text w21_).getD (Int.toNat (((F13 text w21_).length : Int) - 1)) default).toList == w13_.toList) (fun h6 => ai (iok (((F13 text w21_).length : Int) - 1) (by first | omega | (simp only [lens, ib] at * <;> omega))) (ai (by first | omega | (simp only [lens, ib] at * <;> omega) : 0 ≤ (0 : Int) ∧ (0 : Int) ≤ (((F13 text w21_).length : Int) - 1) ∧ (((F13 text w21_).length : Int) - 1) ≤ ((F13 text w21_).length : Int)) (jn5_0 text ((F13 text w21_).take (Int.toNat (((F13 text w21_).length : Int) - 1))) (Eq.symm (condT h6 rfl)) (by refine ⟨?_, ?_⟩ <;> first | exact trivial | first | omega | (simp only [lens, ib] at * <;> omega) | first | assumption | exact Qfr (by assumption) _)))) (fun h6 => jn5_0 text (F13 text w21_) (Eq.symm (condF h6 rfl)) (by refine ⟨?_, ?_⟩ <;> first | exact trivial | first | omega | (simp only [lens, ib] at * <;> omega) | first | assumption | exact Qfr (by assumption) _))))) (fun (j : List ByteArray) (hj : Qzj text j) => (fun (cuts : List ByteArray) (hJ0_7 : (Qdd text) = Lp.done cuts) (hw : Uac text cuts) => have _ := hw.1; ifb (bif decide ((text.size : Int) > 4000) then true else decide ((cuts.length : Int) > 80)) (fun h8 => (fun hF : (([] : List ByteArray), (⟨0, 10⟩ : ConfFault)) = (F5 text) => ai ((Imp.nil 1 eStr).trans (Imp.of_eq (congrArg (fun r : List ByteArray × ConfFault => Dat.l 1 eStr r.1) hF))) (ai (congrArg (fun r : List ByteArray × ConfFault => (.int .i64 r.2.Line : Value)) hF) (ai (congrArg (fun r : List ByteArray × ConfFault => (.int .i64 r.2.Code : Value)) hF) trivial))) (finD hJ0_7 (condT h8 rfl))) (fun h8 => have _ := of_decide_eq_false (orF1 h8); have _ := of_decide_eq_false (orF2 h8); ai (bokr 1 eStr ([] : List ByteArray) fun _ => rfl) (ai (kn ([] : List ByteArray) fun _ => kn cuts fun _ => ai (en5_0 text cuts (by refine ⟨?_, ?_, ?_⟩ <;> first | omega | (simp only [lens, ib] at * <;> omega) | omega | exact Bf | assumption | exact Nf (by assumption) (Je _ _) | (have h9 := Xc lines1 (cuts.getD (Int.toNat v39) default) (by first | assumption | omega); simp only [List.length_append, List.length_cons, List.length_nil] at *; omega))) (fun (i0 : Nat × (List ByteArray × Int)) (hi0 : Qio text cuts i0) => (fun (m0 : Nat) (lines1 : List ByteArray) (v39 : Int) (hh0 : lH5_0 text cuts i0 m0 lines1 v39) => have hI0 := hh0.1; have hl0 := hh0.2.1; have _ := hh0.2.2.1; have _ := hh0.2.2.2.1; have _ := hh0.2.2.2.2.1; have _ := hh0.2.2.2.2.2; ifd (v39 < (cuts.length : Int)) (fun h10 _ => ai (by first | omega | (simp only [lens, ib] at * <;> omega) : ib v39 cuts) (kc14 (cuts.getD (Int.toNat v39) default) (by exact (by assumption : ∀ k : Nat, (cuts.getD k default).size ≤ 1048576) _) (fun gv11 gv12 => ifb (bif (F14 (cuts.getD (Int.toNat v39) default)).2 then ((((F14 (cuts.getD (Int.toNat v39) default)).1).length : Int) == 0) else false) (fun h13 => have _ := (Qi h13); have _ := eq_of_beq (Qt h13); ai (iok (v39 + 1) (by first | omega | (simp only [lens, ib] at * <;> omega))) (bk5_0 text cuts i0 m0 lines1 (v39 + 1) hl0 (Qd hI0 (condT h10 (condT h13 rfl))) (by refine ⟨?_, ?_, ?_, ?_⟩ <;> first | omega | (simp only [lens, ib] at * <;> omega) | omega | exact Bf | assumption | exact Nf (by assumption) (Je _ _) | (have h9 := Xc lines1 (cuts.getD (Int.toNat v39) default) (by first | assumption | omega); simp only [List.length_append, List.length_cons, List.length_nil] at *; omega)))) (fun h13 => kc15 lines1 (cuts.getD (Int.toNat v39) default) (by first | assumption | exact (by assumption : ∀ k : Nat, (cuts.getD k default).size ≤ 1048576) _) (by first | assumption | exact (by assumption : ∀ k : Nat, (cuts.getD k default).size ≤ 1048576) _) (have gv14 : (F15 lines1 (cuts.getD (Int.toNat v39) default)).1.size ≤ 1048576 := (by exact Je _ _); ifn ((F15 lines1 (cuts.getD (Int.toNat v39) default)).2) 0 (fun h15 _ => ai (iok (v39 + 1) (by first | omega | (simp only [lens, ib] at * <;> omega))) ((fun hF : (([] : List ByteArray), (⟨(v39 + 1), (F15 lines1 (cuts.getD (Int.toNat v39) default)).2⟩ : ConfFault)) = (F5 text) => ai ((Imp.nil 1 eStr).trans (Imp.of_eq (congrArg (fun r : List ByteArray × ConfFault => Dat.l 1 eStr r.1) hF))) (ai (congrArg (fun r : List ByteArray × ConfFault => (.int .i64 r.2.Line : Value)) hF) (ai (congrArg (fun r : List ByteArray × ConfFault => (.int .i64 r.2.Code : Value)) hF) trivial))) (finD hJ0_7 (condF h8 (finR (Eq.symm (finR (Qr hI0 (condT h10 (condF h13 (condT h15 rfl)))) rfl)) rfl))))) (fun h15 _ => ai (appr 1 eStr lines1 [(F15 lines1 (cuts.getD (Int.toNat v39) default)).1] fun _ => rfl) (ai (by (try simp only [lens]); omega : (lines1 ++ [(F15 lines1 (cuts.getD (Int.toNat v39) default)).1]).length * 16 ≤ 140737488355328) (ai (iok (v39 + 1) (by first | omega | (simp only [lens, ib] at * <;> omega))) (bk5_0 text cuts i0 m0 (lines1 ++ [(F15 lines1 (cuts.getD (Int.toNat v39) default)).1]) (v39 + 1) hl0 (Qd hI0 (condT h10 (condF h13 (condF h15 rfl)))) (by refine ⟨?_, ?_, ?_, ?_⟩ <;> first | omega | (simp only [lens, ib] at * <;> omega) | omega | exact Bf | assumption | exact Nf (by assumption) (Je _ _) | (have h9 := Xc lines1 (cuts.getD (Int.toNat v39) default) (by first | assumption | omega); simp only [List.length_append, List.length_cons, List.length_nil] at *; omega))))))))))) (fun h10 _ => have hD0_16 : lX5_0 text cuts = Lp.done (lines1, v39) := Qk hI0 (condF h10 rfl); jn5_1 text cuts lines1 (Eq.symm (finD hD0_16 rfl)) (by refine ⟨?_, ?_⟩ <;> first | omega | (simp only [lens, ib] at * <;> omega) | first | assumption | exact Qfr (by assumption) _))) (i0.1 - 1) i0.2.1 i0.2.2 (un5_0 text cuts i0 hi0))) (fun (j : List ByteArray) (hj : Qyw text cuts j) => (fun (lines : List ByteArray) (hJ1_17 : (Qhh text cuts) = Lp.done lines) (hw : Qwu text cuts lines) => have _ := hw.1; have _ := hw.2; kc16 lines (by first | omega | (simp only [lens, ib] at * <;> omega)) (kc17 (F16 lines) (by first | (have h9 := Qhr lines; omega) | exact Qib (by assumption)) (by first | (have h9 := Qhr lines; omega) | exact Qib (by assumption)) (ifn (F17 (F16 lines)) 0 (fun h18 _ => (fun hF : (([] : List ByteArray), (⟨0, (F17 (F16 lines))⟩ : ConfFault)) = (F5 text) => ai ((Imp.nil 1 eStr).trans (Imp.of_eq (congrArg (fun r : List ByteArray × ConfFault => Dat.l 1 eStr r.1) hF))) (ai (congrArg (fun r : List ByteArray × ConfFault => (.int .i64 r.2.Line : Value)) hF) (ai (congrArg (fun r : List ByteArray × ConfFault => (.int .i64 r.2.Code : Value)) hF) trivial))) (finD hJ0_7 (condF h8 (finD hJ1_17 (condT h18 rfl))))) (fun h18 _ => fi5 text ((F16 lines), (⟨0, 0⟩ : ConfFault)) (finD hJ0_7 (condF h8 (finD hJ1_17 (condF h18 rfl)))))))) j hj.1 hj.2)))) j hj.1 hj.2))) (by kernel_rfl)
theorem kc10 (text : ByteArray) {K_ : Prop} (p0_ : text.size ≤ 1048576) (q0_ : text.size ≤ 1048576) (q1_ : text.size ≤ 1048576) (k_ : ((F10 text).length ≤ 1048577) → (∀ k : Nat, ((F10 text).getD k default).size ≤ 1048576) → K_) : (text.size ≤ 1048576) ∧ (Imp (.v (.string text)) (.v (.string text))) ∧ K_ := ⟨p0_, Imp.refl _, k_ (Qkl text q0_) (Qrq text q1_)⟩
abbrev kh10 (text : ByteArray) : Hint true Tryz.prog := .call 10 (S10 text) (ok10 text) none
theorem kc11 (list : List ByteArray) {K_ : Prop} (p0_ : list.length ≤ 1048577) (p1_ : ∀ k : Nat, (list.getD k default).size ≤ 1048576) (k_ : ((F11 list).1.length ≤ 16) → (∀ k : Nat, ((F11 list).1.getD k default).size ≤ 1048576) → K_) : (list.length ≤ 1048577 ∧ (∀ k : Nat, (list.getD k default).size ≤ 1048576)) ∧ (Imp (.l 1 eStr list) (.l 1 eStr list)) ∧ K_ := ⟨⟨p0_, p1_⟩, Imp.refl _, k_ (Qiz list) (Ucr list)⟩
abbrev kh11 (list : List ByteArray) : Hint true Tryz.prog := .call 11 (S11 list) (ok11 list) none
theorem kc12 (lines : List ByteArray) {K_ : Prop} (p0_ : lines.length ≤ 1048576) (p1_ : ∀ k : Nat, (lines.getD k default).size ≤ 1048576) (k_ : K_) : (lines.length ≤ 1048576 ∧ (∀ k : Nat, (lines.getD k default).size ≤ 1048576)) ∧ (Imp (.l 1 eStr lines) (.l 1 eStr lines)) ∧ K_ := ⟨⟨p0_, p1_⟩, Imp.refl _, k_⟩
abbrev kh12 (lines : List ByteArray) : Hint true Tryz.prog := .call 12 (S12 lines) (ok12 lines) none
def F4 (text : ByteArray) : List ByteArray × ConfFault :=
 bif (decide ((text.size : Int) > 4000)) then (([] : List ByteArray), (⟨0, 10⟩ : ConfFault)) else (bif (decide (((F10 text).length : Int) > 80)) then (([] : List ByteArray), (⟨0, 10⟩ : ConfFault)) else (bif (((F11 (F10 text)).2).Code != 0) then (([] : List ByteArray), ((F11 (F10 text)).2)) else (bif ((F12 ((F11 (F10 text)).1)) != 0) then (([] : List ByteArray), (⟨0, (F12 ((F11 (F10 text)).1))⟩ : ConfFault)) else ((F11 (F10 text)).1, (⟨0, 0⟩ : ConfFault)))))
theorem fi4 (text : ByteArray) (r : List ByteArray × ConfFault) (hF : r = (F4 text)) : (Imp (.l 1 eStr r.1) (.l 1 eStr ((F4 text).1))) ∧ ((.int .i64 r.2.Line : Value) = .int .i64 (((F4 text).2).Line)) ∧ ((.int .i64 r.2.Code : Value) = .int .i64 (((F4 text).2).Code)) ∧ True := by cases hF; exact ⟨Imp.refl _, rfl, rfl, trivial⟩
def S4 (text : ByteArray) : Spec := ⟨[.r (.c (.v (.string text)))], .tu [.ow (.l 1 eStr ((F4 text).1)), .ag [.v (vI (((F4 text).2).Line)), .v (vI (((F4 text).2).Code))]], text.size ≤ 1048576⟩
theorem ok4 (text : ByteArray) : (S4 text).ok Tryz.prog 4 :=
 Qj mixed (fn := Tryz.f4) (ct := .seq .no (.seq (.seq .no (.cond (.seq (.reg [(0, .dat (.l 1 eStr ([] : List ByteArray)))]) .no) .no)) (.seq (.reg [(1, kh10 text)]) (.seq (.seq .no (.cond (.seq (.reg [(0, .dat (.l 1 eStr ([] : List ByteArray)))]) .no) .no)) (.seq (.reg [(1, kh11 (F10 text))]) (.seq (.seq .no (.cond (.seq (.reg [(0, .dat (.l 1 eStr ([] : List ByteArray)))]) .no) .no)) (.seq (.reg [(1, kh12 ((F11 (F10 text)).1))]) (.seq (.seq .no (.cond (.seq (.reg [(0, .dat (.l 1 eStr ([] : List ByteArray)))]) .no) .no)) (.seq .no .no))))))))) Tryz.func4 (fun (hpre0 : text.size ≤ 1048576) => ifd ((text.size : Int) > 4000) (fun h1 _ => ai (bokr 1 eStr ([] : List ByteArray) fun _ => rfl) (fi4 text (([] : List ByteArray), (⟨0, 10⟩ : ConfFault)) (condT h1 rfl))) (fun h1 _ => kc10 text (by omega) (by omega) (by omega) (fun gv2 gv3 => ifd (((F10 text).length : Int) > 80) (fun h4 _ => ai (bokr 1 eStr ([] : List ByteArray) fun _ => rfl) (fi4 text (([] : List ByteArray), (⟨0, 10⟩ : ConfFault)) (condF h1 (condT h4 rfl)))) (fun h4 _ => kc11 (F10 text) (by omega) (by first | assumption | exact gv3 | (intros; exact trivial) | (intros; exact Nat.zero_le _)) (fun gv5 gv6 => ifn (((F11 (F10 text)).2).Code) 0 (fun h7 _ => ai (bokr 1 eStr ([] : List ByteArray) fun _ => rfl) (fi4 text (([] : List ByteArray), ((F11 (F10 text)).2)) (condF h1 (condF h4 (condT h7 rfl))))) (fun h7 _ => kc12 ((F11 (F10 text)).1) (by omega) (by first | assumption | exact gv3 | exact gv6 | (intros; exact trivial) | (intros; exact Nat.zero_le _)) (ifn (F12 ((F11 (F10 text)).1)) 0 (fun h8 _ => ai (bokr 1 eStr ([] : List ByteArray) fun _ => rfl) (fi4 text (([] : List ByteArray), (⟨0, (F12 ((F11 (F10 text)).1))⟩ : ConfFault)) (condF h1 (condF h4 (condF h7 (condT h8 rfl)))))) (fun h8 _ => fi4 text ((F11 (F10 text)).1, (⟨0, 0⟩ : ConfFault)) (condF h1 (condF h4 (condF h7 (condF h8 rfl)))))))))))) (by kernel_rfl)
theorem Qho (lines : List ByteArray) (text : ByteArray) : F15 lines text = bif !(F21 text).2 then ((⟨#[]⟩ : ByteArray), 2) else bif lines.any (fun l => F23 l == F23 (F21 text).1) then ((⟨#[]⟩ : ByteArray), 4) else bif lines.length == 16 then ((⟨#[]⟩ : ByteArray), 1) else ((F21 text).1, 0) := by
 unfold F15
 rw [My, show (((lines.length : Nat) : Int) == 16) = (lines.length == 16) from Pp _ 16]
 have e : (fun (x0 : ByteArray) => F40 x0 (F21 text).1) = fun l => F23 l == F23 (F21 text).1 := by
  funext l
  unfold F40
  rw [Qav, Qav, Ml, Bool.eq_iff_iff, decide_eq_true_eq, beq_iff_eq]
 rw [e]
def appF (a : List ByteArray) (x : ByteArray) : List ByteArray := a ++ [x]
theorem Jh (text : ByteArray) (cuts : List ByteArray) : ∀ (m i : Nat) (L : List ByteArray), i + m = cuts.length → ∀ fuel, m < fuel →
  (runL (Gi text cuts) fuel (L, (i : Int))).fin Lp.ret (fun (x : List ByteArray × Int) => (.done x.1 : Lp (List ByteArray) (List ByteArray × ConfFault))) = bif (Ut appF i L (cuts.drop i)).2.Code == 0 then .done (Ut appF i L (cuts.drop i)).1 else .ret ([], (Ut appF i L (cuts.drop i)).2)
 | m, i, L, _, 0, hf => absurd hf (Nat.not_lt_zero _)
 | 0, i, L, h, fuel + 1, hf => by
  obtain rfl : i = cuts.length := by omega
  have e : Gi text cuts (L, (cuts.length : Int)) = .done (L, (cuts.length : Int)) := by
   simp only [Gi, geD, cond_false]
  rw [Zg _ e, List.drop_of_length_le (Nat.le_refl _)]; rfl
 | m + 1, i, L, h, fuel + 1, hf => by
  rw [Qgk cuts i (by omega), Ut]
  generalize hc : cuts.getD i default = c
  have e : Gi text cuts (L, (i : Int)) = bif ((F20 c).2 && ((F20 c).1.length == 0)) then .next (L, ((i + 1 : Nat) : Int))
    else bif (F15 L c).2 != 0 then .ret ([], ⟨((i + 1 : Nat) : Int), (F15 L c).2⟩) else .next (L ++ [(F15 L c).1], ((i + 1 : Nat) : Int)) := by
   simp only [Gi, ltD (show i < cuts.length by omega), cond_true, nn, hc, Ww]
   rw [show ((((F20 c).1.length : Nat) : Int) == 0) = ((F20 c).1.length == 0) from Pp _ 0]
   cases (F20 c).2 <;> rfl
  rw [Qho] at e
  cases h1 : ((F20 c).2 && ((F20 c).1.length == 0)) with
  | true => rw [h1, cond_true] at e; rw [Uj _ e, Jh text cuts m (i + 1) L (by omega) fuel (by omega), cond_true]
  | false =>
  rw [h1, cond_false] at e; rw [cond_false]
  cases h2 : (!(F21 c).2) with
  | true => rw [h2, cond_true] at e; rw [Ya _ e]; rfl
  | false =>
  rw [h2, cond_false] at e; rw [cond_false]
  cases h3 : L.any (fun l => F23 l == F23 (F21 c).1) with
  | true => rw [h3, cond_true] at e; rw [Ya _ e]; rfl
  | false =>
  rw [h3, cond_false] at e; rw [cond_false]
  cases h4 : (L.length == 16) with
  | true => rw [h4, cond_true] at e; rw [Ya _ e]; rfl
  | false =>
  rw [h4, cond_false] at e; rw [cond_false, Uj _ e, Jh text cuts m (i + 1) _ (by omega) fuel (by omega)]
  rfl
theorem Re (text : ByteArray) : F5 text = F4 text := by
 have hj0 : Qdd text = .done (F10 text) := by
  rw [Nl]
  unfold Qdd
  show (bif (((Qq text ⟨#[10]⟩).getD (Int.toNat (((Qq text ⟨#[10]⟩).length : Int) - 1)) default).toList == (⟨#[]⟩ : ByteArray).toList) then (Lp.done ((Qq text ⟨#[10]⟩).take (Int.toNat (((Qq text ⟨#[10]⟩).length : Int) - 1)))) else (.done (Qq text ⟨#[10]⟩))) = _
  rw [show Int.toNat (((Qq text ⟨#[10]⟩).length : Int) - 1) = (Qq text ⟨#[10]⟩).length - 1 by omega]
  cases (((Qq text ⟨#[10]⟩).getD ((Qq text ⟨#[10]⟩).length - 1) default).toList == (⟨#[]⟩ : ByteArray).toList) <;> rfl
 unfold F5 F4
 rw [hj0]
 generalize F10 text = cuts
 show (bif (bif decide ((text.size : Int) > 4000) then true else decide ((cuts.length : Int) > 80)) then _ else _) = _
 cases decide ((text.size : Int) > 4000) with
 | true => rfl
 | false =>
 rw [cond_false, cond_false]
 cases decide ((cuts.length : Int) > 80) with
 | true => rfl
 | false =>
 rw [cond_false, cond_false]
 have hl := Jh text cuts cuts.length 0 [] (by omega) (Int.toNat ((cuts.length : Int) - 0) + 1) (by omega)
 rw [List.drop_zero] at hl
 have hl : Qhh text cuts = bif (Ut appF 0 [] cuts).2.Code == 0 then .done (Ut appF 0 [] cuts).1 else .ret ([], (Ut appF 0 [] cuts).2) := hl
 rw [hl, Pd]
 obtain ⟨k1, k2, k3, k4⟩ := Gs cuts 0 [] [] List.Pairwise.nil (fun z => Iff.rfl) List.Pairwise.nil rfl
 have k1 : (Ut appF 0 [] cuts).2 = (Ut F24 0 [] cuts).2 := k1
 have k5 : F16 (Ut appF 0 [] cuts).1 = (Ut F24 0 [] cuts).1 := by
  refine Qae (Qgm _ k4) k2 fun z => ?_
  exact sortS_mem.trans (k3 z)
 rw [k1]
 cases hc : ((Ut F24 0 [] cuts).2.Code == 0) with
 | false =>
  rw [show ((Ut F24 0 [] cuts).2.Code != 0) = true by rw [bne, hc]; rfl]
  rfl
 | true =>
  rw [show ((Ut F24 0 [] cuts).2.Code != 0) = false by rw [bne, hc]; rfl]
  show (bif ((F17 (F16 (Ut appF 0 [] cuts).1)) != 0) then _ else _) = _
  rw [k5, Qko]
  rfl
theorem Mo (text : ByteArray) : (F4 text).1.length ≤ 16 := by
 unfold F4
 have h := Qiz (F10 text)
 cases decide ((text.size : Int) > 4000) <;> cases decide (((F10 text).length : Int) > 80) <;> cases ((F11 (F10 text)).2.Code != 0) <;> cases (F12 ((F11 (F10 text)).1) != 0) <;> first | exact Nat.zero_le _ | exact h
theorem Qbg (text : ByteArray) : (F5 text).1.length ≤ 16 := by rw [Re]; exact Mo text
def Ro (a : List ByteArray) (b : List ByteArray) : Int → Lp Int Bool := fun i40 =>
 bif (decide (i40 < (a.length : Int))) then (bif (!((a.getD (Int.toNat i40) default).toList == (b.getD (Int.toNat i40) default).toList)) then (.ret false) else (.next (i40 + 1))) else (.done i40)
def F6 (a : List ByteArray) (b : List ByteArray) : Bool :=
 bif ((a.length : Int) != (b.length : Int)) then false else ((runL (Ro a b) ((Int.toNat ((a.length : Int) - 0)) + 1) 0).fin (fun r => r) (fun i40 => true))
abbrev Qir (a : List ByteArray) : Nat × Int := (((Int.toNat ((a.length : Int) - 0)) + 1), 0)
abbrev Qtn (a : List ByteArray) (m39 : Nat) (i40 : Int) : Prop := Int.toNat ((a.length : Int) - i40) < m39 ∧ (0 : Int) ≤ i40
abbrev lX6_0 (a : List ByteArray) (b : List ByteArray) : Lp Int Bool := LpX (Ro a b) (Qir a)
abbrev Qhu (a : List ByteArray) (b : List ByteArray) (i : Nat × Int) : Prop := LpJ (Ro a b) (Qir a) i (Qtn a i.1 i.2)
abbrev lH6_0 (a : List ByteArray) (b : List ByteArray) (i : Nat × Int) (m39 : Nat) (i40 : Int) : Prop := LpH (Ro a b) (Qir a) i m39 i40 (Qtn a (m39 + 1) i40)
abbrev lE6_0 (a : List ByteArray) (b : List ByteArray) (i40 : Int) (i40_ : Int) (K39 : Prop) : Prop := ((.int .i64 i40 : Value) = .int .i64 i40_) ∧ (Im (.l 1 eStr a)) ∧ (Im (.l 1 eStr b)) ∧ K39
theorem un6_0 (a : List ByteArray) (b : List ByteArray) (i : Nat × Int) (h : Qhu a b i) : lH6_0 a b i (i.1 - 1) i.2 := ⟨hd1 h.1 h.2.1, hd3 h.2.1, hd2 h.2.1, h.2.2⟩
theorem bk6_0 (a : List ByteArray) (b : List ByteArray) (i : Nat × Int) (m39 : Nat) (i40 : Int) (hl : m39 < i.1) (e : runL (Ro a b) m39 i40 = lX6_0 a b) (h : Qtn a m39 i40) : ∃ j : Nat × Int, lE6_0 a b i40 j.2 (Qhu a b j ∧ j.1 < i.1) := ⟨(m39, i40), rfl, Imp.refl _, Imp.refl _, ⟨e, h⟩, hl⟩
theorem en6_0 (a : List ByteArray) (b : List ByteArray) (h : (0 : Int) ≤ 0) : lE6_0 a b 0 0 (Qhu a b (Qir a)) := ⟨rfl, Imp.refl _, Imp.refl _, rfl, Nat.lt_succ_self _, h⟩
def S6 (R : Bool) (a : List ByteArray) (b : List ByteArray) : Spec := ⟨[.r (.c (.l 1 eStr a)), .r (.c (.l 1 eStr b))], .v (.bool R), True⟩
theorem ok6 (a : List ByteArray) (b : List ByteArray) : (S6 (F6 a b) a b).ok Tryz.prog 6 :=
 Qj mixed (fn := Tryz.f6) (ct := .seqk [(0, 0), (1, 0)] .no (.seq (.seq .no (.cond (.seq .no .no) .no)) (.seq (.seqk [(0, 0), (1, 0)] .no (.blk (.loop (ι := Nat × Int) (fun i => (fun (i40 : Int) => (⟨[(0, some (.h 0 0)), (1, some (.h 1 0)), (5, some (.v (vI i40)))], [(0, some (.shr none (.l 1 eStr a))), (1, some (.shr none (.l 1 eStr b)))], 2⟩ : St)) i.2) (Qhu a b) (fun i => i.1) (Qir a) (fun i => (fun (i40 : Int) => (.seq (.seq .no (.cond .no .no)) (.seq (.blk (.seq .no (.cond (.seq .no .no) .no))) (.reg [(1, .bnd)])))) i.2)))) (.seq .no .no)))) Tryz.func6 (fun (_ : True) => kn a fun _ => kn b fun _ => ifn (a.length : Int) (b.length : Int) (fun h1 _ => fiB false (F6 a b) (condT h1 rfl)) (fun h1 _ => kn a fun _ => kn b fun _ => ai (en6_0 a b (by omega)) (fun (i0 : Nat × Int) (hi0 : Qhu a b i0) => (fun (m0 : Nat) (i40 : Int) (hh0 : lH6_0 a b i0 m0 i40) => have hI0 := hh0.1; have hl0 := hh0.2.1; have _ := hh0.2.2.1; have _ := hh0.2.2.2; ifd (i40 < (a.length : Int)) (fun h3 _ => ai (by omega : ib i40 a) (ai (by omega : ib i40 b) (ifb (!((a.getD (Int.toNat i40) default).toList == (b.getD (Int.toNat i40) default).toList)) (fun h4 => fiB false (F6 a b) (condF h1 (finR (Qr hI0 (condT h3 (condT h4 rfl))) rfl))) (fun h4 => ai (iok (i40 + 1) (by omega)) (bk6_0 a b i0 m0 (i40 + 1) hl0 (Qd hI0 (condT h3 (condF h4 rfl))) (by refine ⟨?_, ?_⟩ <;> omega)))))) (fun h3 _ => have hD0_5 : lX6_0 a b = Lp.done i40 := Qk hI0 (condF h3 rfl); fiB true (F6 a b) (condF h1 (finD hD0_5 rfl)))) (i0.1 - 1) i0.2 (un6_0 a b i0 hi0)))) (by kernel_rfl)
theorem as6 (a : List ByteArray) (b : List ByteArray) : F6 a b = (decide (a = b)) := by
 exact Ucd (fun x y => decide (x = y)) (fun _ _ => rfl) a b (Ro a b) (fun i => by simp only [Ro, neI, neB, neS])
theorem oa6 (a : List ByteArray) (b : List ByteArray) : (S6 (decide (a = b)) a b).ok Tryz.prog 6 := by
 intro hp; have h := ok6 a b hp; rw [as6 a b] at h; exact h
def F7 (a : ConfFault) (b : ConfFault) : Bool :=
 bif (a.Line != b.Line) then false else (bif (a.Code != b.Code) then false else true)
def S7 (R : Bool) (a : ConfFault) (b : ConfFault) : Spec := ⟨[.r (.g (Ke a)), .r (.g (Ke b))], .v (.bool R), True⟩
theorem ok7 (a : ConfFault) (b : ConfFault) : (S7 (F7 a b) a b).ok Tryz.prog 7 :=
 Qj mixed (fn := Tryz.f7) (ct := .seq .no (.seq (.seq .no (.cond (.seq .no .no) .no)) (.seq (.seq .no (.cond (.seq .no .no) .no)) (.seq .no .no)))) Tryz.func7 (fun (_ : True) => ifn a.Line b.Line (fun h1 _ => fiB false (F7 a b) (condT h1 rfl)) (fun h1 _ => ifn a.Code b.Code (fun h2 _ => fiB false (F7 a b) (condF h1 (condT h2 rfl))) (fun h2 _ => fiB true (F7 a b) (condF h1 (condF h2 rfl))))) (by kernel_rfl)
theorem as7 (a : ConfFault) (b : ConfFault) : F7 a b = (decide (a = b)) := by
 cases a; cases b
 simp only [F7, ConfFault.mk.injEq, neI, neB, neS, eqstep, Bool.decide_and, Bool.and_true]
theorem oa7 (a : ConfFault) (b : ConfFault) : (S7 (decide (a = b)) a b).ok Tryz.prog 7 := by
 intro hp; have h := ok7 a b hp; rw [as7 a b] at h; exact h
theorem kc4 (text : ByteArray) {K_ : Prop} (p0_ : text.size ≤ 1048576) (k_ : K_) : (text.size ≤ 1048576) ∧ (Imp (.v (.string text)) (.v (.string text))) ∧ K_ := ⟨p0_, Imp.refl _, k_⟩
theorem kc5 (text : ByteArray) {K_ : Prop} (p0_ : text.size ≤ 1048576) (k_ : K_) : (text.size ≤ 1048576) ∧ (Imp (.v (.string text)) (.v (.string text))) ∧ K_ := ⟨p0_, Imp.refl _, k_⟩
abbrev kh4f (text : ByteArray) : Hint false Tryz.prog := .call 4 (S4 text) ((ok4 text).to false) none
abbrev kh5 (text : ByteArray) : Hint false Tryz.prog := .call 5 (S5 text) (ok5 text) none
theorem kc6a (a : List ByteArray) (b : List ByteArray) {K_ : Prop} (k_ : K_) : (True) ∧ (Imp (.l 1 eStr a) (.l 1 eStr a)) ∧ (Imp (.l 1 eStr b) (.l 1 eStr b)) ∧ K_ := ⟨trivial, Imp.refl _, Imp.refl _, k_⟩
abbrev kh6af (a : List ByteArray) (b : List ByteArray) : Hint false Tryz.prog := .call 6 (S6 (decide (a = b)) a b) ((oa6 a b).to false) none
theorem kg7a {K_ : Prop} (c_ b_ : Bool) (a : ConfFault) (b : ConfFault) (k_ : K_) : (c_ = b_ → True) ∧ (c_ = b_ → Imps (Ke a) (Ke a)) ∧ (c_ = b_ → Imps (Ke b) (Ke b)) ∧ K_ := ⟨fun _ => trivial, fun _ => Imps.refl _, fun _ => Imps.refl _, k_⟩
abbrev kh7af (a : ConfFault) (b : ConfFault) : Hint false Tryz.prog := .call 7 (S7 (decide (a = b)) a b) ((oa7 a b).to false) none
theorem kc8 (a : List ByteArray) (k : Int) {K_ : Prop} (p0_ : 0 ≤ k) (p1_ : k + (a.length : Int) ≤ 1000000000) (k_ : ((F8 a k).1 = k + (a.length : Int)) → ((F8 a k).2.length = a.length) → K_) : (0 ≤ k ∧ k + (a.length : Int) ≤ 1000000000) ∧ (Imp (.l 1 eStr a) (.l 1 eStr a)) ∧ (Imp (.v (vI k)) (.v (vI k))) ∧ K_ := ⟨⟨p0_, p1_⟩, Imp.refl _, Imp.refl _, k_ (Qsk a k) (g8_0 a k)⟩
abbrev kh8f (a : List ByteArray) (k : Int) : Hint false Tryz.prog := .call 8 (S8 a k) ((ok8 a k).to false) none
theorem kc9 (a : List ByteArray) (k : Int) {K_ : Prop} (p0_ : 0 ≤ k) (p1_ : k + (a.length : Int) ≤ 1000000000) (k_ : K_) : (0 ≤ k ∧ k + (a.length : Int) ≤ 1000000000) ∧ (Imp (.l 1 eStr a) (.l 1 eStr a)) ∧ (Imp (.v (vI k)) (.v (vI k))) ∧ K_ := ⟨⟨p0_, p1_⟩, Imp.refl _, Imp.refl _, k_⟩
abbrev kh9f (a : List ByteArray) (k : Int) : Hint false Tryz.prog := .call 9 (S9 a k) ((ok9 a k).to false) none
def F3 (aText : ByteArray) : Bool :=
 bif (decide ((aText.size : Int) > 1048576)) then true else (bif (bif (!(decide (((F5 aText).1) = ((F4 aText).1)))) then true else (!(decide (((F5 aText).2) = ((F4 aText).2))))) then false else (bif (decide ((F9 ((F8 ((F5 aText).1) 1).2) 1) < 0)) then false else (bif ((F9 ((F8 ((F5 aText).1) 1).2) 1) != (F8 ((F5 aText).1) 1).1) then false else (bif (bif (!(decide (((F5 aText).1) = ((F4 aText).1)))) then true else (!(decide (((F5 aText).2) = ((F4 aText).2))))) then false else (bif (decide ((F9 ((F8 ((F5 aText).1) 1).2) 1) < 0)) then false else (bif ((F9 ((F8 ((F5 aText).1) 1).2) 1) != (F8 ((F5 aText).1) 1).1) then false else true))))))
def S3 (aText : ByteArray) : Spec := ⟨[.r (.c (.v (.string aText)))], .v (.bool (F3 aText)), True⟩
theorem ok3 (aText : ByteArray) : (S3 aText).ok Tryz.prog 3 false :=
 Qj mixed (fn := Tryz.f3) (ct := .seq .no (.seq (.seq .no (.cond (.seq .no .no) .no)) (.seq (.reg [(1, kh4f aText)]) (.seq (.reg [(1, kh5 aText)]) (.seq (.seq (.reg [(2, kh6af ((F5 aText).1) ((F4 aText).1)), (7, kh7af ((F5 aText).2) ((F4 aText).2))]) (.cond (.seq .no .no) .no)) (.seq .no (.seq (.reg [(2, kh8f ((F5 aText).1) 1)]) (.seq .no (.seq (.reg [(2, kh9f ((F8 ((F5 aText).1) 1).2) 1)]) (.seq (.seq .no (.cond (.seq .no .no) .no)) (.seq (.seq .no (.cond (.seq .no .no) .no)) (.seq (.reg [(1, kh5 aText)]) (.seq (.seq (.reg [(2, kh6af ((F5 aText).1) ((F4 aText).1)), (7, kh7af ((F5 aText).2) ((F4 aText).2))]) (.cond (.seq .no .no) .no)) (.seq .no (.seq (.reg [(2, kh9f ((F8 ((F5 aText).1) 1).2) 1)]) (.seq (.seq .no (.cond (.seq .no .no) .no)) (.seq (.seq .no (.cond (.seq .no .no) .no)) (.seq .no .no)))))))))))))))))) Tryz.func3 (fun (_ : True) => ifd ((aText.size : Int) > 1048576) (fun h1 _ => fiB true (F3 aText) (condT h1 rfl)) (fun h1 _ => kc4 aText (by omega) (have gv2 : (F4 aText).1.length ≤ 16 := (by exact Mo _); kc5 aText (by omega) (have gv3 : (F5 aText).1.length ≤ 16 := (by exact Qbg _); kc6a ((F5 aText).1) ((F4 aText).1) (kg7a (!(decide (((F5 aText).1) = ((F4 aText).1)))) false ((F5 aText).2) ((F4 aText).2) (ifb (bif (!(decide (((F5 aText).1) = ((F4 aText).1)))) then true else (!(decide (((F5 aText).2) = ((F4 aText).2))))) (fun h5 => fiB false (F3 aText) (condF h1 (condT h5 rfl))) (fun h5 => have _ := of_decide_eq_true (Uw (orF1 h5)); have _ := of_decide_eq_true (Uw (orF2 h5)); kc8 ((F5 aText).1) 1 (by omega) (by omega) (fun gv6 gv7 => kc9 ((F8 ((F5 aText).1) 1).2) 1 (by omega) (by omega) (ifd ((F9 ((F8 ((F5 aText).1) 1).2) 1) < 0) (fun h8 _ => fiB false (F3 aText) (condF h1 (condF h5 (condT h8 rfl)))) (fun h8 _ => ifn (F9 ((F8 ((F5 aText).1) 1).2) 1) ((F8 ((F5 aText).1) 1).1) (fun h9 _ => fiB false (F3 aText) (condF h1 (condF h5 (condF h8 (condT h9 rfl))))) (fun h9 _ => kc5 aText (by omega) (have gv10 : (F5 aText).1.length ≤ 16 := (by exact Qbg _); kc6a ((F5 aText).1) ((F4 aText).1) (kg7a (!(decide (((F5 aText).1) = ((F4 aText).1)))) false ((F5 aText).2) ((F4 aText).2) (ifb (bif (!(decide (((F5 aText).1) = ((F4 aText).1)))) then true else (!(decide (((F5 aText).2) = ((F4 aText).2))))) (fun h12 => fiB false (F3 aText) (condF h1 (condF h5 (condF h8 (condF h9 (condT h12 rfl)))))) (fun h12 => have _ := of_decide_eq_true (Uw (orF1 h12)); have _ := of_decide_eq_true (Uw (orF2 h12)); kc9 ((F8 ((F5 aText).1) 1).2) 1 (by omega) (by omega) (ifd ((F9 ((F8 ((F5 aText).1) 1).2) 1) < 0) (fun h13 _ => fiB false (F3 aText) (condF h1 (condF h5 (condF h8 (condF h9 (condF h12 (condT h13 rfl))))))) (fun h13 _ => ifn (F9 ((F8 ((F5 aText).1) 1).2) 1) ((F8 ((F5 aText).1) 1).1) (fun h14 _ => fiB false (F3 aText) (condF h1 (condF h5 (condF h8 (condF h9 (condF h12 (condF h13 (condT h14 rfl)))))))) (fun h14 _ => fiB true (F3 aText) (condF h1 (condF h5 (condF h8 (condF h9 (condF h12 (condF h13 (condF h14 rfl))))))))))))))))))))))))) (by kernel_rfl)
theorem Ucz (t : ByteArray) : F3 t = true := by
 unfold F3
 rw [Re]
 have hd := Mo t
 generalize F4 t = w at hd
 obtain ⟨m1, m2⟩ := marked w.1 (by omega)
 rw [m1, m2, decide_eq_false (show ¬ 1 + (w.1.length : Int) < 0 by omega)]
 simp
end Go.Proofs.YtbaholefcgacpaaGreatDoor
namespace Go.Proofs.YtbaholefcgacpaaGreatDoor
open Go Go.RowKit Go.ChangeShapes Go.WideShapes Go.ChangeAt
set_option maxRecDepth 100000
set_option linter.unusedVariables false
theorem op_9 : OpD Tryz.prog 9 eStr := OpD.str Tryz.underlying9
theorem own : ownKnob Tryz.prog.godebug = none := by kernel_rfl
theorem cfA : Tryz.prog.inPlace 3 = Rows.fnExactConfParseRow.inPlace := by kernel_rfl
theorem cfB : Tryz.prog.unfollowed 3 = Rows.fnExactConfParseRow.unfollowed := by kernel_rfl
theorem cfC : Tryz.prog.recurses 3 = Rows.fnExactConfParseRow.recurses := by kernel_rfl
theorem cfD : Tryz.prog.varsNamed 3 = Rows.fnExactConfParseRow.named := by kernel_rfl
set_option maxRecDepth 100000 in
def putC (cs : Array Value) : Obj → Obj
 | .cells _ t fz => .cells cs t fz
 | o => o
noncomputable def Na (os : Os) : World :=
 let w := World.holding Tryz.prog os ⟨#[.cells #[.string ⟨#[118, 97, 108, 117, 101, 32, 111, 117, 116, 32, 111, 102, 32, 114, 97, 110, 103, 101]⟩] 171, .cells #[.string ⟨#[105, 110, 118, 97, 108, 105, 100, 32, 115, 121, 110, 116, 97, 120]⟩] 171], #[], []⟩
 { w with heap := (((((((w.heap.modify ((Tryz.prog.globalNamed "math/bits.deBruijn32tab").getD 0) (putC #[(.int .u8 0), (.int .u8 1), (.int .u8 28), (.int .u8 2), (.int .u8 29), (.int .u8 14), (.int .u8 24), (.int .u8 3), (.int .u8 30), (.int .u8 22), (.int .u8 20), (.int .u8 15), (.int .u8 25), (.int .u8 17), (.int .u8 4), (.int .u8 8), (.int .u8 31), (.int .u8 27), (.int .u8 13), (.int .u8 23), (.int .u8 21), (.int .u8 19), (.int .u8 16), (.int .u8 7), (.int .u8 26), (.int .u8 12), (.int .u8 18), (.int .u8 6), (.int .u8 11), (.int .u8 5), (.int .u8 10), (.int .u8 9)])).modify ((Tryz.prog.globalNamed "math/bits.deBruijn64tab").getD 0) (putC #[(.int .u8 0), (.int .u8 1), (.int .u8 56), (.int .u8 2), (.int .u8 57), (.int .u8 49), (.int .u8 28), (.int .u8 3), (.int .u8 61), (.int .u8 58), (.int .u8 42), (.int .u8 50), (.int .u8 38), (.int .u8 29), (.int .u8 17), (.int .u8 4), (.int .u8 62), (.int .u8 47), (.int .u8 59), (.int .u8 36), (.int .u8 45), (.int .u8 43), (.int .u8 51), (.int .u8 22), (.int .u8 53), (.int .u8 39), (.int .u8 33), (.int .u8 30), (.int .u8 24), (.int .u8 18), (.int .u8 12), (.int .u8 5), (.int .u8 63), (.int .u8 55), (.int .u8 48), (.int .u8 27), (.int .u8 60), (.int .u8 41), (.int .u8 37), (.int .u8 16), (.int .u8 46), (.int .u8 35), (.int .u8 44), (.int .u8 21), (.int .u8 52), (.int .u8 32), (.int .u8 23), (.int .u8 11), (.int .u8 54), (.int .u8 26), (.int .u8 40), (.int .u8 15), (.int .u8 34), (.int .u8 20), (.int .u8 31), (.int .u8 10), (.int .u8 25), (.int .u8 14), (.int .u8 19), (.int .u8 9), (.int .u8 13), (.int .u8 8), (.int .u8 7), (.int .u8 6)])).modify ((Tryz.prog.globalNamed "internal/strconv.uint64pow10").getD 0) (putC #[(.int .u64 1), (.int .u64 10), (.int .u64 100), (.int .u64 1000), (.int .u64 10000), (.int .u64 100000), (.int .u64 1000000), (.int .u64 10000000), (.int .u64 100000000), (.int .u64 1000000000), (.int .u64 10000000000), (.int .u64 100000000000), (.int .u64 1000000000000), (.int .u64 10000000000000), (.int .u64 100000000000000), (.int .u64 1000000000000000), (.int .u64 10000000000000000), (.int .u64 100000000000000000), (.int .u64 1000000000000000000), (.int .u64 10000000000000000000)])).modify ((Tryz.prog.globalNamed "unicode/utf8.acceptRanges").getD 0) (putC #[(.int .u8 128), (.int .u8 191), (.int .u8 160), (.int .u8 191), (.int .u8 128), (.int .u8 159), (.int .u8 144), (.int .u8 191), (.int .u8 128), (.int .u8 143), (.int .u8 0), (.int .u8 0), (.int .u8 0), (.int .u8 0), (.int .u8 0), (.int .u8 0), (.int .u8 0), (.int .u8 0), (.int .u8 0), (.int .u8 0), (.int .u8 0), (.int .u8 0), (.int .u8 0), (.int .u8 0), (.int .u8 0), (.int .u8 0), (.int .u8 0), (.int .u8 0), (.int .u8 0), (.int .u8 0), (.int .u8 0), (.int .u8 0)])).modify ((Tryz.prog.globalNamed "strconv.ErrRange").getD 0) (putC #[.iface 169 (.pointer (some ⟨Tryz.prog.low + 0, 0, none⟩))])).modify ((Tryz.prog.globalNamed "strconv.ErrSyntax").getD 0) (putC #[.iface 169 (.pointer (some ⟨Tryz.prog.low + 1, 0, none⟩))])).modify ((Tryz.prog.globalNamed "unicode/utf8.first").getD 0) (putC ((Go.Pinned.utf8FirstZ.map fun n => Value.int .u8 (n : Nat)).toArray))) }
theorem Qzd (os : Os) : laidMet Tryz.prog Rows.fnExactConfParseRow.laid ((Na os).forCall (fun _ _ => 0) ⟨#[], #[.string (⟨#[]⟩ : ByteArray)], []⟩).memory :=
 laidMet_of_run3 8 (by kernel_rfl) (by kernel_rfl) (by kernel_rfl)
theorem reads (os : Os) {H : Type} (enc : TypeId × Value → H) : ∃ Be, DataW.whole enc Tryz.prog ((Na os).forCall (fun _ _ => 0) ⟨#[], #[.string (⟨#[]⟩ : ByteArray)], []⟩).memory Tryz.f3.params.toList Rows.fnExactConfParseSpec.vars false #[.string (⟨#[]⟩ : ByteArray)].toList 8 = some ([.lit (.string [])], [], Be) :=
 ⟨[], by kernel_rfl⟩
theorem Qgu {W : World} {l : List (String × DataW Unit)} (h : laidMet Tryz.prog l W) {n tn : String} {d : DataW Unit} (hm : (n, .iface tn d) ∈ l) {g : Nat} (hg : Tryz.prog.globalNamed n = some g) (ht : (Tryz.prog.globals[g]?).map (·.type) = some 120) :
  ∃ e, W.cell? ⟨g, 0, none⟩ = some e ∧ (e = .nilIface ∨ ∃ te pe, e = .iface te pe) := by
 obtain ⟨g', t', cs, fuel, p, h1, h2, h3, h4⟩ := Lib.laidMet.reads h hm
 obtain rfl := Option.some.inj (hg.symm.trans h1)
 obtain rfl := Option.some.inj (ht.symm.trans h2)
 have hc : ∀ i, W.cell? ⟨g, i, none⟩ = cs[i]? := fun i => by
  unfold World.var? at h3
  rw [hg] at h3
  simp only [Option.bind_some] at h3
  split at h3
  ·rename_i c _ _ hh
   simp only [Option.some.injEq] at h3
   subst h3
   simp [World.cell?, hh]
  ·cases h3
 cases fuel with
 | zero => simp [DataW.trod] at h4
 | succ fuel =>
  simp only [DataW.trod, Tryz.underlying120] at h4
  split at h4 <;> first
   | (cases h4; done)
   | (rename_i hcs; refine ⟨_, (hc 0).trans (by rw [← Array.getElem?_toList, hcs]; rfl), ?_⟩; first | exact .inl rfl | exact .inr ⟨_, _, rfl⟩)
   | (simp at h4; done)
   | (exfalso; simp_all; done)
theorem lifted (os : Os) (started : os.Started) (H : Type) (enc : TypeId × Value → H) (F : Stop.Interp) :
  ReturnsInHanded {} Tryz.checked os 3 .any ((OpenSpec.ofChange Rows.fnExactConfParseSpec).preRow enc Tryz.prog Tryz.f3 Rows.fnExactConfParseRow.domain false Rows.fnExactConfParseRow.laid) (((OpenSpec.ofChange Rows.fnExactConfParseSpec).at F).post enc Tryz.prog Tryz.f3 false true false false) := by
 obtain ⟨Be, hx⟩ := reads os enc
 refine returnsInHanded_of_row (C := Tryz.checked) (s := OpenSpec.ofChange Rows.fnExactConfParseSpec) own started (by kernel_rfl) Tryz.func3
  (witness_row_at (enc := enc) (C := Tryz.checked) false (Na os) #[.string (⟨#[]⟩ : ByteArray)] rfl (by kernel_rfl) (by kernel_rfl) (by kernel_rfl)
   (OpenSpec.preRow_of_cond 8 hx (by kernel_rfl) (fun k hk => by cases hk) (by kernel_rfl) (Qzd os))) ?_
 intro W base args ds gs before hval0 hW hcnd _ _ hL hsh _
 have hL' : laidMet Tryz.prog Rows.fnExactConfParseRow.laid W := by
  have h0 := hL
  unfold laidMetH at h0
  rw [show (Rows.fnExactConfParseRow.laid.filter fun x => x.2.handleName?.isSome) = [] from by kernel_rfl] at h0
  exact h0
 have hval : ∀ (j : Nat) t v, Tryz.f3.params[j]? = some t → args[j]? = some v → Value.okWide Tryz.prog W .any base t v := hval0
 have hW' := hW
 obtain ⟨p, q, hA0, hV, rfl, hfz, hnd⟩ := hW
 have hA : DataW.TrodAll enc Tryz.prog W 0 (fun _ => true) true Tryz.f3.params.toList args.toList ds p := hA0
 rw [Tryz.params3] at hA hval
 obtain ⟨v0, vs0, d0, ds0, p0, q0, hargs, rfl, rfl, h0, r0⟩ := trodAll_cons hA
 obtain ⟨rfl, rfl, rfl⟩ := trodAll_nil r0
 obtain rfl : args = #[v0] := by cases args; simp_all
 obtain ⟨rfl, rfl⟩ := trodVars_none hV
 obtain ⟨fu0, t0⟩ := h0
 obtain ⟨x0, rfl⟩ := okWide_string Tryz.underlying9 (hval 0 9 v0 rfl rfl)
 have hG : GP W := ⟨fun b hb => by
  simp only [GBe, List.nil_append, List.cons_append, List.mem_cons, List.not_mem_nil, or_false] at hb
  rcases hb with rfl | rfl
  ·exact Qgu hL' (n := "strconv.ErrSyntax") (by unfold Rows.fnExactConfParseRow; exact List.mem_cons_of_mem _ (List.mem_cons_of_mem _ (List.mem_cons_of_mem _ (List.mem_cons_of_mem _ (List.mem_cons_of_mem _ (List.mem_cons_self)))))) (show Tryz.prog.globalNamed "strconv.ErrSyntax" = some ((Tryz.prog.globalNamed "strconv.ErrSyntax").getD 0) from by kernel_rfl) (by kernel_rfl)
  ·exact Qgu hL' (n := "strconv.ErrRange") (by unfold Rows.fnExactConfParseRow; exact List.mem_cons_of_mem _ (List.mem_cons_of_mem _ (List.mem_cons_of_mem _ (List.mem_cons_of_mem _ (List.mem_cons_self))))) (show Tryz.prog.globalNamed "strconv.ErrRange" = some ((Tryz.prog.globalNamed "strconv.ErrRange").getD 0) from by kernel_rfl) (by kernel_rfl), fun b hb => by simp only [GBi, List.nil_append, List.mem_cons, List.not_mem_nil, or_false] at hb; subst hb; exact layCutM.s1_3 W hsh, fun q hq => by
  simp only [GBt, List.nil_append, List.mem_cons, List.not_mem_nil, or_false] at hq
  subst hq
  obtain ⟨g', t', cs, fuel, p, h1, h2, h3, h4⟩ := Lib.laidMet.reads hL' (n := "internal/strconv.uint64pow10") (by unfold Rows.fnExactConfParseRow; exact List.mem_cons_of_mem _ (List.mem_cons_of_mem _ (List.mem_cons_self)))
  obtain rfl := Option.some.inj ((show Tryz.prog.globalNamed "internal/strconv.uint64pow10" = some ((Tryz.prog.globalNamed "internal/strconv.uint64pow10").getD 0) from by kernel_rfl).symm.trans h1)
  obtain rfl := Option.some.inj ((show (Tryz.prog.globals[(Tryz.prog.globalNamed "internal/strconv.uint64pow10").getD 0]?).map (·.type) = some 173 from by kernel_rfl).symm.trans h2)
  have hc := Lib.cells_of_tab (k := .u64) (zs := Lib.pow10Tab) Tryz.underlying173 Tryz.underlying94 (by kernel_rfl) (by kernel_rfl) h4
  unfold World.var? at h3
  rw [(show Tryz.prog.globalNamed "internal/strconv.uint64pow10" = some ((Tryz.prog.globalNamed "internal/strconv.uint64pow10").getD 0) from by kernel_rfl)] at h3
  simp only [Option.bind_some] at h3
  split at h3
  ·rename_i c T fz hh
   simp only [Option.some.injEq] at h3
   subst h3
   exact ⟨T, fz, hh.trans (by congr 1; congr 1; exact Array.ext' (by simpa using hc))⟩
  ·cases h3⟩
 have hc := Qth (W := W) (vs := [.string x0]) (ok3 x0) trivial (x := .bool (F3 x0)) hG ⟨_, _, [], [], rfl, ⟨⟨rfl, rfl⟩, rfl⟩, ⟨rfl, rfl⟩, rfl, List.nodup_nil⟩ rfl rfl
 rw [Ucz x0] at hc
 refine hc.mono fun e W' ⟨he, hb⟩ => ?_
 subst he
 exact ⟨_, rfl, Qzt rfl hW' hb rfl Tryz.underlying4 rfl rfl rfl laid (by decide +kernel)⟩
theorem said_FnExactConfParse : Rows.FnExactConfParseSaid :=
 OpenClaim.holds_of_cond 3 Tryz.f3 rfl rfl rfl rfl rfl rfl rfl ⟨rfl, rfl, rfl, rfl, rfl⟩ rfl rfl rfl rfl rfl (by kernel_rfl) Tryz.func3 (by
   show joinedFacts Tryz.prog 3 Tryz.f3 (OpenSpec.ofChange Rows.fnExactConfParseSpec).bare Rows.fnExactConfParseRow = true
   simp only [joinedFacts, laid, cfMaps, cfKeys, Ucu, Uay, Udl, cfMake, cfA, cfB, cfC, cfD, Bool.and_true]
   kernel_rfl)
  (of_decide_eq_true (by kernel_rfl)) (by unfold Func.isWrapper; first | (rw [if_pos (by decide +kernel)]; kernel_rfl) | (rw [if_neg (by decide +kernel)]; exact ⟨rfl, rfl⟩))
  (fun os started H enc _ F => by rw [OpenClaim.pre_eq_preRow]; exact lifted os started H enc F)
theorem Qrb (f : FuncId) (fn : Func) (hf : Tryz.pinned.checked.prog.funcNamed "loop.example/tern/laws.FnExactConfParse" = some f) (hfn : Tryz.pinned.checked.prog.funcs[f]? = some fn) :
  true = Tryz.pinned.checked.prog.looks [] ∧ ∀ (j : Nat) t, fn.params[j]? = some t → Tryz.pinned.checked.prog.wantsStandIn t = false := by
 obtain rfl : f = 3 := Option.some.inj ((show Tryz.prog.funcNamed "loop.example/tern/laws.FnExactConfParse" = some 3 by kernel_rfl).symm.trans hf) |>.symm
 obtain rfl : fn = Tryz.f3 := (Option.some.inj (Tryz.func3.symm.trans hfn)).symm
 refine ⟨by kernel_rfl, fun j t ht => ?_⟩
 rw [Tryz.params3] at ht
 have hm := Array.mem_of_getElem? ht
 simp only [List.mem_toArray, List.mem_cons, List.not_mem_nil, or_false] at hm
 first | (obtain rfl := hm; exact (show Tryz.prog.wantsStandIn 9 = false by kernel_rfl))
theorem card_wf : Rows.fnExactConfParseRow.wfByText (OpenSpec.ofChange Rows.fnExactConfParseSpec) = true := by kernel_rfl
theorem card_main : Tryz.prog.mainIs = some (Rows.fnExactConfParseCard.stood.harness.1, Rows.fnExactConfParseCard.stood.harness.2.toList) := by kernel_rfl
theorem card_goes : false = Rows.fnExactConfParseRow.goesBy Tryz.prog := by kernel_rfl
theorem proved_FnExactConfParse : Rows.FnExactConfParseCardSaid :=
 Claim7.holds_tied_plain_at .later [] _ _ _ _ said_FnExactConfParse (fun _ h => by cases h) card_wf (fun _ h => by cases h) fnExactConfParse_row_tie rfl ⟨rfl, rfl⟩ card_main rfl Qrb card_goes
#print axioms proved_FnExactConfParse
end Go.Proofs.YtbaholefcgacpaaGreatDoor
