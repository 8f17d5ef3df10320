/- A part of the proof of FnExactConfParse. Texts put together: VCKA, PCKB, VCKC, VCKD, PCE0, PCE1, PCE2, PCHA, VCH, PCH, VSZ, PSZ, PSO, VMKR, PMKR, PPX, PPA0. -/
import Derived.Test.YtbaholefcgacpaaGreatDoorRows
import Derived.Test.YtbaholefcgacpaaGreatDoorZC36D
namespace Go.Proofs.YtbaholefcgacpaaGreatDoor
open Go.RowKit
set_option maxRecDepth 100000
set_option linter.unusedVariables false
set_option linter.unusedSimpArgs false
theorem Ls (lines : List ByteArray) (word : ByteArray) {K_ : Prop} (p0_ : lines.length ≤ 1048576) (p1_ : ∀ k : Nat, (lines.getD k default).size ≤ 1048576) (q0_ : lines.length ≤ 16) (k_ : ((Qa lines word).length ≤ 16) → K_) : (lines.length ≤ 1048576 ∧ (∀ k : Nat, (lines.getD k default).size ≤ 1048576)) ∧ (Imp (.l 1 eStr lines) (.l 1 eStr lines)) ∧ (Imp (.v (.string word)) (.v (.string word))) ∧ K_ := ⟨⟨p0_, p1_⟩, Imp.refl _, Imp.refl _, k_ (Qmd lines word q0_)⟩
abbrev kh85a (lines : List ByteArray) (word : ByteArray) : Hint true Tryz.prog := .call 85 (T85 (Qa lines word) lines word) (oa85 lines word) none
abbrev Bj (lines : List ByteArray) (word : ByteArray) : Hint false Tryz.prog := .call 85 (T85 (Qa lines word) lines word) ((oa85 lines word).to false) none
def Xh (lines : List ByteArray) : (List Qb × Int) → Lp (List Qb × Int) (List Qb) := fun (out, v12) =>
 bif (decide (v12 < ((Qa lines (⟨#[112, 111, 114, 116]⟩ : ByteArray)).length : Int))) then (.next ((out ++ [((F96 (((Qa lines (⟨#[112, 111, 114, 116]⟩ : ByteArray)).getD (Int.toNat v12) default).getD (Int.toNat 2) default)).1)]), (v12 + 1))) else (.done (out, v12))
def F89 (lines : List ByteArray) : List Qb :=
 (runL (Xh lines) ((Int.toNat (((Qa lines (⟨#[112, 111, 114, 116]⟩ : ByteArray)).length : Int) - 0)) + 1) (([] : List Qb), 0)).fin (fun r => r) (fun (out, v12) => out)
abbrev Ps (lines : List ByteArray) : Nat × (List Qb × Int) := (((Int.toNat (((Qa lines (⟨#[112, 111, 114, 116]⟩ : ByteArray)).length : Int) - 0)) + 1), (([] : List Qb), 0))
abbrev Qln (lines : List ByteArray) (m39 : Nat) (out : List Qb) (v12 : Int) : Prop := Int.toNat (((Qa lines (⟨#[112, 111, 114, 116]⟩ : ByteArray)).length : Int) - v12) < m39 ∧ (out.length : Int) ≤ v12 ∧ (0 : Int) ≤ v12
abbrev Uah (lines : List ByteArray) : Lp (List Qb × Int) (List Qb) := LpX (Xh lines) (Ps lines)
abbrev Qag (lines : List ByteArray) (i : Nat × (List Qb × Int)) : Prop := LpJ (Xh lines) (Ps lines) i (Qln lines i.1 i.2.1 i.2.2)
abbrev Qug (lines : List ByteArray) (i : Nat × (List Qb × Int)) (m39 : Nat) (out : List Qb) (v12 : Int) : Prop := LpH (Xh lines) (Ps lines) i m39 (out, v12) (Qln lines (m39 + 1) out v12)
abbrev Qrr (lines : List ByteArray) (out : List Qb) (v12 : Int) (out_ : List Qb) (v12_ : Int) (K39 : Prop) : Prop := (Rf (.int .i64 ((Qa lines (⟨#[112, 111, 114, 116]⟩ : ByteArray)).length : Int))) ∧ ((.int .i64 v12 : Value) = .int .i64 v12_) ∧ (Imp (.l 2 Qg out) (.l 2 Qg out_)) ∧ (Im (.l 1 (eL 1 eStr) (Qa lines (⟨#[112, 111, 114, 116]⟩ : ByteArray)))) ∧ K39
theorem un89_0 (lines : List ByteArray) (i : Nat × (List Qb × Int)) (h : Qag lines i) : Qug lines i (i.1 - 1) i.2.1 i.2.2 := ⟨hd1 h.1 h.2.1, hd3 h.2.1, hd2 h.2.1, h.2.2⟩
theorem bk89_0 (lines : List ByteArray) (i : Nat × (List Qb × Int)) (m39 : Nat) (out : List Qb) (v12 : Int) (hl : m39 < i.1) (e : runL (Xh lines) m39 (out, v12) = Uah lines) (h : Qln lines m39 out v12) : ∃ j : Nat × (List Qb × Int), Qrr lines out v12 j.2.1 j.2.2 (Qag lines j ∧ j.1 < i.1) := ⟨(m39, (out, v12)), rfl, rfl, Imp.refl _, Imp.refl _, ⟨e, h⟩, hl⟩
theorem en89_0 (lines : List ByteArray) (h : (([] : List Qb).length : Int) ≤ 0 ∧ (0 : Int) ≤ 0) : Qrr lines ([] : List Qb) 0 ([] : List Qb) 0 (Qag lines (Ps lines)) := ⟨rfl, rfl, Imp.refl _, Imp.refl _, rfl, Nat.lt_succ_self _, h⟩
theorem fi89 (lines : List ByteArray) (r : List Qb) (hF : r = (F89 lines)) : (Imp (.l 2 Qg r) (.l 2 Qg (F89 lines))) ∧ True := by cases hF; exact ⟨Imp.refl _, trivial⟩
def S89 (R : List Qb) (lines : List ByteArray) : Spec := ⟨[.r (.c (.l 1 eStr lines))], .ow (.l 2 Qg R), F25 lines = 0 ∧ lines.length ≤ 16 ∧ (∀ k : Nat, (lines.getD k default).size ≤ 1048576)⟩
theorem ok89 (lines : List ByteArray) : (S89 (F89 lines) lines).ok Tryz.prog 89 false :=
 Qj mixed (fn := Tryz.f89) (ct := .seqk [(0, 0)] .no (.seq (.reg [(0, .dat (.l 2 Qg ([] : List Qb)))]) (.seq (.seqk [(3, 0), (10, 0)] (.reg [(1, Bj lines (⟨#[112, 111, 114, 116]⟩ : ByteArray))]) (.blk (.loop (ι := Nat × (List Qb × Int)) (fun i => (fun (out : List Qb) (v12 : Int) => (⟨[(3, some (.h 0 0)), (10, some (.h 1 0)), (11, some (.v (vI ((Qa lines (⟨#[112, 111, 114, 116]⟩ : ByteArray)).length : Int)))), (12, some (.v (vI v12)))], [(0, some (.own 0 (.l 2 Qg out))), (1, some (.own 1 (.l 1 (eL 1 eStr) (Qa lines (⟨#[112, 111, 114, 116]⟩ : ByteArray)))))], 2⟩ : St)) i.2.1 i.2.2) (Qag lines) (fun i => i.1) (Ps lines) (fun i => (fun (out : List Qb) (v12 : Int) => (.seq .no (.seq (.cond .no .no) (.seq (.blk (.seq .no (.seq (.reg [(3, kh96 (((Qa lines (⟨#[112, 111, 114, 116]⟩ : ByteArray)).getD (Int.toNat v12) default).getD (Int.toNat 2) default))]) (.reg [(3, .dat (.l 2 Qg (out ++ [((F96 (((Qa lines (⟨#[112, 111, 114, 116]⟩ : ByteArray)).getD (Int.toNat v12) default).getD (Int.toNat 2) default)).1)])))])))) (.reg [(0, .bnd)]))))) i.2.1 i.2.2)))) (.seq .no .no)))) Tryz.func89 (fun (hp : F25 lines = 0 ∧ lines.length ≤ 16 ∧ (∀ k : Nat, (lines.getD k default).size ≤ 1048576)) => have hpre0 := hp.1; have hpre1 := hp.2.1; have hpre2 := hp.2.2; kn lines fun _ => ai (bokr 2 Qg ([] : List Qb) fun _ => rfl) (Ls lines (⟨#[112, 111, 114, 116]⟩ : ByteArray) (by first | omega | (simp only [lens, ib] at * <;> omega)) (by first | assumption | exact hpre2 _ | exact fun k _ => hpre2 k | (intros; exact trivial) | (intros; exact Nat.zero_le _)) (by first | omega | (simp only [lens, ib] at * <;> omega)) (fun gv1 => kn ([] : List Qb) fun _ => kn (Qa lines (⟨#[112, 111, 114, 116]⟩ : ByteArray)) fun _ => ai (en89_0 lines (by refine ⟨?_, ?_⟩ <;> first | omega | (simp only [lens, ib] at * <;> omega))) (fun (i0 : Nat × (List Qb × Int)) (hi0 : Qag lines i0) => (fun (m0 : Nat) (out : List Qb) (v12 : Int) (hh0 : Qug lines i0 m0 out v12) => have hI0 := hh0.1; have hl0 := hh0.2.1; have _ := hh0.2.2.1; have _ := hh0.2.2.2; ifd (v12 < ((Qa lines (⟨#[112, 111, 114, 116]⟩ : ByteArray)).length : Int)) (fun h3 _ => ai (by (first | omega | (have h9 := Qou lines (by first | omega | (simp only [lens, ib] at * <;> omega)) (Int.toNat v12) (by first | omega | (simp only [lens, ib] at * <;> omega)); unfold Wk at h9; omega)) : 0 ≤ v12 ∧ v12 < ((Qa lines (⟨#[112, 111, 114, 116]⟩ : ByteArray)).length : Int)) (ai (by (first | omega | (have h9 := Qou lines (by first | omega | (simp only [lens, ib] at * <;> omega)) (Int.toNat v12) (by first | omega | (simp only [lens, ib] at * <;> omega)); unfold Wk at h9; omega)) : 0 ≤ (2 : Int) ∧ (2 : Int) < (((Qa lines (⟨#[112, 111, 114, 116]⟩ : ByteArray)).getD (Int.toNat v12) default).length : Int)) (kc96 (((Qa lines (⟨#[112, 111, 114, 116]⟩ : ByteArray)).getD (Int.toNat v12) default).getD (Int.toNat 2) default) (by exact Ys lines _ (by first | omega | (simp only [lens, ib] at * <;> omega)) _ _) (ai (appr 2 Qg out [((F96 (((Qa lines (⟨#[112, 111, 114, 116]⟩ : ByteArray)).getD (Int.toNat v12) default).getD (Int.toNat 2) default)).1)] fun _ => rfl) (ai (by (try simp only [lens]); omega : (out ++ [((F96 (((Qa lines (⟨#[112, 111, 114, 116]⟩ : ByteArray)).getD (Int.toNat v12) default).getD (Int.toNat 2) default)).1)]).length * 16 ≤ 140737488355328) (ai (iok (v12 + 1) (by first | omega | (simp only [lens, ib] at * <;> omega))) (bk89_0 lines i0 m0 (out ++ [((F96 (((Qa lines (⟨#[112, 111, 114, 116]⟩ : ByteArray)).getD (Int.toNat v12) default).getD (Int.toNat 2) default)).1)]) (v12 + 1) hl0 (Qd hI0 (condT h3 rfl)) (by refine ⟨?_, ?_, ?_⟩ <;> first | omega | (simp only [lens, ib] at * <;> omega))))))))) (fun h3 _ => have hD0_4 : Uah lines = Lp.done (out, v12) := Qk hI0 (condF h3 rfl); fi89 lines out (finD hD0_4 rfl))) (i0.1 - 1) i0.2.1 i0.2.2 (un89_0 lines i0 hi0))))) (by kernel_rfl)
def F86 (w1 : List ByteArray) : Bool :=
 ((w1.getD (Int.toNat 2) default).toList == (⟨#[97, 108, 108]⟩ : ByteArray).toList)
def S86 (w1 : List ByteArray) : Spec := ⟨[.r (.c (.l 1 eStr w1))], .v (.bool (F86 w1)), Wd w1⟩
theorem ok86 (w1 : List ByteArray) : (S86 w1).ok Tryz.prog 86 :=
 Qj mixed (fn := Tryz.f86) (ct := .seqk [(0, 0)] .no (.seq .no .no)) Tryz.func86 (fun (hpre0 : Wd w1) => kn w1 fun _ => ai (by (have h9 := hpre0; unfold Wd at h9; omega) : 0 ≤ (2 : Int) ∧ (2 : Int) < (w1.length : Int)) (fiB ((w1.getD (Int.toNat 2) default).toList == (⟨#[97, 108, 108]⟩ : ByteArray).toList) (F86 w1) rfl)) (by kernel_rfl)
def Ju (Q : (List ByteArray) → Prop) (p : (List ByteArray) → Bool) : Uv := ⟨List ByteArray, fun i => [.c (.x (PX (.l 1 eStr i) (Q i)))], fun i => .bool (p i)⟩
def Bw (s : List (List ByteArray)) (f : (List ByteArray) → Bool) : Int → Lp Int Int := fun v8 =>
 bif (decide (v8 < (s.length : Int))) then (bif (f (s.getD (Int.toNat v8) default)) then (.ret v8) else (.next (v8 + 1))) else (.done v8)
def F119 (s : List (List ByteArray)) (f : (List ByteArray) → Bool) : Int :=
 (runL (Bw s f) ((Int.toNat ((s.length : Int) - 0)) + 1) 0).fin (fun r => r) (fun v8 => (-1))
abbrev Lb (s : List (List ByteArray)) : Nat × Int := (((Int.toNat ((s.length : Int) - 0)) + 1), 0)
abbrev Qet (s : List (List ByteArray)) (m39 : Nat) (v8 : Int) : Prop := Int.toNat ((s.length : Int) - v8) < m39 ∧ (0 : Int) ≤ v8
abbrev Qoj (s : List (List ByteArray)) (f : (List ByteArray) → Bool) : Lp Int Int := LpX (Bw s f) (Lb s)
abbrev Hs (s : List (List ByteArray)) (f : (List ByteArray) → Bool) (i : Nat × Int) : Prop := LpJ (Bw s f) (Lb s) i (Qet s i.1 i.2)
abbrev Qqc (s : List (List ByteArray)) (f : (List ByteArray) → Bool) (i : Nat × Int) (m39 : Nat) (v8 : Int) : Prop := LpH (Bw s f) (Lb s) i m39 v8 (Qet s (m39 + 1) v8)
abbrev Qog (Qf : (List ByteArray) → Prop) (s : List (List ByteArray)) (f : (List ByteArray) → Bool) (v8 : Int) (v8_ : Int) (K39 : Prop) : Prop := (Rf (.int .i64 (s.length : Int))) ∧ ((.int .i64 v8 : Value) = .int .i64 v8_) ∧ (Im (.l 1 (eL 1 eStr) s)) ∧ (Ju Qf f = Ju Qf f) ∧ K39
theorem Ucq (s : List (List ByteArray)) (f : (List ByteArray) → Bool) (i : Nat × Int) (h : Hs s f i) : Qqc s f i (i.1 - 1) i.2 := ⟨hd1 h.1 h.2.1, hd3 h.2.1, hd2 h.2.1, h.2.2⟩
theorem Ubl (Qf : (List ByteArray) → Prop) (s : List (List ByteArray)) (f : (List ByteArray) → Bool) (i : Nat × Int) (m39 : Nat) (v8 : Int) (hl : m39 < i.1) (e : runL (Bw s f) m39 v8 = Qoj s f) (h : Qet s m39 v8) : ∃ j : Nat × Int, Qog Qf s f v8 j.2 (Hs s f j ∧ j.1 < i.1) := ⟨(m39, v8), rfl, rfl, Imp.refl _, rfl, ⟨e, h⟩, hl⟩
theorem Ubs (Qf : (List ByteArray) → Prop) (s : List (List ByteArray)) (f : (List ByteArray) → Bool) (h : (0 : Int) ≤ 0) : Qog Qf s f 0 0 (Hs s f (Lb s)) := ⟨rfl, rfl, Imp.refl _, rfl, rfl, Nat.lt_succ_self _, h⟩
def S119 (R : Int) (s : List (List ByteArray)) (f : (List ByteArray) → Bool) (Qf : (List ByteArray) → Prop) : Spec := ⟨[.r (.c (.l 1 (eL 1 eStr) s)), .fn (Ju Qf f)], .v (vI R), (∀ k : Nat, k < s.length → Qf (s.getD k default))⟩
theorem ok119 (s : List (List ByteArray)) (f : (List ByteArray) → Bool) (Qf : (List ByteArray) → Prop) : (S119 (F119 s f) s f Qf).ok Tryz.prog 119 false :=
 Qj mixed (fn := Tryz.f119) (ct := .seqk [(0, 0)] .no (.seq (.seqk [(0, 0)] .no (.blk (.loop (ι := Nat × Int) (fun i => (fun (v8 : Int) => (⟨[(0, some (.h 0 0)), (1, some (.h 1 0)), (7, some (.v (vI (s.length : Int)))), (8, some (.v (vI v8)))], [(0, some (.shr none (.l 1 (eL 1 eStr) s))), (1, some (.fn (Ju Qf f)))], 2⟩ : St)) i.2) (Hs s f) (fun i => i.1) (Lb s) (fun i => (fun (v8 : Int) => (.seq .no (.seq (.cond .no .no) (.seq (.blk (.seq .no (.seq (.reg [(5, .fnv (Ju Qf f) (s.getD (Int.toNat v8) default))]) (.cond (.seq .no .no) .no)))) (.reg [(0, .bnd)]))))) i.2)))) (.seq .no .no))) Tryz.func119 (fun (hpre0 : ∀ k : Nat, k < s.length → Qf (s.getD k default)) => kn s fun _ => kn s fun _ => ai (Ubs Qf s f (by omega)) (fun (i0 : Nat × Int) (hi0 : Hs s f i0) => (fun (m0 : Nat) (v8 : Int) (hh0 : Qqc s f i0 m0 v8) => have hI0 := hh0.1; have hl0 := hh0.2.1; have _ := hh0.2.2.1; have _ := hh0.2.2.2; ifd (v8 < (s.length : Int)) (fun h2 _ => ai (by omega : ib v8 s) (ai (Eq.refl (Ju Qf f)) (ai (Imp.px (d := .l 1 eStr (s.getD (Int.toNat v8) default)) (hpre0 (Int.toNat v8) (by omega))) (ifb (f (s.getD (Int.toNat v8) default)) (fun h3 => fiI v8 (F119 s f) (finR (Qr hI0 (condT h2 (condT h3 rfl))) rfl)) (fun h3 => ai (iok (v8 + 1) (by omega)) (Ubl Qf s f i0 m0 (v8 + 1) hl0 (Qd hI0 (condT h2 (condF h3 rfl))) (by refine ⟨?_, ?_⟩ <;> omega))))))) (fun h2 _ => have hD0_4 : Qoj s f = Lp.done v8 := Qk hI0 (condF h2 rfl); fiI (-1) (F119 s f) (finD hD0_4 rfl))) (i0.1 - 1) i0.2 (Ucq s f i0 hi0))) (by kernel_rfl)
theorem as119 (s : List (List ByteArray)) (f : (List ByteArray) → Bool) : F119 s f = (idxI f s) := by
 exact Wl f s (Bw s f) (fun i => rfl)
theorem oa119 (s : List (List ByteArray)) (f : (List ByteArray) → Bool) (Qf : (List ByteArray) → Prop) : (S119 (idxI f s) s f Qf).ok Tryz.prog 119 false := by
 intro hp; have h := ok119 s f Qf hp; rw [as119 s f] at h; exact h
theorem g119_0 (s : List (List ByteArray)) (f : (List ByteArray) → Bool) : (idxI f s) < (s.length : Int) := by
 exact Li f s
theorem g119_1 (s : List (List ByteArray)) (f : (List ByteArray) → Bool) : -1 ≤ (idxI f s) := by
 (show -1 ≤ idxI f s; unfold idxI; cases first (fun k => f (s.getD k default)) s.length <;> simp only [oix] <;> omega)
theorem kc119a (s : List (List ByteArray)) (f : (List ByteArray) → Bool) (Qf : (List ByteArray) → Prop) {K_ : Prop} (p0_ : ∀ k : Nat, k < s.length → Qf (s.getD k default)) (k_ : ((idxI f s) < (s.length : Int)) → (-1 ≤ (idxI f s)) → K_) : (∀ k : Nat, k < s.length → Qf (s.getD k default)) ∧ (Imp (.l 1 (eL 1 eStr) s) (.l 1 (eL 1 eStr) s)) ∧ (Ju Qf f = Ju Qf f) ∧ K_ := ⟨p0_, Imp.refl _, rfl, k_ (g119_0 s f) (g119_1 s f)⟩
abbrev kh119a (s : List (List ByteArray)) (f : (List ByteArray) → Bool) (Qf : (List ByteArray) → Prop) : Hint false Tryz.prog := .call 119 (S119 (idxI f s) s f Qf) (oa119 s f Qf) none
def F84 (s : List (List ByteArray)) (f : (List ByteArray) → Bool) : Bool :=
 decide ((idxI f s) ≥ 0)
def S84 (R : Bool) (s : List (List ByteArray)) (f : (List ByteArray) → Bool) (Qf : (List ByteArray) → Prop) : Spec := ⟨[.r (.c (.l 1 (eL 1 eStr) s)), .fn (Ju Qf f)], .v (.bool R), (∀ k : Nat, k < s.length → Qf (s.getD k default))⟩
theorem ok84 (s : List (List ByteArray)) (f : (List ByteArray) → Bool) (Qf : (List ByteArray) → Prop) : (S84 (F84 s f) s f Qf).ok Tryz.prog 84 false :=
 Qj mixed (fn := Tryz.f84) (ct := .seqk [(0, 0)] .no (.seq (.reg [(2, kh119a s f Qf)]) .no)) Tryz.func84 (fun (hpre0 : ∀ k : Nat, k < s.length → Qf (s.getD k default)) => kn s fun _ => kc119a s f Qf (by assumption) (fun gv1 gv2 => fiB (decide ((idxI f s) ≥ 0)) (F84 s f) rfl)) (by kernel_rfl)
theorem as84 (s : List (List ByteArray)) (f : (List ByteArray) → Bool) : F84 s f = (s.any f) := by
 exact Lg f s
theorem oa84 (s : List (List ByteArray)) (f : (List ByteArray) → Bool) (Qf : (List ByteArray) → Prop) : (S84 (s.any f) s f Qf).ok Tryz.prog 84 false := by
 intro hp; have h := ok84 s f Qf hp; rw [as84 s f] at h; exact h
def F45 (lines : List ByteArray) : Bool :=
 (!((Qa lines (⟨#[117, 115, 101, 114]⟩ : ByteArray)).any (fun (x0 : List ByteArray) => F86 x0)))
def S45 (lines : List ByteArray) : Spec := ⟨[.r (.c (.l 1 eStr lines))], .v (.bool (F45 lines)), F25 lines = 0 ∧ lines.length ≤ 16 ∧ (∀ k : Nat, (lines.getD k default).size ≤ 1048576)⟩
theorem ok45 (lines : List ByteArray) : (S45 lines).ok Tryz.prog 45 false :=
 Qj mixed (fn := Tryz.f45) (ct := .seqk [(0, 0)] .no (.seq (.reg [(1, Bj lines (⟨#[117, 115, 101, 114]⟩ : ByteArray)), (2, .call 84 (S84 ((Qa lines (⟨#[117, 115, 101, 114]⟩ : ByteArray)).any (fun (x0 : List ByteArray) => F86 x0)) (Qa lines (⟨#[117, 115, 101, 114]⟩ : ByteArray)) (fun (x0 : List ByteArray) => F86 x0) (fun (x0 : List ByteArray) => Wd x0)) (oa84 (Qa lines (⟨#[117, 115, 101, 114]⟩ : ByteArray)) (fun (x0 : List ByteArray) => F86 x0) (fun (x0 : List ByteArray) => Wd x0)) (some ⟨true, 86, Ju (fun (x0 : List ByteArray) => Wd x0) (fun (x0 : List ByteArray) => F86 x0), [], rfl, True, fun i => Vk (ok86 i)⟩))]) .no)) Tryz.func45 (fun (hp : F25 lines = 0 ∧ lines.length ≤ 16 ∧ (∀ k : Nat, (lines.getD k default).size ≤ 1048576)) => have hpre0 := hp.1; have hpre1 := hp.2.1; have hpre2 := hp.2.2; kn lines fun _ => Ls lines (⟨#[117, 115, 101, 114]⟩ : ByteArray) (by omega) (by assumption) (by omega) (fun gv1 => ai (by exact Ucs lines (by omega) : ∀ k : Nat, k < (Qa lines (⟨#[117, 115, 101, 114]⟩ : ByteArray)).length → (fun (x0 : List ByteArray) => Wd x0) ((Qa lines (⟨#[117, 115, 101, 114]⟩ : ByteArray)).getD k default)) (ai (Imp.refl (.l 1 (eL 1 eStr) (Qa lines (⟨#[117, 115, 101, 114]⟩ : ByteArray)))) (ai (Eq.refl (Ju (fun (x0 : List ByteArray) => Wd x0) (fun (x0 : List ByteArray) => F86 x0))) (ai trivial (fiB (!((Qa lines (⟨#[117, 115, 101, 114]⟩ : ByteArray)).any (fun (x0 : List ByteArray) => F86 x0))) (F45 lines) rfl)))))) (by kernel_rfl)
def Bn (lines : List ByteArray) (name : ByteArray) : (Int × Int) → Lp (Int × Int) Int := fun (n, v11) =>
 bif (decide (v11 < ((Qa lines (⟨#[114, 117, 108, 101]⟩ : ByteArray)).length : Int))) then (bif ((((Qa lines (⟨#[114, 117, 108, 101]⟩ : ByteArray)).getD (Int.toNat v11) default).getD (Int.toNat 1) default).toList == name.toList) then (.next ((n + 1), (v11 + 1))) else (.next (n, (v11 + 1)))) else (.done (n, v11))
def F87 (lines : List ByteArray) (name : ByteArray) : Int :=
 (runL (Bn lines name) ((Int.toNat (((Qa lines (⟨#[114, 117, 108, 101]⟩ : ByteArray)).length : Int) - 0)) + 1) (0, 0)).fin (fun r => r) (fun (n, v11) => n)
abbrev Rk (lines : List ByteArray) : Nat × (Int × Int) := (((Int.toNat (((Qa lines (⟨#[114, 117, 108, 101]⟩ : ByteArray)).length : Int) - 0)) + 1), (0, 0))
abbrev Qmk (lines : List ByteArray) (m39 : Nat) (n : Int) (v11 : Int) : Prop := Int.toNat (((Qa lines (⟨#[114, 117, 108, 101]⟩ : ByteArray)).length : Int) - v11) < m39 ∧ (0 : Int) ≤ n ∧ (n : Int) ≤ v11 ∧ (0 : Int) ≤ n ∧ (0 : Int) ≤ v11
abbrev Qur (lines : List ByteArray) (name : ByteArray) : Lp (Int × Int) Int := LpX (Bn lines name) (Rk lines)
abbrev Ei (lines : List ByteArray) (name : ByteArray) (i : Nat × (Int × Int)) : Prop := LpJ (Bn lines name) (Rk lines) i (Qmk lines i.1 i.2.1 i.2.2)
abbrev Qxd (lines : List ByteArray) (name : ByteArray) (i : Nat × (Int × Int)) (m39 : Nat) (n : Int) (v11 : Int) : Prop := LpH (Bn lines name) (Rk lines) i m39 (n, v11) (Qmk lines (m39 + 1) n v11)
abbrev Qvv (lines : List ByteArray) (name : ByteArray) (n : Int) (v11 : Int) (n_ : Int) (v11_ : Int) (K39 : Prop) : Prop := (Rf (.string name)) ∧ ((.int .i64 n : Value) = .int .i64 n_) ∧ (Rf (.int .i64 ((Qa lines (⟨#[114, 117, 108, 101]⟩ : ByteArray)).length : Int))) ∧ ((.int .i64 v11 : Value) = .int .i64 v11_) ∧ (Im (.l 1 (eL 1 eStr) (Qa lines (⟨#[114, 117, 108, 101]⟩ : ByteArray)))) ∧ K39
theorem un87_0 (lines : List ByteArray) (name : ByteArray) (i : Nat × (Int × Int)) (h : Ei lines name i) : Qxd lines name i (i.1 - 1) i.2.1 i.2.2 := ⟨hd1 h.1 h.2.1, hd3 h.2.1, hd2 h.2.1, h.2.2⟩
theorem Qsg (lines : List ByteArray) (name : ByteArray) (i : Nat × (Int × Int)) (m39 : Nat) (n : Int) (v11 : Int) (hl : m39 < i.1) (e : runL (Bn lines name) m39 (n, v11) = Qur lines name) (h : Qmk lines m39 n v11) : ∃ j : Nat × (Int × Int), Qvv lines name n v11 j.2.1 j.2.2 (Ei lines name j ∧ j.1 < i.1) := ⟨(m39, (n, v11)), rfl, rfl, rfl, rfl, Imp.refl _, ⟨e, h⟩, hl⟩
theorem en87_0 (lines : List ByteArray) (name : ByteArray) (h : (0 : Int) ≤ 0 ∧ (0 : Int) ≤ 0 ∧ (0 : Int) ≤ 0 ∧ (0 : Int) ≤ 0) : Qvv lines name 0 0 0 0 (Ei lines name (Rk lines)) := ⟨rfl, rfl, rfl, rfl, Imp.refl _, rfl, Nat.lt_succ_self _, h⟩
def S87 (lines : List ByteArray) (name : ByteArray) : Spec := ⟨[.r (.c (.l 1 eStr lines)), .r (.c (.v (.string name)))], .v (vI (F87 lines name)), F25 lines = 0 ∧ lines.length ≤ 16 ∧ (∀ k : Nat, (lines.getD k default).size ≤ 1048576)⟩
theorem ok87 (lines : List ByteArray) (name : ByteArray) : (S87 lines name).ok Tryz.prog 87 :=
 Qj mixed (fn := Tryz.f87) (ct := .seqk [(0, 0)] .no (.seq .no (.seq (.seqk [(9, 0)] (.reg [(1, kh85a lines (⟨#[114, 117, 108, 101]⟩ : ByteArray))]) (.blk (.loop (ι := Nat × (Int × Int)) (fun i => (fun (n : Int) (v11 : Int) => (⟨[(1, some (.v (.string name))), (5, some (.v (vI n))), (9, some (.h 0 0)), (10, some (.v (vI ((Qa lines (⟨#[114, 117, 108, 101]⟩ : ByteArray)).length : Int)))), (11, some (.v (vI v11)))], [(0, some (.own 0 (.l 1 (eL 1 eStr) (Qa lines (⟨#[114, 117, 108, 101]⟩ : ByteArray)))))], 1⟩ : St)) i.2.1 i.2.2) (Ei lines name) (fun i => i.1) (Rk lines) (fun i => (fun (n : Int) (v11 : Int) => (.seq .no (.seq (.cond .no .no) (.seq (.blk (.seq .no (.seq .no (.cond (.reg [(1, .bnd)]) .no)))) (.reg [(0, .bnd)]))))) i.2.1 i.2.2)))) (.seq .no .no)))) Tryz.func87 (fun (hp : F25 lines = 0 ∧ lines.length ≤ 16 ∧ (∀ k : Nat, (lines.getD k default).size ≤ 1048576)) => have hpre0 := hp.1; have hpre1 := hp.2.1; have hpre2 := hp.2.2; kn lines fun _ => Ls lines (⟨#[114, 117, 108, 101]⟩ : ByteArray) (by omega) (by assumption) (by omega) (fun gv1 => kn (Qa lines (⟨#[114, 117, 108, 101]⟩ : ByteArray)) fun _ => ai (en87_0 lines name (by refine ⟨?_, ?_, ?_, ?_⟩ <;> omega)) (fun (i0 : Nat × (Int × Int)) (hi0 : Ei lines name i0) => (fun (m0 : Nat) (n : Int) (v11 : Int) (hh0 : Qxd lines name i0 m0 n v11) => have hI0 := hh0.1; have hl0 := hh0.2.1; have _ := hh0.2.2.1; have _ := hh0.2.2.2; ifd (v11 < ((Qa lines (⟨#[114, 117, 108, 101]⟩ : ByteArray)).length : Int)) (fun h3 _ => ai (by (omega) : 0 ≤ v11 ∧ v11 < ((Qa lines (⟨#[114, 117, 108, 101]⟩ : ByteArray)).length : Int)) (ai (by (have h9 := Qpd lines (by omega) (Int.toNat v11) (by omega); unfold Kt at h9; omega) : 0 ≤ (1 : Int) ∧ (1 : Int) < (((Qa lines (⟨#[114, 117, 108, 101]⟩ : ByteArray)).getD (Int.toNat v11) default).length : Int)) (ifb ((((Qa lines (⟨#[114, 117, 108, 101]⟩ : ByteArray)).getD (Int.toNat v11) default).getD (Int.toNat 1) default).toList == name.toList) (fun h4 => ai (iok (n + 1) (by omega)) (ai (iok (v11 + 1) (by omega)) (Qsg lines name i0 m0 (n + 1) (v11 + 1) hl0 (Qd hI0 (condT h3 (condT h4 rfl))) (by refine ⟨?_, ?_, ?_, ?_, ?_⟩ <;> omega)))) (fun h4 => ai (iok (v11 + 1) (by omega)) (Qsg lines name i0 m0 n (v11 + 1) hl0 (Qd hI0 (condT h3 (condF h4 rfl))) (by refine ⟨?_, ?_, ?_, ?_, ?_⟩ <;> omega)))))) (fun h3 _ => have hD0_5 : Qur lines name = Lp.done (n, v11) := Qk hI0 (condF h3 rfl); fiI n (F87 lines name) (finD hD0_5 rfl))) (i0.1 - 1) i0.2.1 i0.2.2 (un87_0 lines name i0 hi0)))) (by kernel_rfl)
theorem kc87 (lines : List ByteArray) (name : ByteArray) {K_ : Prop} (p0_ : F25 lines = 0) (p1_ : lines.length ≤ 16) (p2_ : ∀ k : Nat, (lines.getD k default).size ≤ 1048576) (k_ : K_) : (F25 lines = 0 ∧ lines.length ≤ 16 ∧ (∀ k : Nat, (lines.getD k default).size ≤ 1048576)) ∧ (Imp (.l 1 eStr lines) (.l 1 eStr lines)) ∧ (Imp (.v (.string name)) (.v (.string name))) ∧ K_ := ⟨⟨p0_, p1_, p2_⟩, Imp.refl _, Imp.refl _, k_⟩
abbrev kh87 (lines : List ByteArray) (name : ByteArray) : Hint true Tryz.prog := .call 87 (S87 lines name) (ok87 lines name) none
def F88 (w1 : List ByteArray) (p1 : List ByteArray) : Bool :=
 decide ((F87 p1 (w1.getD (Int.toNat 1) default)) > 12)
def S88 (w1 : List ByteArray) (p1 : List ByteArray) : Spec := ⟨[.r (.c (.l 1 eStr w1)), .rp ([.l 1 eStr p1])], .v (.bool (F88 w1 p1)), Kt w1 ∧ F25 p1 = 0 ∧ p1.length ≤ 16 ∧ (∀ k : Nat, (p1.getD k default).size ≤ 1048576)⟩
theorem ok88 (w1 : List ByteArray) (p1 : List ByteArray) : (S88 w1 p1).ok Tryz.prog 88 :=
 Qj mixed (fn := Tryz.f88) (ct := .seqk [(0, 0)] .no (.seq (.reg [(4, kh87 p1 (w1.getD (Int.toNat 1) default))]) .no)) Tryz.func88 (fun (hp : Kt w1 ∧ F25 p1 = 0 ∧ p1.length ≤ 16 ∧ (∀ k : Nat, (p1.getD k default).size ≤ 1048576)) => have hpre0 := hp.1; have hpre1 := hp.2.1; have hpre2 := hp.2.2.1; have hpre3 := hp.2.2.2; kn w1 fun _ => ai (by (have h9 := hpre0; unfold Kt at h9; omega) : 0 ≤ (1 : Int) ∧ (1 : Int) < (w1.length : Int)) (kc87 p1 (w1.getD (Int.toNat 1) default) (by omega) (by omega) (by assumption) (fiB (decide ((F87 p1 (w1.getD (Int.toNat 1) default)) > 12)) (F88 w1 p1) rfl))) (by kernel_rfl)
theorem kg87 {K_ : Prop} (c_ b_ : Bool) (lines : List ByteArray) (name : ByteArray) (p_ : c_ = b_ → F25 lines = 0 ∧ lines.length ≤ 16 ∧ (∀ k : Nat, (lines.getD k default).size ≤ 1048576)) (k_ : K_) : (c_ = b_ → F25 lines = 0 ∧ lines.length ≤ 16 ∧ (∀ k : Nat, (lines.getD k default).size ≤ 1048576)) ∧ (c_ = b_ → Imp (.l 1 eStr lines) (.l 1 eStr lines)) ∧ (c_ = b_ → Imp (.v (.string name)) (.v (.string name))) ∧ K_ := ⟨p_, fun _ => Imp.refl _, fun _ => Imp.refl _, k_⟩
abbrev kh87f (lines : List ByteArray) (name : ByteArray) : Hint false Tryz.prog := .call 87 (S87 lines name) ((ok87 lines name).to false) none
def Vz (lines : List ByteArray) : Int → Lp Int Bool := fun v8 =>
 bif (decide (v8 < ((Qa lines (⟨#[112, 111, 114, 116]⟩ : ByteArray)).length : Int))) then (bif (bif decide ((((Qa lines (⟨#[112, 111, 114, 116]⟩ : ByteArray)).getD (Int.toNat v8) default).length : Int) > 4) then ((F87 lines (((Qa lines (⟨#[112, 111, 114, 116]⟩ : ByteArray)).getD (Int.toNat v8) default).getD (Int.toNat 4) default)) == 0) else false) then (.ret true) else (.next (v8 + 1))) else (.done v8)
def F46 (lines : List ByteArray) : Bool :=
 (runL (Vz lines) ((Int.toNat (((Qa lines (⟨#[112, 111, 114, 116]⟩ : ByteArray)).length : Int) - 0)) + 1) 0).fin (fun r => r) (fun v8 => ((Qa lines (⟨#[114, 117, 108, 101]⟩ : ByteArray)).any (fun (x0 : List ByteArray) => F88 x0 lines)))
abbrev Qap (lines : List ByteArray) : Nat × Int := (((Int.toNat (((Qa lines (⟨#[112, 111, 114, 116]⟩ : ByteArray)).length : Int) - 0)) + 1), 0)
abbrev Qke (lines : List ByteArray) (m39 : Nat) (v8 : Int) : Prop := Int.toNat (((Qa lines (⟨#[112, 111, 114, 116]⟩ : ByteArray)).length : Int) - v8) < m39 ∧ (0 : Int) ≤ v8
abbrev Qxz (lines : List ByteArray) : Lp Int Bool := LpX (Vz lines) (Qap lines)
abbrev Qbx (lines : List ByteArray) (i : Nat × Int) : Prop := LpJ (Vz lines) (Qap lines) i (Qke lines i.1 i.2)
abbrev Qtr (lines : List ByteArray) (i : Nat × Int) (m39 : Nat) (v8 : Int) : Prop := LpH (Vz lines) (Qap lines) i m39 v8 (Qke lines (m39 + 1) v8)
abbrev Qvf (lines : List ByteArray) (v8 : Int) (v8_ : Int) (K39 : Prop) : Prop := (Rf (.int .i64 ((Qa lines (⟨#[112, 111, 114, 116]⟩ : ByteArray)).length : Int))) ∧ ((.int .i64 v8 : Value) = .int .i64 v8_) ∧ (Im (.l 1 eStr lines)) ∧ (Im (.l 1 (eL 1 eStr) (Qa lines (⟨#[112, 111, 114, 116]⟩ : ByteArray)))) ∧ K39
theorem un46_0 (lines : List ByteArray) (i : Nat × Int) (h : Qbx lines i) : Qtr lines i (i.1 - 1) i.2 := ⟨hd1 h.1 h.2.1, hd3 h.2.1, hd2 h.2.1, h.2.2⟩
theorem bk46_0 (lines : List ByteArray) (i : Nat × Int) (m39 : Nat) (v8 : Int) (hl : m39 < i.1) (e : runL (Vz lines) m39 v8 = Qxz lines) (h : Qke lines m39 v8) : ∃ j : Nat × Int, Qvf lines v8 j.2 (Qbx lines j ∧ j.1 < i.1) := ⟨(m39, v8), rfl, rfl, Imp.refl _, Imp.refl _, ⟨e, h⟩, hl⟩
theorem en46_0 (lines : List ByteArray) (h : (0 : Int) ≤ 0) : Qvf lines 0 0 (Qbx lines (Qap lines)) := ⟨rfl, rfl, Imp.refl _, Imp.refl _, rfl, Nat.lt_succ_self _, h⟩
def S46 (lines : List ByteArray) : Spec := ⟨[.r (.c (.l 1 eStr lines))], .v (.bool (F46 lines)), F25 lines = 0 ∧ lines.length ≤ 16 ∧ (∀ k : Nat, (lines.getD k default).size ≤ 1048576)⟩
theorem ok46 (lines : List ByteArray) : (S46 lines).ok Tryz.prog 46 false :=
 Qj mixed (fn := Tryz.f46) (ct := .seq .no (.seq (.seqk [(1, 0), (6, 0)] (.reg [(1, Bj lines (⟨#[112, 111, 114, 116]⟩ : ByteArray))]) (.blk (.loop (ι := Nat × Int) (fun i => (fun (v8 : Int) => (⟨[(1, some (.p 0 0)), (6, some (.h 2 0)), (7, some (.v (vI ((Qa lines (⟨#[112, 111, 114, 116]⟩ : ByteArray)).length : Int)))), (8, some (.v (vI v8)))], [(0, some (.box 22 [.h 1 0])), (1, some (.shr none (.l 1 eStr lines))), (2, some (.own 2 (.l 1 (eL 1 eStr) (Qa lines (⟨#[112, 111, 114, 116]⟩ : ByteArray)))))], 3⟩ : St)) i.2) (Qbx lines) (fun i => i.1) (Qap lines) (fun i => (fun (v8 : Int) => (.seq .no (.seq (.cond .no .no) (.seq (.blk (.seq .no (.seq (.reg [(8, kh87f lines (((Qa lines (⟨#[112, 111, 114, 116]⟩ : ByteArray)).getD (Int.toNat v8) default).getD (Int.toNat 4) default))]) (.cond (.seq .no .no) .no)))) (.reg [(0, .bnd)]))))) i.2)))) (.seq (.reg [(1, Bj lines (⟨#[114, 117, 108, 101]⟩ : ByteArray)), (3, .call 84 (S84 ((Qa lines (⟨#[114, 117, 108, 101]⟩ : ByteArray)).any (fun (x0 : List ByteArray) => F88 x0 lines)) (Qa lines (⟨#[114, 117, 108, 101]⟩ : ByteArray)) (fun (x0 : List ByteArray) => F88 x0 lines) (fun (x0 : List ByteArray) => Kt x0 ∧ F25 lines = 0 ∧ lines.length ≤ 16 ∧ (∀ k : Nat, (lines.getD k default).size ≤ 1048576))) (oa84 (Qa lines (⟨#[114, 117, 108, 101]⟩ : ByteArray)) (fun (x0 : List ByteArray) => F88 x0 lines) (fun (x0 : List ByteArray) => Kt x0 ∧ F25 lines = 0 ∧ lines.length ≤ 16 ∧ (∀ k : Nat, (lines.getD k default).size ≤ 1048576))) (some ⟨true, 88, Ju (fun (x0 : List ByteArray) => Kt x0 ∧ F25 lines = 0 ∧ lines.length ≤ 16 ∧ (∀ k : Nat, (lines.getD k default).size ≤ 1048576)) (fun (x0 : List ByteArray) => F88 x0 lines), [.rp ([.l 1 eStr lines])], rfl, True, fun i => Vk (ok88 i lines)⟩))]) .no))) Tryz.func46 (fun (hp : F25 lines = 0 ∧ lines.length ≤ 16 ∧ (∀ k : Nat, (lines.getD k default).size ≤ 1048576)) => have hpre0 := hp.1; have hpre1 := hp.2.1; have hpre2 := hp.2.2; Ls lines (⟨#[112, 111, 114, 116]⟩ : ByteArray) (by omega) (by assumption) (by omega) (fun gv1 => kn lines fun _ => kn (Qa lines (⟨#[112, 111, 114, 116]⟩ : ByteArray)) fun _ => ai (en46_0 lines (by omega)) (fun (i0 : Nat × Int) (hi0 : Qbx lines i0) => (fun (m0 : Nat) (v8 : Int) (hh0 : Qtr lines i0 m0 v8) => have hI0 := hh0.1; have hl0 := hh0.2.1; have _ := hh0.2.2.1; have _ := hh0.2.2.2; ifd (v8 < ((Qa lines (⟨#[112, 111, 114, 116]⟩ : ByteArray)).length : Int)) (fun h3 _ => ai (by omega : ib v8 (Qa lines (⟨#[112, 111, 114, 116]⟩ : ByteArray))) (ai (fun k4 : (decide ((((Qa lines (⟨#[112, 111, 114, 116]⟩ : ByteArray)).getD (Int.toNat v8) default).length : Int) > 4)) = true => have _ : (((Qa lines (⟨#[112, 111, 114, 116]⟩ : ByteArray)).getD (Int.toNat v8) default).length : Int) > 4 := of_decide_eq_true k4; (by omega : ib 4 ((Qa lines (⟨#[112, 111, 114, 116]⟩ : ByteArray)).getD (Int.toNat v8) default))) (kg87 (decide ((((Qa lines (⟨#[112, 111, 114, 116]⟩ : ByteArray)).getD (Int.toNat v8) default).length : Int) > 4)) true lines (((Qa lines (⟨#[112, 111, 114, 116]⟩ : ByteArray)).getD (Int.toNat v8) default).getD (Int.toNat 4) default) (fun k5 => have _ : (((Qa lines (⟨#[112, 111, 114, 116]⟩ : ByteArray)).getD (Int.toNat v8) default).length : Int) > 4 := of_decide_eq_true k5; ⟨(by omega), (by omega), (by assumption)⟩) (ifb (bif decide ((((Qa lines (⟨#[112, 111, 114, 116]⟩ : ByteArray)).getD (Int.toNat v8) default).length : Int) > 4) then ((F87 lines (((Qa lines (⟨#[112, 111, 114, 116]⟩ : ByteArray)).getD (Int.toNat v8) default).getD (Int.toNat 4) default)) == 0) else false) (fun h6 => have _ : (((Qa lines (⟨#[112, 111, 114, 116]⟩ : ByteArray)).getD (Int.toNat v8) default).length : Int) > 4 := of_decide_eq_true (Qi h6); have _ : (F87 lines (((Qa lines (⟨#[112, 111, 114, 116]⟩ : ByteArray)).getD (Int.toNat v8) default).getD (Int.toNat 4) default)) = 0 := eq_of_beq (Qt h6); fiB true (F46 lines) (finR (Qr hI0 (condT h3 (condT h6 rfl))) rfl)) (fun h6 => ai (iok (v8 + 1) (by omega)) (bk46_0 lines i0 m0 (v8 + 1) hl0 (Qd hI0 (condT h3 (condF h6 rfl))) (by refine ⟨?_, ?_⟩ <;> omega))))))) (fun h3 _ => have hD0_7 : Qxz lines = Lp.done v8 := Qk hI0 (condF h3 rfl); Ls lines (⟨#[114, 117, 108, 101]⟩ : ByteArray) (by omega) (by assumption) (by omega) (fun gv8 => ai (by exact fun k hk => ⟨Qpd lines (by omega) k hk, by omega, by omega, by assumption⟩ : ∀ k : Nat, k < (Qa lines (⟨#[114, 117, 108, 101]⟩ : ByteArray)).length → (fun (x0 : List ByteArray) => Kt x0 ∧ F25 lines = 0 ∧ lines.length ≤ 16 ∧ (∀ k : Nat, (lines.getD k default).size ≤ 1048576)) ((Qa lines (⟨#[114, 117, 108, 101]⟩ : ByteArray)).getD k default)) (ai (Imp.refl (.l 1 (eL 1 eStr) (Qa lines (⟨#[114, 117, 108, 101]⟩ : ByteArray)))) (ai (Eq.refl (Ju (fun (x0 : List ByteArray) => Kt x0 ∧ F25 lines = 0 ∧ lines.length ≤ 16 ∧ (∀ k : Nat, (lines.getD k default).size ≤ 1048576)) (fun (x0 : List ByteArray) => F88 x0 lines))) (ai trivial (ai (Imps.refl [.l 1 eStr lines]) (fiB ((Qa lines (⟨#[114, 117, 108, 101]⟩ : ByteArray)).any (fun (x0 : List ByteArray) => F88 x0 lines)) (F46 lines) (finD hD0_7 rfl))))))))) (i0.1 - 1) i0.2 (un46_0 lines i0 hi0)))) (by kernel_rfl)
structure l52Cut where
 w : List ByteArray
 deriving DecidableEq, Inhabited
def Qo (x : l52Cut) : List Dat := [.l 1 eStr x.w]
def Xe (lines : List ByteArray) : (List l52Cut × Int) → Lp (List l52Cut × Int) (List l52Cut) := fun (out, i40) =>
 bif (decide (i40 < (lines.length : Int))) then (.next ((out ++ [(⟨(F20 (lines.getD (Int.toNat i40) default)).1⟩ : l52Cut)]), (i40 + 1))) else (.done (out, i40))
def F26 (lines : List ByteArray) : List l52Cut :=
 (runL (Xe lines) ((Int.toNat ((lines.length : Int) - 0)) + 1) (([] : List l52Cut), 0)).fin (fun r => r) (fun (out, i40) => out)
abbrev Qad (lines : List ByteArray) : Nat × (List l52Cut × Int) := (((Int.toNat ((lines.length : Int) - 0)) + 1), (([] : List l52Cut), 0))
abbrev Qng (lines : List ByteArray) (m39 : Nat) (out : List l52Cut) (i40 : Int) : Prop := Int.toNat ((lines.length : Int) - i40) < m39 ∧ (out.length : Int) ≤ i40 ∧ (0 : Int) ≤ i40
abbrev Qzw (lines : List ByteArray) : Lp (List l52Cut × Int) (List l52Cut) := LpX (Xe lines) (Qad lines)
abbrev Qbp (lines : List ByteArray) (i : Nat × (List l52Cut × Int)) : Prop := LpJ (Xe lines) (Qad lines) i (Qng lines i.1 i.2.1 i.2.2)
abbrev Qxs (lines : List ByteArray) (i : Nat × (List l52Cut × Int)) (m39 : Nat) (out : List l52Cut) (i40 : Int) : Prop := LpH (Xe lines) (Qad lines) i m39 (out, i40) (Qng lines (m39 + 1) out i40)
abbrev Qvk (lines : List ByteArray) (out : List l52Cut) (i40 : Int) (out_ : List l52Cut) (i40_ : Int) (K39 : Prop) : Prop := ((.int .i64 i40 : Value) = .int .i64 i40_) ∧ (Im (.l 1 eStr lines)) ∧ (Imp (.l 1 Qo out) (.l 1 Qo out_)) ∧ K39
theorem un26_0 (lines : List ByteArray) (i : Nat × (List l52Cut × Int)) (h : Qbp lines i) : Qxs lines i (i.1 - 1) i.2.1 i.2.2 := ⟨hd1 h.1 h.2.1, hd3 h.2.1, hd2 h.2.1, h.2.2⟩
theorem bk26_0 (lines : List ByteArray) (i : Nat × (List l52Cut × Int)) (m39 : Nat) (out : List l52Cut) (i40 : Int) (hl : m39 < i.1) (e : runL (Xe lines) m39 (out, i40) = Qzw lines) (h : Qng lines m39 out i40) : ∃ j : Nat × (List l52Cut × Int), Qvk lines out i40 j.2.1 j.2.2 (Qbp lines j ∧ j.1 < i.1) := ⟨(m39, (out, i40)), rfl, Imp.refl _, Imp.refl _, ⟨e, h⟩, hl⟩
theorem en26_0 (lines : List ByteArray) (h : (([] : List l52Cut).length : Int) ≤ 0 ∧ (0 : Int) ≤ 0) : Qvk lines ([] : List l52Cut) 0 ([] : List l52Cut) 0 (Qbp lines (Qad lines)) := ⟨rfl, Imp.refl _, Imp.refl _, rfl, Nat.lt_succ_self _, h⟩
theorem fi26 (lines : List ByteArray) (r : List l52Cut) (hF : r = (F26 lines)) : (Imp (.l 1 Qo r) (.l 1 Qo (F26 lines))) ∧ True := by cases hF; exact ⟨Imp.refl _, trivial⟩
def S26 (R : List l52Cut) (lines : List ByteArray) : Spec := ⟨[.r (.c (.l 1 eStr lines))], .ow (.l 1 Qo R), lines.length ≤ 16 ∧ (∀ k : Nat, (lines.getD k default).size ≤ 1048576)⟩
theorem ok26 (lines : List ByteArray) : (S26 (F26 lines) lines).ok Tryz.prog 26 :=
 Qj mixed (fn := Tryz.f26) (ct := .seqk [(0, 0)] .no (.seq (.reg [(0, .dat (.l 1 Qo ([] : List l52Cut)))]) (.seq (.seqk [(0, 0), (3, 0)] .no (.blk (.loop (ι := Nat × (List l52Cut × Int)) (fun i => (fun (out : List l52Cut) (i40 : Int) => (⟨[(0, some (.h 0 0)), (3, some (.h 1 0)), (4, some (.v (vI i40)))], [(0, some (.shr none (.l 1 eStr lines))), (1, some (.own 1 (.l 1 Qo out)))], 2⟩ : St)) i.2.1 i.2.2) (Qbp lines) (fun i => i.1) (Qad lines) (fun i => (fun (out : List l52Cut) (i40 : Int) => (.seq (.seq .no (.cond .no .no)) (.seq (.blk (.seq (.reg [(4, kh20 (lines.getD (Int.toNat i40) default))]) (.reg [(4, .dat (.l 1 Qo (out ++ [(⟨(F20 (lines.getD (Int.toNat i40) default)).1⟩ : l52Cut)])))]))) (.reg [(1, .bnd)])))) i.2.1 i.2.2)))) (.seq .no .no)))) Tryz.func26 (fun (hp : lines.length ≤ 16 ∧ (∀ k : Nat, (lines.getD k default).size ≤ 1048576)) => have hpre0 := hp.1; have hpre1 := hp.2; kn lines fun _ => ai (bokr 1 Qo ([] : List l52Cut) fun _ => rfl) (kn lines fun _ => kn ([] : List l52Cut) fun _ => ai (en26_0 lines (by refine ⟨?_, ?_⟩ <;> (simp only [lens, ib] at * <;> omega))) (fun (i0 : Nat × (List l52Cut × Int)) (hi0 : Qbp lines i0) => (fun (m0 : Nat) (out : List l52Cut) (i40 : Int) (hh0 : Qxs lines i0 m0 out i40) => have hI0 := hh0.1; have hl0 := hh0.2.1; have _ := hh0.2.2.1; have _ := hh0.2.2.2; ifd (i40 < (lines.length : Int)) (fun h2 _ => ai (by omega : ib i40 lines) (kc20 (lines.getD (Int.toNat i40) default) (by exact hpre1 _) (fun gv3 gv4 => ai (appr 1 Qo out [(⟨(F20 (lines.getD (Int.toNat i40) default)).1⟩ : l52Cut)] fun _ => rfl) (ai (by (try simp only [lens]); omega : (out ++ [(⟨(F20 (lines.getD (Int.toNat i40) default)).1⟩ : l52Cut)]).length * 24 ≤ 140737488355328) (ai (iok (i40 + 1) (by omega)) (bk26_0 lines i0 m0 (out ++ [(⟨(F20 (lines.getD (Int.toNat i40) default)).1⟩ : l52Cut)]) (i40 + 1) hl0 (Qd hI0 (condT h2 rfl)) (by refine ⟨?_, ?_, ?_⟩ <;> (simp only [lens, ib] at * <;> omega)))))))) (fun h2 _ => have hD0_5 : Qzw lines = Lp.done (out, i40) := Qk hI0 (condF h2 rfl); fi26 lines out (finD hD0_5 rfl))) (i0.1 - 1) i0.2.1 i0.2.2 (un26_0 lines i0 hi0)))) (by kernel_rfl)
def F56 (c : l52Cut) (k : Int) : ByteArray :=
 bif (decide (k < (c.w.length : Int))) then (c.w.getD (Int.toNat k) default) else (⟨#[]⟩ : ByteArray)
def S56 (c : l52Cut) (k : Int) : Spec := ⟨[.r (.g (Qo c)), .r (.c (.v (vI k)))], .v (.string (F56 c k)), 0 ≤ k⟩
theorem ok56 (c : l52Cut) (k : Int) : (S56 c k).ok Tryz.prog 56 :=
 Qj mixed (fn := Tryz.f56) (ct := .seq .no (.seq (.seq .no (.cond (.seq .no .no) .no)) (.seq .no .no))) Tryz.func56 (fun (hpre0 : 0 ≤ k) => ifd (k < (c.w.length : Int)) (fun h1 _ => ai (by omega : ib k c.w) (fiS (c.w.getD (Int.toNat k) default) (F56 c k) (condT h1 rfl))) (fun h1 _ => fiS w13_ (F56 c k) (condF h1 rfl))) (by kernel_rfl)
theorem Yg (s : ByteArray) : 0 ≤ (F96 s).1.Len ∧ (F96 s).1.Len ≤ 16 ∧ 0 ≤ (F96 s).1.Addr ∧ (F96 s).1.Addr ≤ 65535 := by
 rw [Gn]
 cases h : pfxL s.data.toList with
 | none => exact ⟨by decide, by decide, by decide, by decide⟩
 | some p =>
  obtain ⟨a, n⟩ := p
  have := Qgc h
  show 0 ≤ n ∧ n ≤ 16 ∧ 0 ≤ a ∧ a ≤ 65535
  omega
def Ql (lines : List ByteArray) : List Qb := (Qa lines (⟨#[112, 111, 114, 116]⟩ : ByteArray)).map fun w => (F96 (w.getD 2 default)).1
theorem as89 (lines : List ByteArray) : F89 lines = (Ql lines) := by
 unfold F89
 have := Yi (Qa lines (⟨#[112, 111, 114, 116]⟩ : ByteArray)) (fun (s : List Qb) w => s ++ [(F96 (w.getD 2 default)).1]) (fun s i => (s, i)) (Xh lines) (fun i s hi => by
  simp only [Xh, ltD hi, cond_true, nn]; rfl) (fun s => by simp only [Xh, geD, cond_false]) (fun r => r) (fun (out, v12) => out) []
 refine this.trans ?_
 rw [Kf, List.nil_append]; rfl
theorem Qhl (lines : List ByteArray) : ∀ p ∈ Ql lines, 0 ≤ p.Len ∧ p.Len ≤ 16 ∧ 0 ≤ p.Addr ∧ p.Addr ≤ 65535 := fun p hp => by
 obtain ⟨w, _, rfl⟩ := List.mem_map.1 hp
 exact Yg _
theorem Zd (lines : List ByteArray) : ∀ k : Nat, 0 ≤ ((Ql lines).getD k default).Len ∧ ((Ql lines).getD k default).Len ≤ 16 := fun k => by
 by_cases hk : k < (Ql lines).length
 ·have := Qhl lines _ (Ku _ hk); omega
 ·rw [Ve _ (by omega)]; exact ⟨by decide, by decide⟩
theorem Zc (lines : List ByteArray) (n k : Nat) : 0 ≤ (((Ql lines).take n).getD k default).Len ∧ (((Ql lines).take n).getD k default).Len ≤ 16 := by
 by_cases hk : k < ((Ql lines).take n).length
 ·have := Qhl lines _ (List.mem_of_mem_take (Ku _ hk)); omega
 ·rw [Ve _ (by omega)]; exact ⟨by decide, by decide⟩
theorem Bf : ∀ k : Nat, (([] : List ByteArray).getD k default).size ≤ 1048576 := fun k => Nat.zero_le _
theorem Nf {a : List ByteArray} {x : ByteArray} (h : ∀ k : Nat, (a.getD k default).size ≤ 1048576) (hx : x.size ≤ 1048576) : ∀ k : Nat, ((a ++ [x]).getD k default).size ≤ 1048576 := fun k => by
 rw [List.getD_eq_getElem?_getD, List.getElem?_append]
 split
 ·rw [← List.getD_eq_getElem?_getD]; exact h k
 ·cases hk : k - a.length with
  | zero => exact hx
  | succ j => exact Nat.zero_le _
theorem Uh (lines : List ByteArray) (h : F25 lines = 0) (n k : Nat) (hk : k < ((Qa lines (⟨#[100, 111, 111, 114]⟩ : ByteArray)).take n).length) : Ub (((Qa lines (⟨#[100, 111, 111, 114]⟩ : ByteArray)).take n).getD k default) := by
 rw [List.length_take] at hk
 have := Un lines h k (by omega)
 rw [List.getD_eq_getElem?_getD, List.getElem?_take, if_pos (by omega), ← List.getD_eq_getElem?_getD]
 exact this
theorem as26 (lines : List ByteArray) : F26 lines = (lines.map (fun l => (⟨(F20 l).1⟩ : l52Cut))) := by
 unfold F26
 have := Yi lines (fun (s : List l52Cut) l => s ++ [(⟨(F20 l).1⟩ : l52Cut)]) (fun s i => (s, i)) (Xe lines) (fun i s hi => by
  simp only [Xe, ltD hi, cond_true, nn]; rfl) (fun s => by simp only [Xe, geD, cond_false]) (fun r => r) (fun (out, i40) => out) []
 refine this.trans ?_
 rw [Kf, List.nil_append]
theorem Qfc {c : l52Cut} (h : ∀ j : Nat, (c.w.getD j default).size ≤ 1048576) (k : Int) : (F56 c k).size ≤ 1048576 := by
 unfold F56
 cases decide (k < (c.w.length : Int)) with
 | true => exact h _
 | false => exact Nat.zero_le _
theorem Xd (all : List l52Cut) (h : ∀ k j : Nat, ((all.getD k default).w.getD j default).size ≤ 1048576) (i : Nat) (k : Int) : (F56 (all.getD i default) k).size ≤ 1048576 := Qfc (h i) k
def T89 (R : List Qb) (lines : List ByteArray) : Spec := ⟨(S89 R lines).args, (S89 R lines).res, F25 lines = 0 ∧ lines.length ≤ 16 ∧ (∀ k : Nat, (lines.getD k default).size ≤ 1048576)⟩
theorem oa89 (lines : List ByteArray) : (T89 (Ql lines) lines).ok Tryz.prog 89 false := by
 intro hp; have h := ok89 lines hp; rw [as89 lines] at h; exact h
def T26 (R : List l52Cut) (lines : List ByteArray) : Spec := ⟨(S26 R lines).args, (S26 R lines).res, lines.length ≤ 16 ∧ (∀ k : Nat, (lines.getD k default).size ≤ 1048576)⟩
theorem oa26 (lines : List ByteArray) : (T26 (lines.map (fun l => (⟨(F20 l).1⟩ : l52Cut))) lines).ok Tryz.prog 26 := by
 intro hp; have h := ok26 lines hp; rw [as26 lines] at h; exact h
def F122 (p : Qb) : Int :=
 (IntKind.i64.wrap ((IntKind.i64.wrap (p.Addr + (F143 p))) - 1))
def S122 (p : Qb) : Spec := ⟨[.r (.g (Qg p))], .v (vI (F122 p)), 0 ≤ p.Len ∧ p.Len ≤ 16⟩
theorem ok122 (p : Qb) : (S122 p).ok Tryz.prog 122 :=
 Qj mixed (fn := Tryz.f122) (ct := .seq .no (.seq (.reg [(3, kh143 p)]) .no)) Tryz.func122 (fun (hp : 0 ≤ p.Len ∧ p.Len ≤ 16) => have hpre0 := hp.1; have hpre1 := hp.2; kc143 p (by omega) (by omega) (by omega) (by omega) (fun gv1 gv2 => fiI (IntKind.i64.wrap ((IntKind.i64.wrap (p.Addr + (F143 p))) - 1)) (F122 p) rfl)) (by kernel_rfl)
theorem kc122 (p : Qb) {K_ : Prop} (p0_ : 0 ≤ p.Len) (p1_ : p.Len ≤ 16) (k_ : K_) : (0 ≤ p.Len ∧ p.Len ≤ 16) ∧ (Imps (Qg p) (Qg p)) ∧ K_ := ⟨⟨p0_, p1_⟩, Imps.refl _, k_⟩
abbrev kh122 (p : Qb) : Hint true Tryz.prog := .call 122 (S122 p) (ok122 p) none
def F95 (p : Qb) (addr : Int) : Bool :=
 (decide (p.Addr ≤ addr ∧ addr ≤ (F122 p)))
def S95 (p : Qb) (addr : Int) : Spec := ⟨[.r (.g (Qg p)), .r (.c (.v (vI addr)))], .v (.bool (F95 p addr)), 0 ≤ p.Len ∧ p.Len ≤ 16⟩
theorem ok95 (p : Qb) (addr : Int) : (S95 p addr).ok Tryz.prog 95 :=
 Qj mixed (fn := Tryz.f95) (ct := .seq .no (.seq (.reg [(4, kh122 p), (5, Qoh addr p.Addr (F122 p))]) .no)) Tryz.func95 (fun (hp : 0 ≤ p.Len ∧ p.Len ≤ 16) => have hpre0 := hp.1; have hpre1 := hp.2; kc122 p (by omega) (by omega) (Qhg addr p.Addr (F122 p) (fiB (decide (p.Addr ≤ addr ∧ addr ≤ (F122 p))) (F95 p addr) rfl))) (by kernel_rfl)
theorem kc95 (p : Qb) (addr : Int) {K_ : Prop} (p0_ : 0 ≤ p.Len) (p1_ : p.Len ≤ 16) (k_ : K_) : (0 ≤ p.Len ∧ p.Len ≤ 16) ∧ (Imps (Qg p) (Qg p)) ∧ (Imp (.v (vI addr)) (.v (vI addr))) ∧ K_ := ⟨⟨p0_, p1_⟩, Imps.refl _, Imp.refl _, k_⟩
theorem kg95 {K_ : Prop} (c_ b_ : Bool) (p : Qb) (addr : Int) (p_ : c_ = b_ → 0 ≤ p.Len ∧ p.Len ≤ 16) (k_ : K_) : (c_ = b_ → 0 ≤ p.Len ∧ p.Len ≤ 16) ∧ (c_ = b_ → Imps (Qg p) (Qg p)) ∧ (c_ = b_ → Imp (.v (vI addr)) (.v (vI addr))) ∧ K_ := ⟨p_, fun _ => Imps.refl _, fun _ => Imp.refl _, k_⟩
abbrev kh95 (p : Qb) (addr : Int) : Hint true Tryz.prog := .call 95 (S95 p addr) (ok95 p addr) none
def F90 (p : Qb) (q : Qb) : Bool :=
 (bif decide (q.Len ≤ p.Len) then (F95 q p.Addr) else false)
def S90 (p : Qb) (q : Qb) : Spec := ⟨[.r (.g (Qg p)), .r (.g (Qg q))], .v (.bool (F90 p q)), 0 ≤ q.Len ∧ q.Len ≤ 16⟩
theorem ok90 (p : Qb) (q : Qb) : (S90 p q).ok Tryz.prog 90 :=
 Qj mixed (fn := Tryz.f90) (ct := .seq .no (.seq (.reg [(9, kh95 q p.Addr)]) .no)) Tryz.func90 (fun (hp : 0 ≤ q.Len ∧ q.Len ≤ 16) => have hpre0 := hp.1; have hpre1 := hp.2; kg95 (decide (q.Len ≤ p.Len)) true q p.Addr (fun k1 => have _ := of_decide_eq_true k1; ⟨(by omega), (by omega)⟩) (fiB (bif decide (q.Len ≤ p.Len) then (F95 q p.Addr) else false) (F90 p q) rfl)) (by kernel_rfl)
theorem kc89a (lines : List ByteArray) {K_ : Prop} (p0_ : F25 lines = 0) (p1_ : lines.length ≤ 16) (p2_ : ∀ k : Nat, (lines.getD k default).size ≤ 1048576) (k_ : K_) : (F25 lines = 0 ∧ lines.length ≤ 16 ∧ (∀ k : Nat, (lines.getD k default).size ≤ 1048576)) ∧ (Imp (.l 1 eStr lines) (.l 1 eStr lines)) ∧ K_ := ⟨⟨p0_, p1_, p2_⟩, Imp.refl _, k_⟩
abbrev kh89a (lines : List ByteArray) : Hint false Tryz.prog := .call 89 (T89 (Ql lines) lines) (oa89 lines) none
theorem kc90 (p : Qb) (q : Qb) {K_ : Prop} (p0_ : 0 ≤ q.Len) (p1_ : q.Len ≤ 16) (k_ : K_) : (0 ≤ q.Len ∧ q.Len ≤ 16) ∧ (Imps (Qg p) (Qg p)) ∧ (Imps (Qg q) (Qg q)) ∧ K_ := ⟨⟨p0_, p1_⟩, Imps.refl _, Imps.refl _, k_⟩
abbrev kh90f (p : Qb) (q : Qb) : Hint false Tryz.prog := .call 90 (S90 p q) ((ok90 p q).to false) none
theorem kg90 {K_ : Prop} (c_ b_ : Bool) (p : Qb) (q : Qb) (p_ : c_ = b_ → 0 ≤ q.Len ∧ q.Len ≤ 16) (k_ : K_) : (c_ = b_ → 0 ≤ q.Len ∧ q.Len ≤ 16) ∧ (c_ = b_ → Imps (Qg p) (Qg p)) ∧ (c_ = b_ → Imps (Qg q) (Qg q)) ∧ K_ := ⟨p_, fun _ => Imps.refl _, fun _ => Imps.refl _, k_⟩
def Bg (lines : List ByteArray) (v12 : Int) : Int → Lp Int Bool := fun v21 =>
 bif (decide (v21 < (((Ql lines).take (Int.toNat v12)).length : Int))) then (bif (bif (F90 ((Ql lines).getD (Int.toNat v12) default) (((Ql lines).take (Int.toNat v12)).getD (Int.toNat v21) default)) then true else (F90 (((Ql lines).take (Int.toNat v12)).getD (Int.toNat v21) default) ((Ql lines).getD (Int.toNat v12) default))) then (.ret true) else (.next (v21 + 1))) else (.done v21)
def Xg (lines : List ByteArray) : Int → Lp Int Bool := fun v12 =>
 bif (decide (v12 < ((Ql lines).length : Int))) then ((runL (Bg lines v12) ((Int.toNat ((((Ql lines).take (Int.toNat v12)).length : Int) - 0)) + 1) 0).fin Lp.ret (fun v21 => .next (v12 + 1))) else (.done v12)
def F47 (lines : List ByteArray) : Bool :=
 (runL (Xg lines) ((Int.toNat (((Ql lines).length : Int) - 0)) + 1) 0).fin (fun r => r) (fun v12 => false)
abbrev Ea (lines : List ByteArray) (v12 : Int) : Nat × Int := (((Int.toNat ((((Ql lines).take (Int.toNat v12)).length : Int) - 0)) + 1), 0)
abbrev Qks (lines : List ByteArray) (v12 : Int) (m39 : Nat) (v21 : Int) : Prop := Int.toNat ((((Ql lines).take (Int.toNat v12)).length : Int) - v21) < m39 ∧ (0 : Int) ≤ v21
abbrev Qzl (lines : List ByteArray) (v12 : Int) : Lp Int Bool := LpX (Bg lines v12) (Ea lines v12)
abbrev Qbv (lines : List ByteArray) (v12 : Int) (i : Nat × Int) : Prop := LpJ (Bg lines v12) (Ea lines v12) i (Qks lines v12 i.1 i.2)
abbrev Qup (lines : List ByteArray) (v12 : Int) (i : Nat × Int) (m39 : Nat) (v21 : Int) : Prop := LpH (Bg lines v12) (Ea lines v12) i m39 v21 (Qks lines v12 (m39 + 1) v21)
abbrev Qwx (lines : List ByteArray) (v12 : Int) (v21 : Int) (v21_ : Int) (K39 : Prop) : Prop := (Rf (.int .i64 ((Ql lines).length : Int))) ∧ (Rf (.int .i64 v12)) ∧ (Rf (.int .i64 (((Ql lines).take (Int.toNat v12)).length : Int))) ∧ ((.int .i64 v21 : Value) = .int .i64 v21_) ∧ (Im (.l 2 Qg (Ql lines))) ∧ (Rf (.int .i64 (((Ql lines).getD (Int.toNat v12) default).Addr))) ∧ (Rf (.int .i64 (((Ql lines).getD (Int.toNat v12) default).Len))) ∧ (Im (.l 2 Qg ((Ql lines).take (Int.toNat v12)))) ∧ K39
theorem un47_1 (lines : List ByteArray) (v12 : Int) (i : Nat × Int) (h : Qbv lines v12 i) : Qup lines v12 i (i.1 - 1) i.2 := ⟨hd1 h.1 h.2.1, hd3 h.2.1, hd2 h.2.1, h.2.2⟩
theorem bk47_1 (lines : List ByteArray) (v12 : Int) (i : Nat × Int) (m39 : Nat) (v21 : Int) (hl : m39 < i.1) (e : runL (Bg lines v12) m39 v21 = Qzl lines v12) (h : Qks lines v12 m39 v21) : ∃ j : Nat × Int, Qwx lines v12 v21 j.2 (Qbv lines v12 j ∧ j.1 < i.1) := ⟨(m39, v21), rfl, rfl, rfl, rfl, Imp.refl _, rfl, rfl, Imp.refl _, ⟨e, h⟩, hl⟩
theorem en47_1 (lines : List ByteArray) (v12 : Int) (h : (0 : Int) ≤ 0) : Qwx lines v12 0 0 (Qbv lines v12 (Ea lines v12)) := ⟨rfl, rfl, rfl, rfl, Imp.refl _, rfl, rfl, Imp.refl _, rfl, Nat.lt_succ_self _, h⟩
abbrev Ez (lines : List ByteArray) : Nat × Int := (((Int.toNat (((Ql lines).length : Int) - 0)) + 1), 0)
abbrev Qmw (lines : List ByteArray) (m39 : Nat) (v12 : Int) : Prop := Int.toNat (((Ql lines).length : Int) - v12) < m39 ∧ (0 : Int) ≤ v12
abbrev Uab (lines : List ByteArray) : Lp Int Bool := LpX (Xg lines) (Ez lines)
abbrev Pw (lines : List ByteArray) (i : Nat × Int) : Prop := LpJ (Xg lines) (Ez lines) i (Qmw lines i.1 i.2)
abbrev Qvs (lines : List ByteArray) (i : Nat × Int) (m39 : Nat) (v12 : Int) : Prop := LpH (Xg lines) (Ez lines) i m39 v12 (Qmw lines (m39 + 1) v12)
abbrev Qtl (lines : List ByteArray) (v12 : Int) (v12_ : Int) (K39 : Prop) : Prop := (Rf (.int .i64 ((Ql lines).length : Int))) ∧ ((.int .i64 v12 : Value) = .int .i64 v12_) ∧ (Im (.l 2 Qg (Ql lines))) ∧ K39
theorem un47_0 (lines : List ByteArray) (i : Nat × Int) (h : Pw lines i) : Qvs lines i (i.1 - 1) i.2 := ⟨hd1 h.1 h.2.1, hd3 h.2.1, hd2 h.2.1, h.2.2⟩
theorem bk47_0 (lines : List ByteArray) (i : Nat × Int) (m39 : Nat) (v12 : Int) (hl : m39 < i.1) (e : runL (Xg lines) m39 v12 = Uab lines) (h : Qmw lines m39 v12) : ∃ j : Nat × Int, Qtl lines v12 j.2 (Pw lines j ∧ j.1 < i.1) := ⟨(m39, v12), rfl, rfl, Imp.refl _, ⟨e, h⟩, hl⟩
theorem en47_0 (lines : List ByteArray) (h : (0 : Int) ≤ 0) : Qtl lines 0 0 (Pw lines (Ez lines)) := ⟨rfl, rfl, Imp.refl _, rfl, Nat.lt_succ_self _, h⟩
def S47 (lines : List ByteArray) : Spec := ⟨[.r (.c (.l 1 eStr lines))], .v (.bool (F47 lines)), F25 lines = 0 ∧ lines.length ≤ 16 ∧ (∀ k : Nat, (lines.getD k default).size ≤ 1048576)⟩
theorem ok47 (lines : List ByteArray) : (S47 lines).ok Tryz.prog 47 false :=
 Qj mixed (fn := Tryz.f47) (ct := .seqk [(0, 0)] .no (.seq (.reg [(1, kh89a lines)]) (.seq (.seqk [(3, 0), (10, 0)] .no (.blk (.loop (ι := Nat × Int) (fun i => (fun (v12 : Int) => (⟨[(3, some (.h 0 0)), (10, some (.h 0 0)), (11, some (.v (vI ((Ql lines).length : Int)))), (12, some (.v (vI v12)))], [(0, some (.own 0 (.l 2 Qg (Ql lines))))], 1⟩ : St)) i.2) (Pw lines) (fun i => i.1) (Ez lines) (fun i => (fun (v12 : Int) => (.seq .no (.seq (.cond .no .no) (.seq (.blk (.seq .no (.seqk [(19, 0)] .no (.blk (.loop (ι := Nat × Int) (fun i => (fun (v21 : Int) => (⟨[(3, some (.h 0 0)), (5, some (.p 1 0)), (10, some (.h 0 0)), (11, some (.v (vI ((Ql lines).length : Int)))), (12, some (.v (vI v12))), (19, some (.h 2 0)), (20, some (.v (vI (((Ql lines).take (Int.toNat v12)).length : Int)))), (21, some (.v (vI v21)))], [(0, some (.own 0 (.l 2 Qg (Ql lines)))), (1, some (.box 102 [.v (vI (((Ql lines).getD (Int.toNat v12) default).Addr)), .v (vI (((Ql lines).getD (Int.toNat v12) default).Len))])), (2, some (.shr (some (0, 0)) (.l 2 Qg ((Ql lines).take (Int.toNat v12)))))], 3⟩ : St)) i.2) (Qbv lines v12) (fun i => i.1) (Ea lines v12) (fun i => (fun (v21 : Int) => (.seq .no (.seq (.cond .no .no) (.seq (.blk (.seq .no (.seq (.reg [(2, kh90f ((Ql lines).getD (Int.toNat v12) default) (((Ql lines).take (Int.toNat v12)).getD (Int.toNat v21) default)), (6, kh90f (((Ql lines).take (Int.toNat v12)).getD (Int.toNat v21) default) ((Ql lines).getD (Int.toNat v12) default))]) (.cond (.seq .no .no) .no)))) (.reg [(0, .bnd)]))))) i.2)))))) (.reg [(0, .bnd)]))))) i.2)))) (.seq .no .no)))) Tryz.func47 (fun (hp : F25 lines = 0 ∧ lines.length ≤ 16 ∧ (∀ k : Nat, (lines.getD k default).size ≤ 1048576)) => have hpre0 := hp.1; have hpre1 := hp.2.1; have hpre2 := hp.2.2; kn lines fun _ => kc89a lines (by first | omega | (simp only [lens, ib] at * <;> omega)) (by first | omega | (simp only [lens, ib] at * <;> omega)) (by first | assumption | exact hpre2 _ | exact fun k _ => hpre2 k | (intros; exact trivial) | (intros; exact Nat.zero_le _)) (kn (Ql lines) fun _ => kn (Ql lines) fun _ => ai (en47_0 lines (by first | omega | (simp only [lens, ib] at * <;> omega))) (fun (i0 : Nat × Int) (hi0 : Pw lines i0) => (fun (m0 : Nat) (v12 : Int) (hh0 : Qvs lines i0 m0 v12) => have hI0 := hh0.1; have hl0 := hh0.2.1; have _ := hh0.2.2.1; have _ := hh0.2.2.2; ifd (v12 < ((Ql lines).length : Int)) (fun h2 _ => ai (by first | omega | (simp only [lens, ib] at * <;> omega) : ib v12 (Ql lines)) (ai (by first | omega | (simp only [lens, ib] at * <;> omega) : 0 ≤ (0 : Int) ∧ (0 : Int) ≤ v12 ∧ v12 ≤ ((Ql lines).length : Int)) (kn ((Ql lines).take (Int.toNat v12)) fun _ => ai (en47_1 lines v12 (by first | omega | (simp only [lens, ib] at * <;> omega))) (fun (i1 : Nat × Int) (hi1 : Qbv lines v12 i1) => (fun (m1 : Nat) (v21 : Int) (hh1 : Qup lines v12 i1 m1 v21) => have hI1 := hh1.1; have hl1 := hh1.2.1; have _ := hh1.2.2.1; have _ := hh1.2.2.2; ifd (v21 < (((Ql lines).take (Int.toNat v12)).length : Int)) (fun h4 _ => ai (by first | omega | (simp only [lens, ib] at * <;> omega) : ib v21 ((Ql lines).take (Int.toNat v12))) (kc90 ((Ql lines).getD (Int.toNat v12) default) (((Ql lines).take (Int.toNat v12)).getD (Int.toNat v21) default) (by first | omega | exact (Zd lines _).1 | exact (Zd lines _).2 | exact (Zc lines _ _).1 | exact (Zc lines _ _).2) (by first | omega | exact (Zd lines _).1 | exact (Zd lines _).2 | exact (Zc lines _ _).1 | exact (Zc lines _ _).2) (kg90 (F90 ((Ql lines).getD (Int.toNat v12) default) (((Ql lines).take (Int.toNat v12)).getD (Int.toNat v21) default)) false (((Ql lines).take (Int.toNat v12)).getD (Int.toNat v21) default) ((Ql lines).getD (Int.toNat v12) default) (fun k5 => ⟨(by first | omega | exact (Zd lines _).1 | exact (Zd lines _).2 | exact (Zc lines _ _).1 | exact (Zc lines _ _).2), (by first | omega | exact (Zd lines _).1 | exact (Zd lines _).2 | exact (Zc lines _ _).1 | exact (Zc lines _ _).2)⟩) (ifb (bif (F90 ((Ql lines).getD (Int.toNat v12) default) (((Ql lines).take (Int.toNat v12)).getD (Int.toNat v21) default)) then true else (F90 (((Ql lines).take (Int.toNat v12)).getD (Int.toNat v21) default) ((Ql lines).getD (Int.toNat v12) default))) (fun h6 => fiB true (F47 lines) (finR (Qr hI0 (condT h2 (finR (Qr hI1 (condT h4 (condT h6 rfl))) rfl))) rfl)) (fun h6 => ai (iok (v21 + 1) (by first | omega | (simp only [lens, ib] at * <;> omega))) (bk47_1 lines v12 i1 m1 (v21 + 1) hl1 (Qd hI1 (condT h4 (condF h6 rfl))) (by refine ⟨?_, ?_⟩ <;> first | omega | (simp only [lens, ib] at * <;> omega)))))))) (fun h4 _ => have hD1_7 : Qzl lines v12 = Lp.done v21 := Qk hI1 (condF h4 rfl); ai (iok (v12 + 1) (by first | omega | (simp only [lens, ib] at * <;> omega))) (bk47_0 lines i0 m0 (v12 + 1) hl0 (Qd hI0 (condT h2 (finD hD1_7 rfl))) (by refine ⟨?_, ?_⟩ <;> first | omega | (simp only [lens, ib] at * <;> omega))))) (i1.1 - 1) i1.2 (un47_1 lines v12 i1 hi1))))) (fun h2 _ => have hD0_8 : Uab lines = Lp.done v12 := Qk hI0 (condF h2 rfl); fiB false (F47 lines) (finD hD0_8 rfl))) (i0.1 - 1) i0.2 (un47_0 lines i0 hi0)))) (by kernel_rfl)
def F94 (p : Qb) (p1 : Int) : Bool :=
 (bif (F95 p p1) then (p.Addr != p1) else false)
def S94 (p : Qb) (p1 : Int) : Spec := ⟨[.r (.g (Qg p)), .rp ([.v (vI p1)])], .v (.bool (F94 p p1)), 0 ≤ p.Len ∧ p.Len ≤ 16⟩
theorem ok94 (p : Qb) (p1 : Int) : (S94 p p1).ok Tryz.prog 94 :=
 Qj mixed (fn := Tryz.f94) (ct := .seq .no (.seq (.reg [(2, kh95 p p1)]) .no)) Tryz.func94 (fun (hp : 0 ≤ p.Len ∧ p.Len ≤ 16) => have hpre0 := hp.1; have hpre1 := hp.2; kc95 p p1 (by omega) (by omega) (fiB (bif (F95 p p1) then (p.Addr != p1) else false) (F94 p p1) rfl)) (by kernel_rfl)
def Wm (Q : Qb → Prop) (p : Qb → Bool) : Uv := ⟨Qb, fun i => [.g (pxH (Qg i) (Q i))], fun i => .bool (p i)⟩
def By (s : List Qb) (f : Qb → Bool) : Int → Lp Int Int := fun v8 =>
 bif (decide (v8 < (s.length : Int))) then (bif (f (s.getD (Int.toNat v8) default)) then (.ret v8) else (.next (v8 + 1))) else (.done v8)
def F121 (s : List Qb) (f : Qb → Bool) : Int :=
 (runL (By s f) ((Int.toNat ((s.length : Int) - 0)) + 1) 0).fin (fun r => r) (fun v8 => (-1))
abbrev Lf (s : List Qb) : Nat × Int := (((Int.toNat ((s.length : Int) - 0)) + 1), 0)
abbrev Qff (s : List Qb) (m39 : Nat) (v8 : Int) : Prop := Int.toNat ((s.length : Int) - v8) < m39 ∧ (0 : Int) ≤ v8
abbrev Qnx (s : List Qb) (f : Qb → Bool) : Lp Int Int := LpX (By s f) (Lf s)
abbrev Lv (s : List Qb) (f : Qb → Bool) (i : Nat × Int) : Prop := LpJ (By s f) (Lf s) i (Qff s i.1 i.2)
abbrev Qny (s : List Qb) (f : Qb → Bool) (i : Nat × Int) (m39 : Nat) (v8 : Int) : Prop := LpH (By s f) (Lf s) i m39 v8 (Qff s (m39 + 1) v8)
abbrev Qpo (Qf : Qb → Prop) (s : List Qb) (f : Qb → Bool) (v8 : Int) (v8_ : Int) (K39 : Prop) : Prop := (Rf (.int .i64 (s.length : Int))) ∧ ((.int .i64 v8 : Value) = .int .i64 v8_) ∧ (Im (.l 2 Qg s)) ∧ (Wm Qf f = Wm Qf f) ∧ K39
theorem Uca (s : List Qb) (f : Qb → Bool) (i : Nat × Int) (h : Lv s f i) : Qny s f i (i.1 - 1) i.2 := ⟨hd1 h.1 h.2.1, hd3 h.2.1, hd2 h.2.1, h.2.2⟩
theorem Ubb (Qf : Qb → Prop) (s : List Qb) (f : Qb → Bool) (i : Nat × Int) (m39 : Nat) (v8 : Int) (hl : m39 < i.1) (e : runL (By s f) m39 v8 = Qnx s f) (h : Qff s m39 v8) : ∃ j : Nat × Int, Qpo Qf s f v8 j.2 (Lv s f j ∧ j.1 < i.1) := ⟨(m39, v8), rfl, rfl, Imp.refl _, rfl, ⟨e, h⟩, hl⟩
theorem Ubd (Qf : Qb → Prop) (s : List Qb) (f : Qb → Bool) (h : (0 : Int) ≤ 0) : Qpo Qf s f 0 0 (Lv s f (Lf s)) := ⟨rfl, rfl, Imp.refl _, rfl, rfl, Nat.lt_succ_self _, h⟩
def S121 (R : Int) (s : List Qb) (f : Qb → Bool) (Qf : Qb → Prop) : Spec := ⟨[.r (.c (.l 2 Qg s)), .fn (Wm Qf f)], .v (vI R), (∀ k : Nat, k < s.length → Qf (s.getD k default))⟩
theorem ok121 (s : List Qb) (f : Qb → Bool) (Qf : Qb → Prop) : (S121 (F121 s f) s f Qf).ok Tryz.prog 121 false :=
 Qj mixed (fn := Tryz.f121) (ct := .seqk [(0, 0)] .no (.seq (.seqk [(0, 0)] .no (.blk (.loop (ι := Nat × Int) (fun i => (fun (v8 : Int) => (⟨[(0, some (.h 0 0)), (1, some (.h 1 0)), (7, some (.v (vI (s.length : Int)))), (8, some (.v (vI v8)))], [(0, some (.shr none (.l 2 Qg s))), (1, some (.fn (Wm Qf f)))], 2⟩ : St)) i.2) (Lv s f) (fun i => i.1) (Lf s) (fun i => (fun (v8 : Int) => (.seq .no (.seq (.cond .no .no) (.seq (.blk (.seq .no (.seq (.reg [(5, .fnv (Wm Qf f) (s.getD (Int.toNat v8) default))]) (.cond (.seq .no .no) .no)))) (.reg [(0, .bnd)]))))) i.2)))) (.seq .no .no))) Tryz.func121 (fun (hpre0 : ∀ k : Nat, k < s.length → Qf (s.getD k default)) => kn s fun _ => kn s fun _ => ai (Ubd Qf s f (by omega)) (fun (i0 : Nat × Int) (hi0 : Lv s f i0) => (fun (m0 : Nat) (v8 : Int) (hh0 : Qny s f i0 m0 v8) => have hI0 := hh0.1; have hl0 := hh0.2.1; have _ := hh0.2.2.1; have _ := hh0.2.2.2; ifd (v8 < (s.length : Int)) (fun h2 _ => ai (by omega : ib v8 s) (ai (Eq.refl (Wm Qf f)) (ai (Imps.pxH (ds := Qg (s.getD (Int.toNat v8) default)) (hpre0 (Int.toNat v8) (by omega))) (ifb (f (s.getD (Int.toNat v8) default)) (fun h3 => fiI v8 (F121 s f) (finR (Qr hI0 (condT h2 (condT h3 rfl))) rfl)) (fun h3 => ai (iok (v8 + 1) (by omega)) (Ubb Qf s f i0 m0 (v8 + 1) hl0 (Qd hI0 (condT h2 (condF h3 rfl))) (by refine ⟨?_, ?_⟩ <;> omega))))))) (fun h2 _ => have hD0_4 : Qnx s f = Lp.done v8 := Qk hI0 (condF h2 rfl); fiI (-1) (F121 s f) (finD hD0_4 rfl))) (i0.1 - 1) i0.2 (Uca s f i0 hi0))) (by kernel_rfl)
theorem as121 (s : List Qb) (f : Qb → Bool) : F121 s f = (idxI f s) := by
 exact Wl f s (By s f) (fun i => rfl)
theorem oa121 (s : List Qb) (f : Qb → Bool) (Qf : Qb → Prop) : (S121 (idxI f s) s f Qf).ok Tryz.prog 121 false := by
 intro hp; have h := ok121 s f Qf hp; rw [as121 s f] at h; exact h
theorem g121_0 (s : List Qb) (f : Qb → Bool) : (idxI f s) < (s.length : Int) := by
 exact Li f s
theorem g121_1 (s : List Qb) (f : Qb → Bool) : -1 ≤ (idxI f s) := by
 (show -1 ≤ idxI f s; unfold idxI; cases first (fun k => f (s.getD k default)) s.length <;> simp only [oix] <;> omega)
theorem kc121a (s : List Qb) (f : Qb → Bool) (Qf : Qb → Prop) {K_ : Prop} (p0_ : ∀ k : Nat, k < s.length → Qf (s.getD k default)) (k_ : ((idxI f s) < (s.length : Int)) → (-1 ≤ (idxI f s)) → K_) : (∀ k : Nat, k < s.length → Qf (s.getD k default)) ∧ (Imp (.l 2 Qg s) (.l 2 Qg s)) ∧ (Wm Qf f = Wm Qf f) ∧ K_ := ⟨p0_, Imp.refl _, rfl, k_ (g121_0 s f) (g121_1 s f)⟩
abbrev kh121a (s : List Qb) (f : Qb → Bool) (Qf : Qb → Prop) : Hint false Tryz.prog := .call 121 (S121 (idxI f s) s f Qf) (oa121 s f Qf) none
def F93 (s : List Qb) (f : Qb → Bool) : Bool :=
 decide ((idxI f s) ≥ 0)
def S93 (R : Bool) (s : List Qb) (f : Qb → Bool) (Qf : Qb → Prop) : Spec := ⟨[.r (.c (.l 2 Qg s)), .fn (Wm Qf f)], .v (.bool R), (∀ k : Nat, k < s.length → Qf (s.getD k default))⟩
theorem ok93 (s : List Qb) (f : Qb → Bool) (Qf : Qb → Prop) : (S93 (F93 s f) s f Qf).ok Tryz.prog 93 false :=
 Qj mixed (fn := Tryz.f93) (ct := .seqk [(0, 0)] .no (.seq (.reg [(2, kh121a s f Qf)]) .no)) Tryz.func93 (fun (hpre0 : ∀ k : Nat, k < s.length → Qf (s.getD k default)) => kn s fun _ => kc121a s f Qf (by assumption) (fun gv1 gv2 => fiB (decide ((idxI f s) ≥ 0)) (F93 s f) rfl)) (by kernel_rfl)
theorem as93 (s : List Qb) (f : Qb → Bool) : F93 s f = (s.any f) := by
 exact Lg f s
theorem oa93 (s : List Qb) (f : Qb → Bool) (Qf : Qb → Prop) : (S93 (s.any f) s f Qf).ok Tryz.prog 93 false := by
 intro hp; have h := ok93 s f Qf hp; rw [as93 s f] at h; exact h
def F91 (text : ByteArray) (p1 : List Qb) : Bool :=
 (!(p1.any (fun (x0 : Qb) => F94 x0 (F92 text))))
def S91 (text : ByteArray) (p1 : List Qb) : Spec := ⟨[.r (.c (.v (.string text))), .rp ([.l 2 Qg p1])], .v (.bool (F91 text p1)), text.size ≤ 1048576 ∧ (∀ k : Nat, 0 ≤ (p1.getD k default).Len ∧ (p1.getD k default).Len ≤ 16)⟩
theorem ok91 (text : ByteArray) (p1 : List Qb) : (S91 text p1).ok Tryz.prog 91 false :=
 Qj mixed (fn := Tryz.f91) (ct := .seq .no (.seq (.reg [(1, kh92 text)]) (.seq (.reg [(2, .call 93 (S93 (p1.any (fun (x0 : Qb) => F94 x0 (F92 text))) p1 (fun (x0 : Qb) => F94 x0 (F92 text)) (fun (x0 : Qb) => 0 ≤ x0.Len ∧ x0.Len ≤ 16)) (oa93 p1 (fun (x0 : Qb) => F94 x0 (F92 text)) (fun (x0 : Qb) => 0 ≤ x0.Len ∧ x0.Len ≤ 16)) (some ⟨true, 94, Wm (fun (x0 : Qb) => 0 ≤ x0.Len ∧ x0.Len ≤ 16) (fun (x0 : Qb) => F94 x0 (F92 text)), [.rp ([.v (vI (F92 text))])], rfl, True, fun i => Uat (ok94 i (F92 text))⟩))]) .no))) Tryz.func91 (fun (hp : text.size ≤ 1048576 ∧ (∀ k : Nat, 0 ≤ (p1.getD k default).Len ∧ (p1.getD k default).Len ≤ 16)) => have hpre0 := hp.1; have hpre1 := hp.2; kc92 text (by omega) (ai (by exact fun k _ => hpre1 k : ∀ k : Nat, k < p1.length → (fun (x0 : Qb) => 0 ≤ x0.Len ∧ x0.Len ≤ 16) (p1.getD k default)) (ai (Imp.refl (.l 2 Qg p1)) (ai (Eq.refl (Wm (fun (x0 : Qb) => 0 ≤ x0.Len ∧ x0.Len ≤ 16) (fun (x0 : Qb) => F94 x0 (F92 text)))) (ai trivial (ai (Imps.refl [.v (vI (F92 text))]) (fiB (!(p1.any (fun (x0 : Qb) => F94 x0 (F92 text)))) (F91 text p1) rfl))))))) (by kernel_rfl)
def Vy (lines : List ByteArray) : (List ByteArray × Int) → Lp (List ByteArray × Int) Bool := fun (addrs1, v13) =>
 bif (decide (v13 < ((Qa lines (⟨#[114, 111, 117, 116, 101]⟩ : ByteArray)).length : Int))) then (.next ((addrs1 ++ [(((Qa lines (⟨#[114, 111, 117, 116, 101]⟩ : ByteArray)).getD (Int.toNat v13) default).getD (Int.toNat 2) default)]), (v13 + 1))) else (.done (addrs1, v13))
def Mt (lines : List ByteArray) : Lp (List ByteArray) Bool :=
 (runL (Vy lines) ((Int.toNat (((Qa lines (⟨#[114, 111, 117, 116, 101]⟩ : ByteArray)).length : Int) - 0)) + 1) (([] : List ByteArray), 0)).fin Lp.ret (fun (addrs1, v13) => .done addrs1)
def Vs (lines : List ByteArray) (addrs : List ByteArray) : (List ByteArray × Int) → Lp (List ByteArray × Int) Bool := fun (addrs3, v27) =>
 bif (decide (v27 < ((Qa lines (⟨#[112, 101, 101, 114]⟩ : ByteArray)).length : Int))) then (.next ((addrs3 ++ [(((Qa lines (⟨#[112, 101, 101, 114]⟩ : ByteArray)).getD (Int.toNat v27) default).getD (Int.toNat 1) default)]), (v27 + 1))) else (.done (addrs3, v27))
def Gy (lines : List ByteArray) (addrs : List ByteArray) : Lp (List ByteArray) Bool :=
 (runL (Vs lines addrs) ((Int.toNat (((Qa lines (⟨#[112, 101, 101, 114]⟩ : ByteArray)).length : Int) - 0)) + 1) (addrs, 0)).fin Lp.ret (fun (addrs3, v27) => .done addrs3)
def F48 (lines : List ByteArray) : Bool :=
 (Mt lines).fin (fun r => r) (fun addrs => (Gy lines addrs).fin (fun r => r) (fun addrs2 => (addrs2.any (fun (x0 : ByteArray) => F91 x0 (Ql lines)))))
abbrev Rh (lines : List ByteArray) : Nat × (List ByteArray × Int) := (((Int.toNat (((Qa lines (⟨#[114, 111, 117, 116, 101]⟩ : ByteArray)).length : Int) - 0)) + 1), (([] : List ByteArray), 0))
abbrev Qmc (lines : List ByteArray) (m39 : Nat) (addrs1 : List ByteArray) (v13 : Int) : Prop := Int.toNat (((Qa lines (⟨#[114, 111, 117, 116, 101]⟩ : ByteArray)).length : Int) - v13) < m39 ∧ (addrs1.length : Int) ≤ v13 ∧ v13 ≤ ((Qa lines (⟨#[114, 111, 117, 116, 101]⟩ : ByteArray)).length : Int) ∧ (∀ k : Nat, (addrs1.getD k default).size ≤ 1048576) ∧ (0 : Int) ≤ v13
abbrev Qss (lines : List ByteArray) : Lp (List ByteArray × Int) Bool := LpX (Vy lines) (Rh lines)
abbrev Ru (lines : List ByteArray) (i : Nat × (List ByteArray × Int)) : Prop := LpJ (Vy lines) (Rh lines) i (Qmc lines i.1 i.2.1 i.2.2)
abbrev Qyx (lines : List ByteArray) (i : Nat × (List ByteArray × Int)) (m39 : Nat) (addrs1 : List ByteArray) (v13 : Int) : Prop := LpH (Vy lines) (Rh lines) i m39 (addrs1, v13) (Qmc lines (m39 + 1) addrs1 v13)
abbrev Qtt (lines : List ByteArray) (addrs1 : List ByteArray) (v13 : Int) (addrs1_ : List ByteArray) (v13_ : Int) (K39 : Prop) : Prop := (Rf (.int .i64 ((Qa lines (⟨#[114, 111, 117, 116, 101]⟩ : ByteArray)).length : Int))) ∧ ((.int .i64 v13 : Value) = .int .i64 v13_) ∧ (Im (.l 1 eStr lines)) ∧ (Imp (.l 1 eStr addrs1) (.l 1 eStr addrs1_)) ∧ (Im (.l 1 (eL 1 eStr) (Qa lines (⟨#[114, 111, 117, 116, 101]⟩ : ByteArray)))) ∧ K39
theorem un48_0 (lines : List ByteArray) (i : Nat × (List ByteArray × Int)) (h : Ru lines i) : Qyx lines i (i.1 - 1) i.2.1 i.2.2 := ⟨hd1 h.1 h.2.1, hd3 h.2.1, hd2 h.2.1, h.2.2⟩
theorem bk48_0 (lines : List ByteArray) (i : Nat × (List ByteArray × Int)) (m39 : Nat) (addrs1 : List ByteArray) (v13 : Int) (hl : m39 < i.1) (e : runL (Vy lines) m39 (addrs1, v13) = Qss lines) (h : Qmc lines m39 addrs1 v13) : ∃ j : Nat × (List ByteArray × Int), Qtt lines addrs1 v13 j.2.1 j.2.2 (Ru lines j ∧ j.1 < i.1) := ⟨(m39, (addrs1, v13)), rfl, rfl, Imp.refl _, Imp.refl _, Imp.refl _, ⟨e, h⟩, hl⟩
theorem en48_0 (lines : List ByteArray) (h : (([] : List ByteArray).length : Int) ≤ 0 ∧ 0 ≤ ((Qa lines (⟨#[114, 111, 117, 116, 101]⟩ : ByteArray)).length : Int) ∧ (∀ k : Nat, (([] : List ByteArray).getD k default).size ≤ 1048576) ∧ (0 : Int) ≤ 0) : Qtt lines ([] : List ByteArray) 0 ([] : List ByteArray) 0 (Ru lines (Rh lines)) := ⟨rfl, rfl, Imp.refl _, Imp.refl _, Imp.refl _, rfl, Nat.lt_succ_self _, h⟩
abbrev Qlu (lines : List ByteArray) (addrs : List ByteArray) : Prop := (addrs.length : Int) ≤ 16 ∧ (∀ k : Nat, (addrs.getD k default).size ≤ 1048576)
abbrev Qkg (lines : List ByteArray) (j : List ByteArray) : Prop := (Mt lines) = Lp.done j ∧ Qlu lines j
theorem jn48_0 (lines : List ByteArray) (addrs : List ByteArray) (e : (Mt lines) = Lp.done addrs) (h : Qlu lines addrs) : ∃ j : List ByteArray, (Imp (.l 1 eStr lines) (.l 1 eStr lines)) ∧ (Imp (.l 1 eStr addrs) (.l 1 eStr j)) ∧ Qkg lines j := ⟨addrs, Imp.refl _, Imp.refl _, e, h⟩
abbrev Rr (lines : List ByteArray) (addrs : List ByteArray) : Nat × (List ByteArray × Int) := (((Int.toNat (((Qa lines (⟨#[112, 101, 101, 114]⟩ : ByteArray)).length : Int) - 0)) + 1), (addrs, 0))
abbrev Qnb (lines : List ByteArray) (m39 : Nat) (addrs3 : List ByteArray) (v27 : Int) : Prop := Int.toNat (((Qa lines (⟨#[112, 101, 101, 114]⟩ : ByteArray)).length : Int) - v27) < m39 ∧ (addrs3.length : Int) ≤ 16 + v27 ∧ v27 ≤ ((Qa lines (⟨#[112, 101, 101, 114]⟩ : ByteArray)).length : Int) ∧ (∀ k : Nat, (addrs3.getD k default).size ≤ 1048576) ∧ (0 : Int) ≤ v27
abbrev Qxo (lines : List ByteArray) (addrs : List ByteArray) : Lp (List ByteArray × Int) Bool := LpX (Vs lines addrs) (Rr lines addrs)
abbrev Ra (lines : List ByteArray) (addrs : List ByteArray) (i : Nat × (List ByteArray × Int)) : Prop := LpJ (Vs lines addrs) (Rr lines addrs) i (Qnb lines i.1 i.2.1 i.2.2)
abbrev Qva (lines : List ByteArray) (addrs : List ByteArray) (i : Nat × (List ByteArray × Int)) (m39 : Nat) (addrs3 : List ByteArray) (v27 : Int) : Prop := LpH (Vs lines addrs) (Rr lines addrs) i m39 (addrs3, v27) (Qnb lines (m39 + 1) addrs3 v27)
abbrev Qtj (lines : List ByteArray) (addrs3 : List ByteArray) (v27 : Int) (addrs3_ : List ByteArray) (v27_ : Int) (K39 : Prop) : Prop := (Rf (.int .i64 ((Qa lines (⟨#[112, 101, 101, 114]⟩ : ByteArray)).length : Int))) ∧ ((.int .i64 v27 : Value) = .int .i64 v27_) ∧ (Im (.l 1 eStr lines)) ∧ (Imp (.l 1 eStr addrs3) (.l 1 eStr addrs3_)) ∧ (Im (.l 1 (eL 1 eStr) (Qa lines (⟨#[112, 101, 101, 114]⟩ : ByteArray)))) ∧ K39
theorem un48_1 (lines : List ByteArray) (addrs : List ByteArray) (i : Nat × (List ByteArray × Int)) (h : Ra lines addrs i) : Qva lines addrs i (i.1 - 1) i.2.1 i.2.2 := ⟨hd1 h.1 h.2.1, hd3 h.2.1, hd2 h.2.1, h.2.2⟩
theorem bk48_1 (lines : List ByteArray) (addrs : List ByteArray) (i : Nat × (List ByteArray × Int)) (m39 : Nat) (addrs3 : List ByteArray) (v27 : Int) (hl : m39 < i.1) (e : runL (Vs lines addrs) m39 (addrs3, v27) = Qxo lines addrs) (h : Qnb lines m39 addrs3 v27) : ∃ j : Nat × (List ByteArray × Int), Qtj lines addrs3 v27 j.2.1 j.2.2 (Ra lines addrs j ∧ j.1 < i.1) := ⟨(m39, (addrs3, v27)), rfl, rfl, Imp.refl _, Imp.refl _, Imp.refl _, ⟨e, h⟩, hl⟩
theorem en48_1 (lines : List ByteArray) (addrs : List ByteArray) (h : (addrs.length : Int) ≤ 16 + 0 ∧ 0 ≤ ((Qa lines (⟨#[112, 101, 101, 114]⟩ : ByteArray)).length : Int) ∧ (∀ k : Nat, (addrs.getD k default).size ≤ 1048576) ∧ (0 : Int) ≤ 0) : Qtj lines addrs 0 addrs 0 (Ra lines addrs (Rr lines addrs)) := ⟨rfl, rfl, Imp.refl _, Imp.refl _, Imp.refl _, rfl, Nat.lt_succ_self _, h⟩
abbrev Qmo (lines : List ByteArray) (addrs : List ByteArray) (addrs2 : List ByteArray) : Prop := (addrs2.length : Int) ≤ 32 ∧ (∀ k : Nat, (addrs2.getD k default).size ≤ 1048576)
abbrev Qls (lines : List ByteArray) (addrs : List ByteArray) (j : List ByteArray) : Prop := (Gy lines addrs) = Lp.done j ∧ Qmo lines addrs j
theorem jn48_1 (lines : List ByteArray) (addrs : List ByteArray) (addrs2 : List ByteArray) (e : (Gy lines addrs) = Lp.done addrs2) (h : Qmo lines addrs addrs2) : ∃ j : List ByteArray, (Imp (.l 1 eStr lines) (.l 1 eStr lines)) ∧ (Imp (.l 1 eStr addrs2) (.l 1 eStr j)) ∧ Qls lines addrs j := ⟨addrs2, Imp.refl _, Imp.refl _, e, h⟩
def S48 (lines : List ByteArray) : Spec := ⟨[.r (.c (.l 1 eStr lines))], .v (.bool (F48 lines)), F25 lines = 0 ∧ lines.length ≤ 16 ∧ (∀ k : Nat, (lines.getD k default).size ≤ 1048576)⟩
theorem ok48 (lines : List ByteArray) : (S48 lines).ok Tryz.prog 48 false :=
 Qj mixed (fn := Tryz.f48) (ct := .seqk [(0, 0)] .no (.seq (.reg [(0, .dat (.l 1 eStr ([] : List ByteArray)))]) (.cut (ι := List ByteArray) (fun j => (fun (addrs : List ByteArray) => (⟨[(0, some (.h 0 0)), (3, some (.h 1 0))], [(0, some (.shr none (.l 1 eStr lines))), (1, some (.own 1 (.l 1 eStr addrs)))], 2⟩ : St)) j) (Qkg lines) (.seqk [(3, 0), (11, 0)] (.reg [(1, Bj lines (⟨#[114, 111, 117, 116, 101]⟩ : ByteArray))]) (.blk (.loop (ι := Nat × (List ByteArray × Int)) (fun i => (fun (addrs1 : List ByteArray) (v13 : Int) => (⟨[(0, some (.h 0 0)), (3, some (.h 1 0)), (11, some (.h 2 0)), (12, some (.v (vI ((Qa lines (⟨#[114, 111, 117, 116, 101]⟩ : ByteArray)).length : Int)))), (13, some (.v (vI v13)))], [(0, some (.shr none (.l 1 eStr lines))), (1, some (.own 1 (.l 1 eStr addrs1))), (2, some (.own 2 (.l 1 (eL 1 eStr) (Qa lines (⟨#[114, 111, 117, 116, 101]⟩ : ByteArray)))))], 3⟩ : St)) i.2.1 i.2.2) (Ru lines) (fun i => i.1) (Rh lines) (fun i => (fun (addrs1 : List ByteArray) (v13 : Int) => (.seq .no (.seq (.cond .no .no) (.seq (.blk (.seq .no (.reg [(5, .dat (.l 1 eStr (addrs1 ++ [(((Qa lines (⟨#[114, 111, 117, 116, 101]⟩ : ByteArray)).getD (Int.toNat v13) default).getD (Int.toNat 2) default)])))]))) (.reg [(0, .bnd)]))))) i.2.1 i.2.2)))) (fun j => (fun (addrs : List ByteArray) => (.cut (ι := List ByteArray) (fun j => (fun (addrs2 : List ByteArray) => (⟨[(0, some (.h 0 0)), (3, some (.h 1 0))], [(0, some (.shr none (.l 1 eStr lines))), (1, some (.own 1 (.l 1 eStr addrs2)))], 2⟩ : St)) j) (Qls lines addrs) (.seqk [(3, 0), (25, 0)] (.reg [(1, Bj lines (⟨#[112, 101, 101, 114]⟩ : ByteArray))]) (.blk (.loop (ι := Nat × (List ByteArray × Int)) (fun i => (fun (addrs3 : List ByteArray) (v27 : Int) => (⟨[(0, some (.h 0 0)), (3, some (.h 1 0)), (25, some (.h 2 0)), (26, some (.v (vI ((Qa lines (⟨#[112, 101, 101, 114]⟩ : ByteArray)).length : Int)))), (27, some (.v (vI v27)))], [(0, some (.shr none (.l 1 eStr lines))), (1, some (.own 1 (.l 1 eStr addrs3))), (2, some (.own 2 (.l 1 (eL 1 eStr) (Qa lines (⟨#[112, 101, 101, 114]⟩ : ByteArray)))))], 3⟩ : St)) i.2.1 i.2.2) (Ra lines addrs) (fun i => i.1) (Rr lines addrs) (fun i => (fun (addrs3 : List ByteArray) (v27 : Int) => (.seq .no (.seq (.cond .no .no) (.seq (.blk (.seq .no (.reg [(5, .dat (.l 1 eStr (addrs3 ++ [(((Qa lines (⟨#[112, 101, 101, 114]⟩ : ByteArray)).getD (Int.toNat v27) default).getD (Int.toNat 1) default)])))]))) (.reg [(0, .bnd)]))))) i.2.1 i.2.2)))) (fun j => (fun (addrs2 : List ByteArray) => (.seq (.reg [(1, kh89a lines)]) (.seq (.reg [(2, .call 37 (S37 (addrs2.any (fun (x0 : ByteArray) => F91 x0 (Ql lines))) addrs2 (fun (x0 : ByteArray) => F91 x0 (Ql lines)) (fun (x0 : ByteArray) => x0.size ≤ 1048576 ∧ (∀ k : Nat, 0 ≤ ((Ql lines).getD k default).Len ∧ ((Ql lines).getD k default).Len ≤ 16))) (oa37 addrs2 (fun (x0 : ByteArray) => F91 x0 (Ql lines)) (fun (x0 : ByteArray) => x0.size ≤ 1048576 ∧ (∀ k : Nat, 0 ≤ ((Ql lines).getD k default).Len ∧ ((Ql lines).getD k default).Len ≤ 16))) (some ⟨false, 91, Ym (fun (x0 : ByteArray) => x0.size ≤ 1048576 ∧ (∀ k : Nat, 0 ≤ ((Ql lines).getD k default).Len ∧ ((Ql lines).getD k default).Len ≤ 16)) (fun (x0 : ByteArray) => F91 x0 (Ql lines)), [.rp ([.l 2 Qg (Ql lines)])], rfl, True, fun i => Vk (ok91 i (Ql lines))⟩))]) .no))) j))) j)))) Tryz.func48 (fun (hp : F25 lines = 0 ∧ lines.length ≤ 16 ∧ (∀ k : Nat, (lines.getD k default).size ≤ 1048576)) => have hpre0 := hp.1; have hpre1 := hp.2.1; have hpre2 := hp.2.2; kn lines fun _ => ai (bokr 1 eStr ([] : List ByteArray) fun _ => rfl) (ai (Ls lines (⟨#[114, 111, 117, 116, 101]⟩ : ByteArray) (by omega) (by assumption) (by omega) (fun gv1 => kn ([] : List ByteArray) fun _ => kn (Qa lines (⟨#[114, 111, 117, 116, 101]⟩ : ByteArray)) fun _ => ai (en48_0 lines (by refine ⟨?_, ?_, ?_, ?_⟩ <;> first | omega | (simp only [lens, ib] at * <;> omega) | exact Nf (by assumption) (Ys lines _ (by first | omega | (simp only [lens, ib] at * <;> omega)) _ _) | exact Bf)) (fun (i0 : Nat × (List ByteArray × Int)) (hi0 : Ru lines i0) => (fun (m0 : Nat) (addrs1 : List ByteArray) (v13 : Int) (hh0 : Qyx lines i0 m0 addrs1 v13) => have hI0 := hh0.1; have hl0 := hh0.2.1; have _ := hh0.2.2.1; have _ := hh0.2.2.2.1; have _ := hh0.2.2.2.2.1; have _ := hh0.2.2.2.2.2.1; have _ := hh0.2.2.2.2.2.2; ifd (v13 < ((Qa lines (⟨#[114, 111, 117, 116, 101]⟩ : ByteArray)).length : Int)) (fun h3 _ => ai (by (omega) : 0 ≤ v13 ∧ v13 < ((Qa lines (⟨#[114, 111, 117, 116, 101]⟩ : ByteArray)).length : Int)) (ai (by (have h9 := Qyc lines (by omega) (Int.toNat v13) (by omega); unfold Jj at h9; omega) : 0 ≤ (2 : Int) ∧ (2 : Int) < (((Qa lines (⟨#[114, 111, 117, 116, 101]⟩ : ByteArray)).getD (Int.toNat v13) default).length : Int)) (ai (appr 1 eStr addrs1 [(((Qa lines (⟨#[114, 111, 117, 116, 101]⟩ : ByteArray)).getD (Int.toNat v13) default).getD (Int.toNat 2) default)] fun _ => rfl) (ai (by (try simp only [lens]); omega : (addrs1 ++ [(((Qa lines (⟨#[114, 111, 117, 116, 101]⟩ : ByteArray)).getD (Int.toNat v13) default).getD (Int.toNat 2) default)]).length * 16 ≤ 140737488355328) (ai (iok (v13 + 1) (by omega)) (bk48_0 lines i0 m0 (addrs1 ++ [(((Qa lines (⟨#[114, 111, 117, 116, 101]⟩ : ByteArray)).getD (Int.toNat v13) default).getD (Int.toNat 2) default)]) (v13 + 1) hl0 (Qd hI0 (condT h3 rfl)) (by refine ⟨?_, ?_, ?_, ?_, ?_⟩ <;> first | omega | (simp only [lens, ib] at * <;> omega) | exact Nf (by assumption) (Ys lines _ (by first | omega | (simp only [lens, ib] at * <;> omega)) _ _) | exact Bf))))))) (fun h3 _ => have hD0_4 : Qss lines = Lp.done (addrs1, v13) := Qk hI0 (condF h3 rfl); jn48_0 lines addrs1 (Eq.symm (finD hD0_4 rfl)) (by refine ⟨?_, ?_⟩ <;> omega))) (i0.1 - 1) i0.2.1 i0.2.2 (un48_0 lines i0 hi0)))) (fun (j : List ByteArray) (hj : Qkg lines j) => (fun (addrs : List ByteArray) (hJ0_5 : (Mt lines) = Lp.done addrs) (hw : Qlu lines addrs) => have _ := hw.1; have _ := hw.2; ai (Ls lines (⟨#[112, 101, 101, 114]⟩ : ByteArray) (by omega) (by assumption) (by omega) (fun gv6 => kn addrs fun _ => kn (Qa lines (⟨#[112, 101, 101, 114]⟩ : ByteArray)) fun _ => ai (en48_1 lines addrs (by refine ⟨?_, ?_, ?_, ?_⟩ <;> omega)) (fun (i1 : Nat × (List ByteArray × Int)) (hi1 : Ra lines addrs i1) => (fun (m1 : Nat) (addrs3 : List ByteArray) (v27 : Int) (hh1 : Qva lines addrs i1 m1 addrs3 v27) => have hI1 := hh1.1; have hl1 := hh1.2.1; have _ := hh1.2.2.1; have _ := hh1.2.2.2.1; have _ := hh1.2.2.2.2.1; have _ := hh1.2.2.2.2.2.1; have _ := hh1.2.2.2.2.2.2; ifd (v27 < ((Qa lines (⟨#[112, 101, 101, 114]⟩ : ByteArray)).length : Int)) (fun h8 _ => ai (by (omega) : 0 ≤ v27 ∧ v27 < ((Qa lines (⟨#[112, 101, 101, 114]⟩ : ByteArray)).length : Int)) (ai (by (have h9 := Ubm lines (by omega) (Int.toNat v27) (by omega); unfold Lh at h9; omega) : 0 ≤ (1 : Int) ∧ (1 : Int) < (((Qa lines (⟨#[112, 101, 101, 114]⟩ : ByteArray)).getD (Int.toNat v27) default).length : Int)) (ai (appr 1 eStr addrs3 [(((Qa lines (⟨#[112, 101, 101, 114]⟩ : ByteArray)).getD (Int.toNat v27) default).getD (Int.toNat 1) default)] fun _ => rfl) (ai (by (try simp only [lens]); omega : (addrs3 ++ [(((Qa lines (⟨#[112, 101, 101, 114]⟩ : ByteArray)).getD (Int.toNat v27) default).getD (Int.toNat 1) default)]).length * 16 ≤ 140737488355328) (ai (iok (v27 + 1) (by omega)) (bk48_1 lines addrs i1 m1 (addrs3 ++ [(((Qa lines (⟨#[112, 101, 101, 114]⟩ : ByteArray)).getD (Int.toNat v27) default).getD (Int.toNat 1) default)]) (v27 + 1) hl1 (Qd hI1 (condT h8 rfl)) (by refine ⟨?_, ?_, ?_, ?_, ?_⟩ <;> first | omega | (simp only [lens, ib] at * <;> omega) | exact Nf (by assumption) (Ys lines _ (by first | omega | (simp only [lens, ib] at * <;> omega)) _ _) | assumption))))))) (fun h8 _ => have hD1_9 : Qxo lines addrs = Lp.done (addrs3, v27) := Qk hI1 (condF h8 rfl); jn48_1 lines addrs addrs3 (Eq.symm (finD hD1_9 rfl)) (by refine ⟨?_, ?_⟩ <;> omega))) (i1.1 - 1) i1.2.1 i1.2.2 (un48_1 lines addrs i1 hi1)))) (fun (j : List ByteArray) (hj : Qls lines addrs j) => (fun (addrs2 : List ByteArray) (hJ1_10 : (Gy lines addrs) = Lp.done addrs2) (hw : Qmo lines addrs addrs2) => have _ := hw.1; have _ := hw.2; kc89a lines (by omega) (by omega) (by assumption) (ai (by exact fun k _ => ⟨(by assumption : ∀ k : Nat, (addrs2.getD k default).size ≤ 1048576) k, Zd lines⟩ : ∀ k : Nat, k < addrs2.length → (fun (x0 : ByteArray) => x0.size ≤ 1048576 ∧ (∀ k : Nat, 0 ≤ ((Ql lines).getD k default).Len ∧ ((Ql lines).getD k default).Len ≤ 16)) (addrs2.getD k default)) (ai (Imp.refl (.l 1 eStr addrs2)) (ai (Eq.refl (Ym (fun (x0 : ByteArray) => x0.size ≤ 1048576 ∧ (∀ k : Nat, 0 ≤ ((Ql lines).getD k default).Len ∧ ((Ql lines).getD k default).Len ≤ 16)) (fun (x0 : ByteArray) => F91 x0 (Ql lines)))) (ai trivial (ai (Imps.refl [.l 2 Qg (Ql lines)]) (fiB (addrs2.any (fun (x0 : ByteArray) => F91 x0 (Ql lines))) (F48 lines) (finD hJ0_5 (finD hJ1_10 rfl))))))))) j hj.1 hj.2)) j hj.1 hj.2))) (by kernel_rfl)
abbrev kh95f (p : Qb) (addr : Int) : Hint false Tryz.prog := .call 95 (S95 p addr) ((ok95 p addr).to false) none
theorem kg97 {K_ : Prop} (c_ b_ : Bool) (word : ByteArray) (p_ : c_ = b_ → word.size ≤ 1048576) (k_ : K_) : (c_ = b_ → word.size ≤ 1048576) ∧ (c_ = b_ → Imp (.v (.string word)) (.v (.string word))) ∧ K_ := ⟨p_, fun _ => Imp.refl _, k_⟩
def Xr (lines : List ByteArray) (v64 : Int) : Int → Lp Int Bool := fun v89 =>
 bif (decide (v89 < (((Qa lines (⟨#[100, 111, 111, 114]⟩ : ByteArray)).take (Int.toNat v64)).length : Int))) then (bif (bif (bif (((((Qa lines (⟨#[100, 111, 111, 114]⟩ : ByteArray)).take (Int.toNat v64)).getD (Int.toNat v89) default).getD (Int.toNat 1) default).toList == (((Qa lines (⟨#[100, 111, 111, 114]⟩ : ByteArray)).getD (Int.toNat v64) default).getD (Int.toNat 1) default).toList) then (((((Qa lines (⟨#[100, 111, 111, 114]⟩ : ByteArray)).take (Int.toNat v64)).getD (Int.toNat v89) default).getD (Int.toNat 3) default).toList == (((Qa lines (⟨#[100, 111, 111, 114]⟩ : ByteArray)).getD (Int.toNat v64) default).getD (Int.toNat 3) default).toList) else false) then (((((Qa lines (⟨#[100, 111, 111, 114]⟩ : ByteArray)).take (Int.toNat v64)).getD (Int.toNat v89) default).getD (Int.toNat 4) default).toList == (((Qa lines (⟨#[100, 111, 111, 114]⟩ : ByteArray)).getD (Int.toNat v64) default).getD (Int.toNat 4) default).toList) else false) then (.ret true) else (.next (v89 + 1))) else (.done v89)
def Xl (lines : List ByteArray) : Int → Lp Int Bool := fun v64 =>
 bif (decide (v64 < ((Qa lines (⟨#[100, 111, 111, 114]⟩ : ByteArray)).length : Int))) then (bif (bif (!(F95 ((F96 (((Qa lines (⟨#[110, 97, 116]⟩ : ByteArray)).getD (Int.toNat 0) default).getD (Int.toNat 1) default)).1) (F92 (((Qa lines (⟨#[100, 111, 111, 114]⟩ : ByteArray)).getD (Int.toNat v64) default).getD (Int.toNat 3) default)))) then true else (decide ((F97 (((Qa lines (⟨#[110, 97, 116]⟩ : ByteArray)).getD (Int.toNat 0) default).getD (Int.toNat 3) default)) ≤ (F97 (((Qa lines (⟨#[100, 111, 111, 114]⟩ : ByteArray)).getD (Int.toNat v64) default).getD (Int.toNat 2) default)) ∧ (F97 (((Qa lines (⟨#[100, 111, 111, 114]⟩ : ByteArray)).getD (Int.toNat v64) default).getD (Int.toNat 2) default)) ≤ (F97 (((Qa lines (⟨#[110, 97, 116]⟩ : ByteArray)).getD (Int.toNat 0) default).getD (Int.toNat 4) default))))) then (.ret true) else ((runL (Xr lines v64) ((Int.toNat ((((Qa lines (⟨#[100, 111, 111, 114]⟩ : ByteArray)).take (Int.toNat v64)).length : Int) - 0)) + 1) 0).fin Lp.ret (fun v89 => .next (v64 + 1)))) else (.done v64)
def F49 (lines : List ByteArray) : Bool :=
 bif (((Qa lines (⟨#[110, 97, 116]⟩ : ByteArray)).length : Int) == 0) then (decide (((Qa lines (⟨#[100, 111, 111, 114]⟩ : ByteArray)).length : Int) > 0)) else (bif (bif (bif (F95 ((F96 (((Qa lines (⟨#[110, 97, 116]⟩ : ByteArray)).getD (Int.toNat 0) default).getD (Int.toNat 1) default)).1) (F92 (((Qa lines (⟨#[110, 97, 116]⟩ : ByteArray)).getD (Int.toNat 0) default).getD (Int.toNat 2) default))) then true else decide ((F97 (((Qa lines (⟨#[110, 97, 116]⟩ : ByteArray)).getD (Int.toNat 0) default).getD (Int.toNat 3) default)) > (F97 (((Qa lines (⟨#[110, 97, 116]⟩ : ByteArray)).getD (Int.toNat 0) default).getD (Int.toNat 4) default)))) then true else decide (((Qa lines (⟨#[100, 111, 111, 114]⟩ : ByteArray)).length : Int) > 6)) then true else ((runL (Xl lines) ((Int.toNat (((Qa lines (⟨#[100, 111, 111, 114]⟩ : ByteArray)).length : Int) - 0)) + 1) 0).fin (fun r => r) (fun v64 => false)))
abbrev Ti (lines : List ByteArray) (v64 : Int) : Nat × Int := (((Int.toNat ((((Qa lines (⟨#[100, 111, 111, 114]⟩ : ByteArray)).take (Int.toNat v64)).length : Int) - 0)) + 1), 0)
abbrev Qnc (lines : List ByteArray) (v64 : Int) (m39 : Nat) (v89 : Int) : Prop := Int.toNat ((((Qa lines (⟨#[100, 111, 111, 114]⟩ : ByteArray)).take (Int.toNat v64)).length : Int) - v89) < m39 ∧ (0 : Int) ≤ v89
abbrev Qsp (lines : List ByteArray) (v64 : Int) : Lp Int Bool := LpX (Xr lines v64) (Ti lines v64)
abbrev Qbw (lines : List ByteArray) (v64 : Int) (i : Nat × Int) : Prop := LpJ (Xr lines v64) (Ti lines v64) i (Qnc lines v64 i.1 i.2)
abbrev Qyp (lines : List ByteArray) (v64 : Int) (i : Nat × Int) (m39 : Nat) (v89 : Int) : Prop := LpH (Xr lines v64) (Ti lines v64) i m39 v89 (Qnc lines v64 (m39 + 1) v89)
abbrev Qty (lines : List ByteArray) (v64 : Int) (v89 : Int) (v89_ : Int) (K39 : Prop) : Prop := (Rf (.int .i64 (F97 (((Qa lines (⟨#[110, 97, 116]⟩ : ByteArray)).getD (Int.toNat 0) default).getD (Int.toNat 3) default)))) ∧ (Rf (.int .i64 (F97 (((Qa lines (⟨#[110, 97, 116]⟩ : ByteArray)).getD (Int.toNat 0) default).getD (Int.toNat 4) default)))) ∧ (Rf (.int .i64 ((Qa lines (⟨#[100, 111, 111, 114]⟩ : ByteArray)).length : Int))) ∧ (Rf (.int .i64 v64)) ∧ (Rf (.int .i64 (((Qa lines (⟨#[100, 111, 111, 114]⟩ : ByteArray)).take (Int.toNat v64)).length : Int))) ∧ ((.int .i64 v89 : Value) = .int .i64 v89_) ∧ (Im (.l 1 (eL 1 eStr) (Qa lines (⟨#[100, 111, 111, 114]⟩ : ByteArray)))) ∧ (Rf (.int .i64 (((F96 (((Qa lines (⟨#[110, 97, 116]⟩ : ByteArray)).getD (Int.toNat 0) default).getD (Int.toNat 1) default)).1).Addr))) ∧ (Rf (.int .i64 (((F96 (((Qa lines (⟨#[110, 97, 116]⟩ : ByteArray)).getD (Int.toNat 0) default).getD (Int.toNat 1) default)).1).Len))) ∧ (Im (.l 1 eStr ((Qa lines (⟨#[100, 111, 111, 114]⟩ : ByteArray)).getD (Int.toNat v64) default))) ∧ (Im (.l 1 (eL 1 eStr) ((Qa lines (⟨#[100, 111, 111, 114]⟩ : ByteArray)).take (Int.toNat v64)))) ∧ K39
theorem un49_1 (lines : List ByteArray) (v64 : Int) (i : Nat × Int) (h : Qbw lines v64 i) : Qyp lines v64 i (i.1 - 1) i.2 := ⟨hd1 h.1 h.2.1, hd3 h.2.1, hd2 h.2.1, h.2.2⟩
theorem bk49_1 (lines : List ByteArray) (v64 : Int) (i : Nat × Int) (m39 : Nat) (v89 : Int) (hl : m39 < i.1) (e : runL (Xr lines v64) m39 v89 = Qsp lines v64) (h : Qnc lines v64 m39 v89) : ∃ j : Nat × Int, Qty lines v64 v89 j.2 (Qbw lines v64 j ∧ j.1 < i.1) := ⟨(m39, v89), rfl, rfl, rfl, rfl, rfl, rfl, Imp.refl _, rfl, rfl, Imp.refl _, Imp.refl _, ⟨e, h⟩, hl⟩
theorem en49_1 (lines : List ByteArray) (v64 : Int) (h : (0 : Int) ≤ 0) : Qty lines v64 0 0 (Qbw lines v64 (Ti lines v64)) := ⟨rfl, rfl, rfl, rfl, rfl, rfl, Imp.refl _, rfl, rfl, Imp.refl _, Imp.refl _, rfl, Nat.lt_succ_self _, h⟩
abbrev Qal (lines : List ByteArray) : Nat × Int := (((Int.toNat (((Qa lines (⟨#[100, 111, 111, 114]⟩ : ByteArray)).length : Int) - 0)) + 1), 0)
abbrev Qmi (lines : List ByteArray) (m39 : Nat) (v64 : Int) : Prop := Int.toNat (((Qa lines (⟨#[100, 111, 111, 114]⟩ : ByteArray)).length : Int) - v64) < m39 ∧ (0 : Int) ≤ v64
abbrev Ual (lines : List ByteArray) : Lp Int Bool := LpX (Xl lines) (Qal lines)
abbrev Rs (lines : List ByteArray) (i : Nat × Int) : Prop := LpJ (Xl lines) (Qal lines) i (Qmi lines i.1 i.2)
abbrev Qwj (lines : List ByteArray) (i : Nat × Int) (m39 : Nat) (v64 : Int) : Prop := LpH (Xl lines) (Qal lines) i m39 v64 (Qmi lines (m39 + 1) v64)
abbrev Qrs (lines : List ByteArray) (v64 : Int) (v64_ : Int) (K39 : Prop) : Prop := (Rf (.int .i64 (F97 (((Qa lines (⟨#[110, 97, 116]⟩ : ByteArray)).getD (Int.toNat 0) default).getD (Int.toNat 3) default)))) ∧ (Rf (.int .i64 (F97 (((Qa lines (⟨#[110, 97, 116]⟩ : ByteArray)).getD (Int.toNat 0) default).getD (Int.toNat 4) default)))) ∧ (Rf (.int .i64 ((Qa lines (⟨#[100, 111, 111, 114]⟩ : ByteArray)).length : Int))) ∧ ((.int .i64 v64 : Value) = .int .i64 v64_) ∧ (Im (.l 1 (eL 1 eStr) (Qa lines (⟨#[100, 111, 111, 114]⟩ : ByteArray)))) ∧ (Rf (.int .i64 (((F96 (((Qa lines (⟨#[110, 97, 116]⟩ : ByteArray)).getD (Int.toNat 0) default).getD (Int.toNat 1) default)).1).Addr))) ∧ (Rf (.int .i64 (((F96 (((Qa lines (⟨#[110, 97, 116]⟩ : ByteArray)).getD (Int.toNat 0) default).getD (Int.toNat 1) default)).1).Len))) ∧ K39
theorem un49_0 (lines : List ByteArray) (i : Nat × Int) (h : Rs lines i) : Qwj lines i (i.1 - 1) i.2 := ⟨hd1 h.1 h.2.1, hd3 h.2.1, hd2 h.2.1, h.2.2⟩
theorem bk49_0 (lines : List ByteArray) (i : Nat × Int) (m39 : Nat) (v64 : Int) (hl : m39 < i.1) (e : runL (Xl lines) m39 v64 = Ual lines) (h : Qmi lines m39 v64) : ∃ j : Nat × Int, Qrs lines v64 j.2 (Rs lines j ∧ j.1 < i.1) := ⟨(m39, v64), rfl, rfl, rfl, rfl, Imp.refl _, rfl, rfl, ⟨e, h⟩, hl⟩
theorem en49_0 (lines : List ByteArray) (h : (0 : Int) ≤ 0) : Qrs lines 0 0 (Rs lines (Qal lines)) := ⟨rfl, rfl, rfl, rfl, Imp.refl _, rfl, rfl, rfl, Nat.lt_succ_self _, h⟩
def S49 (lines : List ByteArray) : Spec := ⟨[.r (.c (.l 1 eStr lines))], .v (.bool (F49 lines)), F25 lines = 0 ∧ lines.length ≤ 16 ∧ (∀ k : Nat, (lines.getD k default).size ≤ 1048576)⟩
theorem ok49 (lines : List ByteArray) : (S49 lines).ok Tryz.prog 49 false :=
 Qj mixed (fn := Tryz.f49) (ct := .seqk [(0, 0)] .no (.seq (.reg [(1, Bj lines (⟨#[110, 97, 116]⟩ : ByteArray)), (3, Bj lines (⟨#[100, 111, 111, 114]⟩ : ByteArray))]) (.seq (.seq .no (.cond (.seq .no .no) .no)) (.seq (.reg [(5, kh96 (((Qa lines (⟨#[110, 97, 116]⟩ : ByteArray)).getD (Int.toNat 0) default).getD (Int.toNat 1) default))]) (.seq (.reg [(5, kh97 (((Qa lines (⟨#[110, 97, 116]⟩ : ByteArray)).getD (Int.toNat 0) default).getD (Int.toNat 3) default)), (11, kh97 (((Qa lines (⟨#[110, 97, 116]⟩ : ByteArray)).getD (Int.toNat 0) default).getD (Int.toNat 4) default))]) (.seq (.seq (.reg [(6, kh92 (((Qa lines (⟨#[110, 97, 116]⟩ : ByteArray)).getD (Int.toNat 0) default).getD (Int.toNat 2) default)), (7, kh95f ((F96 (((Qa lines (⟨#[110, 97, 116]⟩ : ByteArray)).getD (Int.toNat 0) default).getD (Int.toNat 1) default)).1) (F92 (((Qa lines (⟨#[110, 97, 116]⟩ : ByteArray)).getD (Int.toNat 0) default).getD (Int.toNat 2) default)))]) (.cond (.seq .no .no) .no)) (.seq (.seqk [(4, 0), (62, 0)] .no (.blk (.loop (ι := Nat × Int) (fun i => (fun (v64 : Int) => (⟨[(4, some (.h 0 0)), (5, some (.p 1 0)), (7, some (.v (vI (F97 (((Qa lines (⟨#[110, 97, 116]⟩ : ByteArray)).getD (Int.toNat 0) default).getD (Int.toNat 3) default))))), (8, some (.v (vI (F97 (((Qa lines (⟨#[110, 97, 116]⟩ : ByteArray)).getD (Int.toNat 0) default).getD (Int.toNat 4) default))))), (62, some (.h 0 0)), (63, some (.v (vI ((Qa lines (⟨#[100, 111, 111, 114]⟩ : ByteArray)).length : Int)))), (64, some (.v (vI v64)))], [(0, some (.own 0 (.l 1 (eL 1 eStr) (Qa lines (⟨#[100, 111, 111, 114]⟩ : ByteArray))))), (1, some (.box 102 [.v (vI (((F96 (((Qa lines (⟨#[110, 97, 116]⟩ : ByteArray)).getD (Int.toNat 0) default).getD (Int.toNat 1) default)).1).Addr)), .v (vI (((F96 (((Qa lines (⟨#[110, 97, 116]⟩ : ByteArray)).getD (Int.toNat 0) default).getD (Int.toNat 1) default)).1).Len))]))], 2⟩ : St)) i.2) (Rs lines) (fun i => i.1) (Qal lines) (fun i => (fun (v64 : Int) => (.seq .no (.seq (.cond .no .no) (.seq (.blk (.seq (.reg [(2, .sh)]) (.seq (.seq (.reg [(4, kh92 (((Qa lines (⟨#[100, 111, 111, 114]⟩ : ByteArray)).getD (Int.toNat v64) default).getD (Int.toNat 3) default)), (5, kh95f ((F96 (((Qa lines (⟨#[110, 97, 116]⟩ : ByteArray)).getD (Int.toNat 0) default).getD (Int.toNat 1) default)).1) (F92 (((Qa lines (⟨#[100, 111, 111, 114]⟩ : ByteArray)).getD (Int.toNat v64) default).getD (Int.toNat 3) default))), (11, kh97 (((Qa lines (⟨#[100, 111, 111, 114]⟩ : ByteArray)).getD (Int.toNat v64) default).getD (Int.toNat 2) default)), (14, Ej (F97 (((Qa lines (⟨#[100, 111, 111, 114]⟩ : ByteArray)).getD (Int.toNat v64) default).getD (Int.toNat 2) default)) (F97 (((Qa lines (⟨#[110, 97, 116]⟩ : ByteArray)).getD (Int.toNat 0) default).getD (Int.toNat 3) default)) (F97 (((Qa lines (⟨#[110, 97, 116]⟩ : ByteArray)).getD (Int.toNat 0) default).getD (Int.toNat 4) default)))]) (.cond (.seq .no .no) .no)) (.seqk [(10, 0), (87, 0)] .no (.blk (.loop (ι := Nat × Int) (fun i => (fun (v89 : Int) => (⟨[(4, some (.h 0 0)), (5, some (.p 1 0)), (7, some (.v (vI (F97 (((Qa lines (⟨#[110, 97, 116]⟩ : ByteArray)).getD (Int.toNat 0) default).getD (Int.toNat 3) default))))), (8, some (.v (vI (F97 (((Qa lines (⟨#[110, 97, 116]⟩ : ByteArray)).getD (Int.toNat 0) default).getD (Int.toNat 4) default))))), (10, some (.h 2 0)), (62, some (.h 0 0)), (63, some (.v (vI ((Qa lines (⟨#[100, 111, 111, 114]⟩ : ByteArray)).length : Int)))), (64, some (.v (vI v64))), (87, some (.h 3 0)), (88, some (.v (vI (((Qa lines (⟨#[100, 111, 111, 114]⟩ : ByteArray)).take (Int.toNat v64)).length : Int)))), (89, some (.v (vI v89)))], [(0, some (.own 0 (.l 1 (eL 1 eStr) (Qa lines (⟨#[100, 111, 111, 114]⟩ : ByteArray))))), (1, some (.box 102 [.v (vI (((F96 (((Qa lines (⟨#[110, 97, 116]⟩ : ByteArray)).getD (Int.toNat 0) default).getD (Int.toNat 1) default)).1).Addr)), .v (vI (((F96 (((Qa lines (⟨#[110, 97, 116]⟩ : ByteArray)).getD (Int.toNat 0) default).getD (Int.toNat 1) default)).1).Len))])), (2, some (.shr (some (0, 0)) (.l 1 eStr ((Qa lines (⟨#[100, 111, 111, 114]⟩ : ByteArray)).getD (Int.toNat v64) default)))), (3, some (.shr (some (0, 0)) (.l 1 (eL 1 eStr) ((Qa lines (⟨#[100, 111, 111, 114]⟩ : ByteArray)).take (Int.toNat v64)))))], 4⟩ : St)) i.2) (Qbw lines v64) (fun i => i.1) (Ti lines v64) (fun i => (fun (v89 : Int) => (.seq .no (.seq (.cond .no .no) (.seq (.blk (.seq .no (.seq .no (.cond (.seq .no .no) .no)))) (.reg [(0, .bnd)]))))) i.2))))))) (.reg [(0, .bnd)]))))) i.2)))) (.seq .no .no)))))))) Tryz.func49 (fun (hp : F25 lines = 0 ∧ lines.length ≤ 16 ∧ (∀ k : Nat, (lines.getD k default).size ≤ 1048576)) => have hpre0 := hp.1; have hpre1 := hp.2.1; have hpre2 := hp.2.2; kn lines fun _ => Ls lines (⟨#[110, 97, 116]⟩ : ByteArray) (by first | omega | (simp only [lens, ib] at * <;> omega)) (by first | assumption | exact hpre2 _ | exact fun k _ => hpre2 k | (intros; exact trivial) | (intros; exact Nat.zero_le _)) (by first | omega | (simp only [lens, ib] at * <;> omega)) (fun gv1 => Ls lines (⟨#[100, 111, 111, 114]⟩ : ByteArray) (by first | omega | (simp only [lens, ib] at * <;> omega)) (by first | assumption | exact hpre2 _ | exact fun k _ => hpre2 k | (intros; exact trivial) | (intros; exact Nat.zero_le _)) (by first | omega | (simp only [lens, ib] at * <;> omega)) (fun gv2 => ife ((Qa lines (⟨#[110, 97, 116]⟩ : ByteArray)).length : Int) 0 (fun h3 _ => fiB (decide (((Qa lines (⟨#[100, 111, 111, 114]⟩ : ByteArray)).length : Int) > 0)) (F49 lines) (condT h3 rfl)) (fun h3 _ => ai (by (first | omega | (have h9 := Yt lines (by first | omega | (simp only [lens, ib] at * <;> omega)) (Int.toNat 0) (by first | omega | (simp only [lens, ib] at * <;> omega)); unfold natP at h9; omega) | (have h9 := Un lines (by first | omega | (simp only [lens, ib] at * <;> omega)) (Int.toNat v64) (by first | omega | (simp only [lens, ib] at * <;> omega)); unfold Ub at h9; omega) | (have h9 := Uh lines (by first | omega | (simp only [lens, ib] at * <;> omega)) (Int.toNat v64) (Int.toNat v89) (by first | omega | (simp only [lens, ib] at * <;> omega)); unfold Ub at h9; omega)) : 0 ≤ (0 : Int) ∧ (0 : Int) < ((Qa lines (⟨#[110, 97, 116]⟩ : ByteArray)).length : Int)) (ai (by (first | omega | (have h9 := Yt lines (by first | omega | (simp only [lens, ib] at * <;> omega)) (Int.toNat 0) (by first | omega | (simp only [lens, ib] at * <;> omega)); unfold natP at h9; omega) | (have h9 := Un lines (by first | omega | (simp only [lens, ib] at * <;> omega)) (Int.toNat v64) (by first | omega | (simp only [lens, ib] at * <;> omega)); unfold Ub at h9; omega) | (have h9 := Uh lines (by first | omega | (simp only [lens, ib] at * <;> omega)) (Int.toNat v64) (Int.toNat v89) (by first | omega | (simp only [lens, ib] at * <;> omega)); unfold Ub at h9; omega)) : 0 ≤ (1 : Int) ∧ (1 : Int) < (((Qa lines (⟨#[110, 97, 116]⟩ : ByteArray)).getD (Int.toNat 0) default).length : Int)) (kc96 (((Qa lines (⟨#[110, 97, 116]⟩ : ByteArray)).getD (Int.toNat 0) default).getD (Int.toNat 1) default) (by exact Ys lines _ (by first | omega | (simp only [lens, ib] at * <;> omega)) _ _) (ai (by (first | omega | (have h9 := Yt lines (by first | omega | (simp only [lens, ib] at * <;> omega)) (Int.toNat 0) (by first | omega | (simp only [lens, ib] at * <;> omega)); unfold natP at h9; omega) | (have h9 := Un lines (by first | omega | (simp only [lens, ib] at * <;> omega)) (Int.toNat v64) (by first | omega | (simp only [lens, ib] at * <;> omega)); unfold Ub at h9; omega) | (have h9 := Uh lines (by first | omega | (simp only [lens, ib] at * <;> omega)) (Int.toNat v64) (Int.toNat v89) (by first | omega | (simp only [lens, ib] at * <;> omega)); unfold Ub at h9; omega)) : 0 ≤ (0 : Int) ∧ (0 : Int) < ((Qa lines (⟨#[110, 97, 116]⟩ : ByteArray)).length : Int)) (ai (by (first | omega | (have h9 := Yt lines (by first | omega | (simp only [lens, ib] at * <;> omega)) (Int.toNat 0) (by first | omega | (simp only [lens, ib] at * <;> omega)); unfold natP at h9; omega) | (have h9 := Un lines (by first | omega | (simp only [lens, ib] at * <;> omega)) (Int.toNat v64) (by first | omega | (simp only [lens, ib] at * <;> omega)); unfold Ub at h9; omega) | (have h9 := Uh lines (by first | omega | (simp only [lens, ib] at * <;> omega)) (Int.toNat v64) (Int.toNat v89) (by first | omega | (simp only [lens, ib] at * <;> omega)); unfold Ub at h9; omega)) : 0 ≤ (3 : Int) ∧ (3 : Int) < (((Qa lines (⟨#[110, 97, 116]⟩ : ByteArray)).getD (Int.toNat 0) default).length : Int)) (kc97 (((Qa lines (⟨#[110, 97, 116]⟩ : ByteArray)).getD (Int.toNat 0) default).getD (Int.toNat 3) default) (by exact Ys lines _ (by first | omega | (simp only [lens, ib] at * <;> omega)) _ _) (ai (by (first | omega | (have h9 := Yt lines (by first | omega | (simp only [lens, ib] at * <;> omega)) (Int.toNat 0) (by first | omega | (simp only [lens, ib] at * <;> omega)); unfold natP at h9; omega) | (have h9 := Un lines (by first | omega | (simp only [lens, ib] at * <;> omega)) (Int.toNat v64) (by first | omega | (simp only [lens, ib] at * <;> omega)); unfold Ub at h9; omega) | (have h9 := Uh lines (by first | omega | (simp only [lens, ib] at * <;> omega)) (Int.toNat v64) (Int.toNat v89) (by first | omega | (simp only [lens, ib] at * <;> omega)); unfold Ub at h9; omega)) : 0 ≤ (0 : Int) ∧ (0 : Int) < ((Qa lines (⟨#[110, 97, 116]⟩ : ByteArray)).length : Int)) (ai (by (first | omega | (have h9 := Yt lines (by first | omega | (simp only [lens, ib] at * <;> omega)) (Int.toNat 0) (by first | omega | (simp only [lens, ib] at * <;> omega)); unfold natP at h9; omega) | (have h9 := Un lines (by first | omega | (simp only [lens, ib] at * <;> omega)) (Int.toNat v64) (by first | omega | (simp only [lens, ib] at * <;> omega)); unfold Ub at h9; omega) | (have h9 := Uh lines (by first | omega | (simp only [lens, ib] at * <;> omega)) (Int.toNat v64) (Int.toNat v89) (by first | omega | (simp only [lens, ib] at * <;> omega)); unfold Ub at h9; omega)) : 0 ≤ (4 : Int) ∧ (4 : Int) < (((Qa lines (⟨#[110, 97, 116]⟩ : ByteArray)).getD (Int.toNat 0) default).length : Int)) (kc97 (((Qa lines (⟨#[110, 97, 116]⟩ : ByteArray)).getD (Int.toNat 0) default).getD (Int.toNat 4) default) (by exact Ys lines _ (by first | omega | (simp only [lens, ib] at * <;> omega)) _ _) (ai (by (first | omega | (have h9 := Yt lines (by first | omega | (simp only [lens, ib] at * <;> omega)) (Int.toNat 0) (by first | omega | (simp only [lens, ib] at * <;> omega)); unfold natP at h9; omega) | (have h9 := Un lines (by first | omega | (simp only [lens, ib] at * <;> omega)) (Int.toNat v64) (by first | omega | (simp only [lens, ib] at * <;> omega)); unfold Ub at h9; omega) | (have h9 := Uh lines (by first | omega | (simp only [lens, ib] at * <;> omega)) (Int.toNat v64) (Int.toNat v89) (by first | omega | (simp only [lens, ib] at * <;> omega)); unfold Ub at h9; omega)) : 0 ≤ (0 : Int) ∧ (0 : Int) < ((Qa lines (⟨#[110, 97, 116]⟩ : ByteArray)).length : Int)) (ai (by (first | omega | (have h9 := Yt lines (by first | omega | (simp only [lens, ib] at * <;> omega)) (Int.toNat 0) (by first | omega | (simp only [lens, ib] at * <;> omega)); unfold natP at h9; omega) | (have h9 := Un lines (by first | omega | (simp only [lens, ib] at * <;> omega)) (Int.toNat v64) (by first | omega | (simp only [lens, ib] at * <;> omega)); unfold Ub at h9; omega) | (have h9 := Uh lines (by first | omega | (simp only [lens, ib] at * <;> omega)) (Int.toNat v64) (Int.toNat v89) (by first | omega | (simp only [lens, ib] at * <;> omega)); unfold Ub at h9; omega)) : 0 ≤ (2 : Int) ∧ (2 : Int) < (((Qa lines (⟨#[110, 97, 116]⟩ : ByteArray)).getD (Int.toNat 0) default).length : Int)) (kc92 (((Qa lines (⟨#[110, 97, 116]⟩ : ByteArray)).getD (Int.toNat 0) default).getD (Int.toNat 2) default) (by exact Ys lines _ (by first | omega | (simp only [lens, ib] at * <;> omega)) _ _) (kc95 ((F96 (((Qa lines (⟨#[110, 97, 116]⟩ : ByteArray)).getD (Int.toNat 0) default).getD (Int.toNat 1) default)).1) (F92 (((Qa lines (⟨#[110, 97, 116]⟩ : ByteArray)).getD (Int.toNat 0) default).getD (Int.toNat 2) default)) (by first | exact (Yg _).1 | exact (Yg _).2.1) (by first | exact (Yg _).1 | exact (Yg _).2.1) (ifb (bif (bif (F95 ((F96 (((Qa lines (⟨#[110, 97, 116]⟩ : ByteArray)).getD (Int.toNat 0) default).getD (Int.toNat 1) default)).1) (F92 (((Qa lines (⟨#[110, 97, 116]⟩ : ByteArray)).getD (Int.toNat 0) default).getD (Int.toNat 2) default))) then true else decide ((F97 (((Qa lines (⟨#[110, 97, 116]⟩ : ByteArray)).getD (Int.toNat 0) default).getD (Int.toNat 3) default)) > (F97 (((Qa lines (⟨#[110, 97, 116]⟩ : ByteArray)).getD (Int.toNat 0) default).getD (Int.toNat 4) default)))) then true else decide (((Qa lines (⟨#[100, 111, 111, 114]⟩ : ByteArray)).length : Int) > 6)) (fun h4 => fiB true (F49 lines) (condF h3 (condT h4 rfl))) (fun h4 => have _ : ¬ (F97 (((Qa lines (⟨#[110, 97, 116]⟩ : ByteArray)).getD (Int.toNat 0) default).getD (Int.toNat 3) default)) > (F97 (((Qa lines (⟨#[110, 97, 116]⟩ : ByteArray)).getD (Int.toNat 0) default).getD (Int.toNat 4) default)) := of_decide_eq_false (orF2 (orF1 h4)); have _ : ¬ ((Qa lines (⟨#[100, 111, 111, 114]⟩ : ByteArray)).length : Int) > 6 := of_decide_eq_false (orF2 h4); kn (Qa lines (⟨#[100, 111, 111, 114]⟩ : ByteArray)) fun _ => kn (Qa lines (⟨#[100, 111, 111, 114]⟩ : ByteArray)) fun _ => ai (en49_0 lines (by first | omega | (simp only [lens, ib] at * <;> omega))) (fun (i0 : Nat × Int) (hi0 : Rs lines i0) => (fun (m0 : Nat) (v64 : Int) (hh0 : Qwj lines i0 m0 v64) => have hI0 := hh0.1; have hl0 := hh0.2.1; have _ := hh0.2.2.1; have _ := hh0.2.2.2; ifd (v64 < ((Qa lines (⟨#[100, 111, 111, 114]⟩ : ByteArray)).length : Int)) (fun h6 _ => ai (by (first | omega | (have h9 := Yt lines (by first | omega | (simp only [lens, ib] at * <;> omega)) (Int.toNat 0) (by first | omega | (simp only [lens, ib] at * <;> omega)); unfold natP at h9; omega) | (have h9 := Un lines (by first | omega | (simp only [lens, ib] at * <;> omega)) (Int.toNat v64) (by first | omega | (simp only [lens, ib] at * <;> omega)); unfold Ub at h9; omega) | (have h9 := Uh lines (by first | omega | (simp only [lens, ib] at * <;> omega)) (Int.toNat v64) (Int.toNat v89) (by first | omega | (simp only [lens, ib] at * <;> omega)); unfold Ub at h9; omega)) : 0 ≤ v64 ∧ v64 < ((Qa lines (⟨#[100, 111, 111, 114]⟩ : ByteArray)).length : Int)) (ai (by (first | omega | (have h9 := Yt lines (by first | omega | (simp only [lens, ib] at * <;> omega)) (Int.toNat 0) (by first | omega | (simp only [lens, ib] at * <;> omega)); unfold natP at h9; omega) | (have h9 := Un lines (by first | omega | (simp only [lens, ib] at * <;> omega)) (Int.toNat v64) (by first | omega | (simp only [lens, ib] at * <;> omega)); unfold Ub at h9; omega) | (have h9 := Uh lines (by first | omega | (simp only [lens, ib] at * <;> omega)) (Int.toNat v64) (Int.toNat v89) (by first | omega | (simp only [lens, ib] at * <;> omega)); unfold Ub at h9; omega)) : 0 ≤ (3 : Int) ∧ (3 : Int) < (((Qa lines (⟨#[100, 111, 111, 114]⟩ : ByteArray)).getD (Int.toNat v64) default).length : Int)) (kc92 (((Qa lines (⟨#[100, 111, 111, 114]⟩ : ByteArray)).getD (Int.toNat v64) default).getD (Int.toNat 3) default) (by exact Ys lines _ (by first | omega | (simp only [lens, ib] at * <;> omega)) _ _) (kc95 ((F96 (((Qa lines (⟨#[110, 97, 116]⟩ : ByteArray)).getD (Int.toNat 0) default).getD (Int.toNat 1) default)).1) (F92 (((Qa lines (⟨#[100, 111, 111, 114]⟩ : ByteArray)).getD (Int.toNat v64) default).getD (Int.toNat 3) default)) (by first | exact (Yg _).1 | exact (Yg _).2.1) (by first | exact (Yg _).1 | exact (Yg _).2.1) (ai (fun k7 : (!(F95 ((F96 (((Qa lines (⟨#[110, 97, 116]⟩ : ByteArray)).getD (Int.toNat 0) default).getD (Int.toNat 1) default)).1) (F92 (((Qa lines (⟨#[100, 111, 111, 114]⟩ : ByteArray)).getD (Int.toNat v64) default).getD (Int.toNat 3) default)))) = false => (by (first | omega | (have h9 := Yt lines (by first | omega | (simp only [lens, ib] at * <;> omega)) (Int.toNat 0) (by first | omega | (simp only [lens, ib] at * <;> omega)); unfold natP at h9; omega) | (have h9 := Un lines (by first | omega | (simp only [lens, ib] at * <;> omega)) (Int.toNat v64) (by first | omega | (simp only [lens, ib] at * <;> omega)); unfold Ub at h9; omega) | (have h9 := Uh lines (by first | omega | (simp only [lens, ib] at * <;> omega)) (Int.toNat v64) (Int.toNat v89) (by first | omega | (simp only [lens, ib] at * <;> omega)); unfold Ub at h9; omega)) : 0 ≤ (2 : Int) ∧ (2 : Int) < (((Qa lines (⟨#[100, 111, 111, 114]⟩ : ByteArray)).getD (Int.toNat v64) default).length : Int))) (kg97 (!(F95 ((F96 (((Qa lines (⟨#[110, 97, 116]⟩ : ByteArray)).getD (Int.toNat 0) default).getD (Int.toNat 1) default)).1) (F92 (((Qa lines (⟨#[100, 111, 111, 114]⟩ : ByteArray)).getD (Int.toNat v64) default).getD (Int.toNat 3) default)))) false (((Qa lines (⟨#[100, 111, 111, 114]⟩ : ByteArray)).getD (Int.toNat v64) default).getD (Int.toNat 2) default) (fun k8 => (by exact Ys lines _ (by first | omega | (simp only [lens, ib] at * <;> omega)) _ _)) (Qoe (!(F95 ((F96 (((Qa lines (⟨#[110, 97, 116]⟩ : ByteArray)).getD (Int.toNat 0) default).getD (Int.toNat 1) default)).1) (F92 (((Qa lines (⟨#[100, 111, 111, 114]⟩ : ByteArray)).getD (Int.toNat v64) default).getD (Int.toNat 3) default)))) false (F97 (((Qa lines (⟨#[100, 111, 111, 114]⟩ : ByteArray)).getD (Int.toNat v64) default).getD (Int.toNat 2) default)) (F97 (((Qa lines (⟨#[110, 97, 116]⟩ : ByteArray)).getD (Int.toNat 0) default).getD (Int.toNat 3) default)) (F97 (((Qa lines (⟨#[110, 97, 116]⟩ : ByteArray)).getD (Int.toNat 0) default).getD (Int.toNat 4) default)) (ifb (bif (!(F95 ((F96 (((Qa lines (⟨#[110, 97, 116]⟩ : ByteArray)).getD (Int.toNat 0) default).getD (Int.toNat 1) default)).1) (F92 (((Qa lines (⟨#[100, 111, 111, 114]⟩ : ByteArray)).getD (Int.toNat v64) default).getD (Int.toNat 3) default)))) then true else (decide ((F97 (((Qa lines (⟨#[110, 97, 116]⟩ : ByteArray)).getD (Int.toNat 0) default).getD (Int.toNat 3) default)) ≤ (F97 (((Qa lines (⟨#[100, 111, 111, 114]⟩ : ByteArray)).getD (Int.toNat v64) default).getD (Int.toNat 2) default)) ∧ (F97 (((Qa lines (⟨#[100, 111, 111, 114]⟩ : ByteArray)).getD (Int.toNat v64) default).getD (Int.toNat 2) default)) ≤ (F97 (((Qa lines (⟨#[110, 97, 116]⟩ : ByteArray)).getD (Int.toNat 0) default).getD (Int.toNat 4) default))))) (fun h10 => fiB true (F49 lines) (condF h3 (condF h4 (finR (Qr hI0 (condT h6 (condT h10 rfl))) rfl)))) (fun h10 => have _ : ¬ ((F97 (((Qa lines (⟨#[110, 97, 116]⟩ : ByteArray)).getD (Int.toNat 0) default).getD (Int.toNat 3) default)) ≤ (F97 (((Qa lines (⟨#[100, 111, 111, 114]⟩ : ByteArray)).getD (Int.toNat v64) default).getD (Int.toNat 2) default)) ∧ (F97 (((Qa lines (⟨#[100, 111, 111, 114]⟩ : ByteArray)).getD (Int.toNat v64) default).getD (Int.toNat 2) default)) ≤ (F97 (((Qa lines (⟨#[110, 97, 116]⟩ : ByteArray)).getD (Int.toNat 0) default).getD (Int.toNat 4) default))) := of_decide_eq_false (orF2 h10); ai (by first | omega | (simp only [lens, ib] at * <;> omega) : 0 ≤ (0 : Int) ∧ (0 : Int) ≤ v64 ∧ v64 ≤ ((Qa lines (⟨#[100, 111, 111, 114]⟩ : ByteArray)).length : Int)) (kn ((Qa lines (⟨#[100, 111, 111, 114]⟩ : ByteArray)).getD (Int.toNat v64) default) fun _ => kn ((Qa lines (⟨#[100, 111, 111, 114]⟩ : ByteArray)).take (Int.toNat v64)) fun _ => ai (en49_1 lines v64 (by first | omega | (simp only [lens, ib] at * <;> omega))) (fun (i1 : Nat × Int) (hi1 : Qbw lines v64 i1) => (fun (m1 : Nat) (v89 : Int) (hh1 : Qyp lines v64 i1 m1 v89) => have hI1 := hh1.1; have hl1 := hh1.2.1; have _ := hh1.2.2.1; have _ := hh1.2.2.2; ifd (v89 < (((Qa lines (⟨#[100, 111, 111, 114]⟩ : ByteArray)).take (Int.toNat v64)).length : Int)) (fun h12 _ => ai (by (first | omega | (have h9 := Yt lines (by first | omega | (simp only [lens, ib] at * <;> omega)) (Int.toNat 0) (by first | omega | (simp only [lens, ib] at * <;> omega)); unfold natP at h9; omega) | (have h9 := Un lines (by first | omega | (simp only [lens, ib] at * <;> omega)) (Int.toNat v64) (by first | omega | (simp only [lens, ib] at * <;> omega)); unfold Ub at h9; omega) | (have h9 := Uh lines (by first | omega | (simp only [lens, ib] at * <;> omega)) (Int.toNat v64) (Int.toNat v89) (by first | omega | (simp only [lens, ib] at * <;> omega)); unfold Ub at h9; omega)) : 0 ≤ v89 ∧ v89 < (((Qa lines (⟨#[100, 111, 111, 114]⟩ : ByteArray)).take (Int.toNat v64)).length : Int)) (ai (by (first | omega | (have h9 := Yt lines (by first | omega | (simp only [lens, ib] at * <;> omega)) (Int.toNat 0) (by first | omega | (simp only [lens, ib] at * <;> omega)); unfold natP at h9; omega) | (have h9 := Un lines (by first | omega | (simp only [lens, ib] at * <;> omega)) (Int.toNat v64) (by first | omega | (simp only [lens, ib] at * <;> omega)); unfold Ub at h9; omega) | (have h9 := Uh lines (by first | omega | (simp only [lens, ib] at * <;> omega)) (Int.toNat v64) (Int.toNat v89) (by first | omega | (simp only [lens, ib] at * <;> omega)); unfold Ub at h9; omega)) : 0 ≤ (1 : Int) ∧ (1 : Int) < ((((Qa lines (⟨#[100, 111, 111, 114]⟩ : ByteArray)).take (Int.toNat v64)).getD (Int.toNat v89) default).length : Int)) (ai (by (first | omega | (have h9 := Yt lines (by first | omega | (simp only [lens, ib] at * <;> omega)) (Int.toNat 0) (by first | omega | (simp only [lens, ib] at * <;> omega)); unfold natP at h9; omega) | (have h9 := Un lines (by first | omega | (simp only [lens, ib] at * <;> omega)) (Int.toNat v64) (by first | omega | (simp only [lens, ib] at * <;> omega)); unfold Ub at h9; omega) | (have h9 := Uh lines (by first | omega | (simp only [lens, ib] at * <;> omega)) (Int.toNat v64) (Int.toNat v89) (by first | omega | (simp only [lens, ib] at * <;> omega)); unfold Ub at h9; omega)) : 0 ≤ (1 : Int) ∧ (1 : Int) < (((Qa lines (⟨#[100, 111, 111, 114]⟩ : ByteArray)).getD (Int.toNat v64) default).length : Int)) (ai (fun k13 : (((((Qa lines (⟨#[100, 111, 111, 114]⟩ : ByteArray)).take (Int.toNat v64)).getD (Int.toNat v89) default).getD (Int.toNat 1) default).toList == (((Qa lines (⟨#[100, 111, 111, 114]⟩ : ByteArray)).getD (Int.toNat v64) default).getD (Int.toNat 1) default).toList) = true => (by (first | omega | (have h9 := Yt lines (by first | omega | (simp only [lens, ib] at * <;> omega)) (Int.toNat 0) (by first | omega | (simp only [lens, ib] at * <;> omega)); unfold natP at h9; omega) | (have h9 := Un lines (by first | omega | (simp only [lens, ib] at * <;> omega)) (Int.toNat v64) (by first | omega | (simp only [lens, ib] at * <;> omega)); unfold Ub at h9; omega) | (have h9 := Uh lines (by first | omega | (simp only [lens, ib] at * <;> omega)) (Int.toNat v64) (Int.toNat v89) (by first | omega | (simp only [lens, ib] at * <;> omega)); unfold Ub at h9; omega)) : 0 ≤ (3 : Int) ∧ (3 : Int) < ((((Qa lines (⟨#[100, 111, 111, 114]⟩ : ByteArray)).take (Int.toNat v64)).getD (Int.toNat v89) default).length : Int))) (ai (fun k14 : (((((Qa lines (⟨#[100, 111, 111, 114]⟩ : ByteArray)).take (Int.toNat v64)).getD (Int.toNat v89) default).getD (Int.toNat 1) default).toList == (((Qa lines (⟨#[100, 111, 111, 114]⟩ : ByteArray)).getD (Int.toNat v64) default).getD (Int.toNat 1) default).toList) = true => (by (first | omega | (have h9 := Yt lines (by first | omega | (simp only [lens, ib] at * <;> omega)) (Int.toNat 0) (by first | omega | (simp only [lens, ib] at * <;> omega)); unfold natP at h9; omega) | (have h9 := Un lines (by first | omega | (simp only [lens, ib] at * <;> omega)) (Int.toNat v64) (by first | omega | (simp only [lens, ib] at * <;> omega)); unfold Ub at h9; omega) | (have h9 := Uh lines (by first | omega | (simp only [lens, ib] at * <;> omega)) (Int.toNat v64) (Int.toNat v89) (by first | omega | (simp only [lens, ib] at * <;> omega)); unfold Ub at h9; omega)) : 0 ≤ (3 : Int) ∧ (3 : Int) < (((Qa lines (⟨#[100, 111, 111, 114]⟩ : ByteArray)).getD (Int.toNat v64) default).length : Int))) (ai (fun k15 : (bif (((((Qa lines (⟨#[100, 111, 111, 114]⟩ : ByteArray)).take (Int.toNat v64)).getD (Int.toNat v89) default).getD (Int.toNat 1) default).toList == (((Qa lines (⟨#[100, 111, 111, 114]⟩ : ByteArray)).getD (Int.toNat v64) default).getD (Int.toNat 1) default).toList) then (((((Qa lines (⟨#[100, 111, 111, 114]⟩ : ByteArray)).take (Int.toNat v64)).getD (Int.toNat v89) default).getD (Int.toNat 3) default).toList == (((Qa lines (⟨#[100, 111, 111, 114]⟩ : ByteArray)).getD (Int.toNat v64) default).getD (Int.toNat 3) default).toList) else false) = true => have _ : (((((Qa lines (⟨#[100, 111, 111, 114]⟩ : ByteArray)).take (Int.toNat v64)).getD (Int.toNat v89) default).getD (Int.toNat 1) default).toList == (((Qa lines (⟨#[100, 111, 111, 114]⟩ : ByteArray)).getD (Int.toNat v64) default).getD (Int.toNat 1) default).toList) = true := (Qi k15); have _ : (((((Qa lines (⟨#[100, 111, 111, 114]⟩ : ByteArray)).take (Int.toNat v64)).getD (Int.toNat v89) default).getD (Int.toNat 3) default).toList == (((Qa lines (⟨#[100, 111, 111, 114]⟩ : ByteArray)).getD (Int.toNat v64) default).getD (Int.toNat 3) default).toList) = true := (Qt k15); (by (first | omega | (have h9 := Yt lines (by first | omega | (simp only [lens, ib] at * <;> omega)) (Int.toNat 0) (by first | omega | (simp only [lens, ib] at * <;> omega)); unfold natP at h9; omega) | (have h9 := Un lines (by first | omega | (simp only [lens, ib] at * <;> omega)) (Int.toNat v64) (by first | omega | (simp only [lens, ib] at * <;> omega)); unfold Ub at h9; omega) | (have h9 := Uh lines (by first | omega | (simp only [lens, ib] at * <;> omega)) (Int.toNat v64) (Int.toNat v89) (by first | omega | (simp only [lens, ib] at * <;> omega)); unfold Ub at h9; omega)) : 0 ≤ (4 : Int) ∧ (4 : Int) < ((((Qa lines (⟨#[100, 111, 111, 114]⟩ : ByteArray)).take (Int.toNat v64)).getD (Int.toNat v89) default).length : Int))) (ai (fun k16 : (bif (((((Qa lines (⟨#[100, 111, 111, 114]⟩ : ByteArray)).take (Int.toNat v64)).getD (Int.toNat v89) default).getD (Int.toNat 1) default).toList == (((Qa lines (⟨#[100, 111, 111, 114]⟩ : ByteArray)).getD (Int.toNat v64) default).getD (Int.toNat 1) default).toList) then (((((Qa lines (⟨#[100, 111, 111, 114]⟩ : ByteArray)).take (Int.toNat v64)).getD (Int.toNat v89) default).getD (Int.toNat 3) default).toList == (((Qa lines (⟨#[100, 111, 111, 114]⟩ : ByteArray)).getD (Int.toNat v64) default).getD (Int.toNat 3) default).toList) else false) = true => have _ : (((((Qa lines (⟨#[100, 111, 111, 114]⟩ : ByteArray)).take (Int.toNat v64)).getD (Int.toNat v89) default).getD (Int.toNat 1) default).toList == (((Qa lines (⟨#[100, 111, 111, 114]⟩ : ByteArray)).getD (Int.toNat v64) default).getD (Int.toNat 1) default).toList) = true := (Qi k16); have _ : (((((Qa lines (⟨#[100, 111, 111, 114]⟩ : ByteArray)).take (Int.toNat v64)).getD (Int.toNat v89) default).getD (Int.toNat 3) default).toList == (((Qa lines (⟨#[100, 111, 111, 114]⟩ : ByteArray)).getD (Int.toNat v64) default).getD (Int.toNat 3) default).toList) = true := (Qt k16); (by (first | omega | (have h9 := Yt lines (by first | omega | (simp only [lens, ib] at * <;> omega)) (Int.toNat 0) (by first | omega | (simp only [lens, ib] at * <;> omega)); unfold natP at h9; omega) | (have h9 := Un lines (by first | omega | (simp only [lens, ib] at * <;> omega)) (Int.toNat v64) (by first | omega | (simp only [lens, ib] at * <;> omega)); unfold Ub at h9; omega) | (have h9 := Uh lines (by first | omega | (simp only [lens, ib] at * <;> omega)) (Int.toNat v64) (Int.toNat v89) (by first | omega | (simp only [lens, ib] at * <;> omega)); unfold Ub at h9; omega)) : 0 ≤ (4 : Int) ∧ (4 : Int) < (((Qa lines (⟨#[100, 111, 111, 114]⟩ : ByteArray)).getD (Int.toNat v64) default).length : Int))) (ifb (bif (bif (((((Qa lines (⟨#[100, 111, 111, 114]⟩ : ByteArray)).take (Int.toNat v64)).getD (Int.toNat v89) default).getD (Int.toNat 1) default).toList == (((Qa lines (⟨#[100, 111, 111, 114]⟩ : ByteArray)).getD (Int.toNat v64) default).getD (Int.toNat 1) default).toList) then (((((Qa lines (⟨#[100, 111, 111, 114]⟩ : ByteArray)).take (Int.toNat v64)).getD (Int.toNat v89) default).getD (Int.toNat 3) default).toList == (((Qa lines (⟨#[100, 111, 111, 114]⟩ : ByteArray)).getD (Int.toNat v64) default).getD (Int.toNat 3) default).toList) else false) then (((((Qa lines (⟨#[100, 111, 111, 114]⟩ : ByteArray)).take (Int.toNat v64)).getD (Int.toNat v89) default).getD (Int.toNat 4) default).toList == (((Qa lines (⟨#[100, 111, 111, 114]⟩ : ByteArray)).getD (Int.toNat v64) default).getD (Int.toNat 4) default).toList) else false) (fun h17 => have _ : (((((Qa lines (⟨#[100, 111, 111, 114]⟩ : ByteArray)).take (Int.toNat v64)).getD (Int.toNat v89) default).getD (Int.toNat 1) default).toList == (((Qa lines (⟨#[100, 111, 111, 114]⟩ : ByteArray)).getD (Int.toNat v64) default).getD (Int.toNat 1) default).toList) = true := (Qi (Qi h17)); have _ : (((((Qa lines (⟨#[100, 111, 111, 114]⟩ : ByteArray)).take (Int.toNat v64)).getD (Int.toNat v89) default).getD (Int.toNat 3) default).toList == (((Qa lines (⟨#[100, 111, 111, 114]⟩ : ByteArray)).getD (Int.toNat v64) default).getD (Int.toNat 3) default).toList) = true := (Qt (Qi h17)); have _ : (((((Qa lines (⟨#[100, 111, 111, 114]⟩ : ByteArray)).take (Int.toNat v64)).getD (Int.toNat v89) default).getD (Int.toNat 4) default).toList == (((Qa lines (⟨#[100, 111, 111, 114]⟩ : ByteArray)).getD (Int.toNat v64) default).getD (Int.toNat 4) default).toList) = true := (Qt h17); fiB true (F49 lines) (condF h3 (condF h4 (finR (Qr hI0 (condT h6 (condF h10 (finR (Qr hI1 (condT h12 (condT h17 rfl))) rfl)))) rfl)))) (fun h17 => ai (iok (v89 + 1) (by first | omega | (simp only [lens, ib] at * <;> omega))) (bk49_1 lines v64 i1 m1 (v89 + 1) hl1 (Qd hI1 (condT h12 (condF h17 rfl))) (by refine ⟨?_, ?_⟩ <;> first | omega | (simp only [lens, ib] at * <;> omega)))))))))))) (fun h12 _ => have hD1_18 : Qsp lines v64 = Lp.done v89 := Qk hI1 (condF h12 rfl); ai (iok (v64 + 1) (by first | omega | (simp only [lens, ib] at * <;> omega))) (bk49_0 lines i0 m0 (v64 + 1) hl0 (Qd hI0 (condT h6 (condF h10 (finD hD1_18 rfl)))) (by refine ⟨?_, ?_⟩ <;> first | omega | (simp only [lens, ib] at * <;> omega))))) (i1.1 - 1) i1.2 (un49_1 lines v64 i1 hi1)))))))))))) (fun h6 _ => have hD0_19 : Ual lines = Lp.done v64 := Qk hI0 (condF h6 rfl); fiB false (F49 lines) (condF h3 (condF h4 (finD hD0_19 rfl))))) (i0.1 - 1) i0.2 (un49_0 lines i0 hi0)))))))))))))))))))) (by kernel_rfl)
theorem kc56 (c : l52Cut) (k : Int) {K_ : Prop} (p0_ : 0 ≤ k) (k_ : K_) : (0 ≤ k) ∧ (Imps (Qo c) (Qo c)) ∧ (Imp (.v (vI k)) (.v (vI k))) ∧ K_ := ⟨p0_, Imps.refl _, Imp.refl _, k_⟩
abbrev kh56 (c : l52Cut) (k : Int) : Hint true Tryz.prog := .call 56 (S56 c k) (ok56 c k) none
theorem kg56 {K_ : Prop} (c_ b_ : Bool) (c : l52Cut) (k : Int) (p_ : c_ = b_ → 0 ≤ k) (k_ : K_) : (c_ = b_ → 0 ≤ k) ∧ (c_ = b_ → Imps (Qo c) (Qo c)) ∧ (c_ = b_ → Imp (.v (vI k)) (.v (vI k))) ∧ K_ := ⟨p_, fun _ => Imps.refl _, fun _ => Imp.refl _, k_⟩
def Xa (all : List l52Cut) : Int → Lp Int Bool := fun i40 =>
 bif (decide (i40 < (all.length : Int))) then (bif (bif ((F56 (all.getD (Int.toNat i40) default) 0).toList == (⟨#[117, 115, 101, 114]⟩ : ByteArray).toList) then ((F56 (all.getD (Int.toNat i40) default) 2).toList == (⟨#[97, 108, 108]⟩ : ByteArray).toList) else false) then (.ret true) else (.next (i40 + 1))) else (.done i40)
def F27 (all : List l52Cut) : Bool :=
 (runL (Xa all) ((Int.toNat ((all.length : Int) - 0)) + 1) 0).fin (fun r => r) (fun i40 => false)
abbrev Ev (all : List l52Cut) : Nat × Int := (((Int.toNat ((all.length : Int) - 0)) + 1), 0)
abbrev Qlv (all : List l52Cut) (m39 : Nat) (i40 : Int) : Prop := Int.toNat ((all.length : Int) - i40) < m39 ∧ (0 : Int) ≤ i40
abbrev Qwa (all : List l52Cut) : Lp Int Bool := LpX (Xa all) (Ev all)
abbrev Tw (all : List l52Cut) (i : Nat × Int) : Prop := LpJ (Xa all) (Ev all) i (Qlv all i.1 i.2)
abbrev Qxw (all : List l52Cut) (i : Nat × Int) (m39 : Nat) (i40 : Int) : Prop := LpH (Xa all) (Ev all) i m39 i40 (Qlv all (m39 + 1) i40)
abbrev Qzv (all : List l52Cut) (i40 : Int) (i40_ : Int) (K39 : Prop) : Prop := ((.int .i64 i40 : Value) = .int .i64 i40_) ∧ (Im (.l 1 Qo all)) ∧ K39
theorem un27_0 (all : List l52Cut) (i : Nat × Int) (h : Tw all i) : Qxw all i (i.1 - 1) i.2 := ⟨hd1 h.1 h.2.1, hd3 h.2.1, hd2 h.2.1, h.2.2⟩
theorem bk27_0 (all : List l52Cut) (i : Nat × Int) (m39 : Nat) (i40 : Int) (hl : m39 < i.1) (e : runL (Xa all) m39 i40 = Qwa all) (h : Qlv all m39 i40) : ∃ j : Nat × Int, Qzv all i40 j.2 (Tw all j ∧ j.1 < i.1) := ⟨(m39, i40), rfl, Imp.refl _, ⟨e, h⟩, hl⟩
theorem en27_0 (all : List l52Cut) (h : (0 : Int) ≤ 0) : Qzv all 0 0 (Tw all (Ev all)) := ⟨rfl, Imp.refl _, rfl, Nat.lt_succ_self _, h⟩
def S27 (all : List l52Cut) : Spec := ⟨[.r (.c (.l 1 Qo all))], .v (.bool (F27 all)), True⟩
theorem ok27 (all : List l52Cut) : (S27 all).ok Tryz.prog 27 :=
 Qj mixed (fn := Tryz.f27) (ct := .seqk [(0, 0)] .no (.seq (.seqk [(0, 0)] .no (.blk (.loop (ι := Nat × Int) (fun i => (fun (i40 : Int) => (⟨[(0, some (.h 0 0)), (3, some (.v (vI i40)))], [(0, some (.shr none (.l 1 Qo all)))], 1⟩ : St)) i.2) (Tw all) (fun i => i.1) (Ev all) (fun i => (fun (i40 : Int) => (.seq (.seq .no (.cond .no .no)) (.seq (.blk (.seq (.reg [(4, kh56 (all.getD (Int.toNat i40) default) 0), (11, kh56 (all.getD (Int.toNat i40) default) 2)]) (.cond (.seq .no .no) .no))) (.reg [(1, .bnd)])))) i.2)))) (.seq .no .no))) Tryz.func27 (fun (_ : True) => kn all fun _ => kn all fun _ => ai (en27_0 all (by omega)) (fun (i0 : Nat × Int) (hi0 : Tw all i0) => (fun (m0 : Nat) (i40 : Int) (hh0 : Qxw all i0 m0 i40) => have hI0 := hh0.1; have hl0 := hh0.2.1; have _ := hh0.2.2.1; have _ := hh0.2.2.2; ifd (i40 < (all.length : Int)) (fun h2 _ => ai (by omega : ib i40 all) (kc56 (all.getD (Int.toNat i40) default) 0 (by omega) (ai (fun k3 : ((F56 (all.getD (Int.toNat i40) default) 0).toList == w10_.toList) = true => (by omega : ib i40 all)) (kg56 ((F56 (all.getD (Int.toNat i40) default) 0).toList == w10_.toList) true (all.getD (Int.toNat i40) default) 2 (fun k4 => (by omega)) (ifb (bif ((F56 (all.getD (Int.toNat i40) default) 0).toList == w10_.toList) then ((F56 (all.getD (Int.toNat i40) default) 2).toList == w11_.toList) else false) (fun h5 => have _ : ((F56 (all.getD (Int.toNat i40) default) 0).toList == w10_.toList) = true := (Qi h5); have _ : ((F56 (all.getD (Int.toNat i40) default) 2).toList == w11_.toList) = true := (Qt h5); fiB true (F27 all) (finR (Qr hI0 (condT h2 (condT h5 rfl))) rfl)) (fun h5 => ai (iok (i40 + 1) (by omega)) (bk27_0 all i0 m0 (i40 + 1) hl0 (Qd hI0 (condT h2 (condF h5 rfl))) (by refine ⟨?_, ?_⟩ <;> omega)))))))) (fun h2 _ => have hD0_6 : Qwa all = Lp.done i40 := Qk hI0 (condF h2 rfl); fiB false (F27 all) (finD hD0_6 rfl))) (i0.1 - 1) i0.2 (un27_0 all i0 hi0))) (by kernel_rfl)
def Vt (all : List l52Cut) (name : ByteArray) : (Int × Int) → Lp (Int × Int) Int := fun (n, i40) =>
 bif (decide (i40 < (all.length : Int))) then (bif (bif ((F56 (all.getD (Int.toNat i40) default) 0).toList == (⟨#[114, 117, 108, 101]⟩ : ByteArray).toList) then ((F56 (all.getD (Int.toNat i40) default) 1).toList == name.toList) else false) then (.next ((n + 1), (i40 + 1))) else (.next (n, (i40 + 1)))) else (.done (n, i40))
def F57 (all : List l52Cut) (name : ByteArray) : Int :=
 (runL (Vt all name) ((Int.toNat ((all.length : Int) - 0)) + 1) (0, 0)).fin (fun r => r) (fun (n, i40) => n)
abbrev Qbc (all : List l52Cut) : Nat × (Int × Int) := (((Int.toNat ((all.length : Int) - 0)) + 1), (0, 0))
abbrev Qli (all : List l52Cut) (m39 : Nat) (n : Int) (i40 : Int) : Prop := Int.toNat ((all.length : Int) - i40) < m39 ∧ (0 : Int) ≤ n ∧ (n : Int) ≤ i40 ∧ (0 : Int) ≤ n ∧ (0 : Int) ≤ i40
abbrev Qyn (all : List l52Cut) (name : ByteArray) : Lp (Int × Int) Int := LpX (Vt all name) (Qbc all)
abbrev Ee (all : List l52Cut) (name : ByteArray) (i : Nat × (Int × Int)) : Prop := LpJ (Vt all name) (Qbc all) i (Qli all i.1 i.2.1 i.2.2)
abbrev Qyt (all : List l52Cut) (name : ByteArray) (i : Nat × (Int × Int)) (m39 : Nat) (n : Int) (i40 : Int) : Prop := LpH (Vt all name) (Qbc all) i m39 (n, i40) (Qli all (m39 + 1) n i40)
abbrev Qsw (all : List l52Cut) (name : ByteArray) (n : Int) (i40 : Int) (n_ : Int) (i40_ : Int) (K39 : Prop) : Prop := (Rf (.string name)) ∧ ((.int .i64 n : Value) = .int .i64 n_) ∧ ((.int .i64 i40 : Value) = .int .i64 i40_) ∧ (Im (.l 1 Qo all)) ∧ K39
theorem un57_0 (all : List l52Cut) (name : ByteArray) (i : Nat × (Int × Int)) (h : Ee all name i) : Qyt all name i (i.1 - 1) i.2.1 i.2.2 := ⟨hd1 h.1 h.2.1, hd3 h.2.1, hd2 h.2.1, h.2.2⟩
theorem Qvx (all : List l52Cut) (name : ByteArray) (i : Nat × (Int × Int)) (m39 : Nat) (n : Int) (i40 : Int) (hl : m39 < i.1) (e : runL (Vt all name) m39 (n, i40) = Qyn all name) (h : Qli all m39 n i40) : ∃ j : Nat × (Int × Int), Qsw all name n i40 j.2.1 j.2.2 (Ee all name j ∧ j.1 < i.1) := ⟨(m39, (n, i40)), rfl, rfl, rfl, Imp.refl _, ⟨e, h⟩, hl⟩
theorem en57_0 (all : List l52Cut) (name : ByteArray) (h : (0 : Int) ≤ 0 ∧ (0 : Int) ≤ 0 ∧ (0 : Int) ≤ 0 ∧ (0 : Int) ≤ 0) : Qsw all name 0 0 0 0 (Ee all name (Qbc all)) := ⟨rfl, rfl, rfl, Imp.refl _, rfl, Nat.lt_succ_self _, h⟩
def S57 (all : List l52Cut) (name : ByteArray) : Spec := ⟨[.r (.c (.l 1 Qo all)), .r (.c (.v (.string name)))], .v (vI (F57 all name)), True⟩
theorem ok57 (all : List l52Cut) (name : ByteArray) : (S57 all name).ok Tryz.prog 57 :=
 Qj mixed (fn := Tryz.f57) (ct := .seqk [(0, 0)] .no (.seq .no (.seq (.seqk [(0, 0)] .no (.blk (.loop (ι := Nat × (Int × Int)) (fun i => (fun (n : Int) (i40 : Int) => (⟨[(0, some (.h 0 0)), (1, some (.v (.string name))), (5, some (.v (vI n))), (6, some (.v (vI i40)))], [(0, some (.shr none (.l 1 Qo all)))], 1⟩ : St)) i.2.1 i.2.2) (Ee all name) (fun i => i.1) (Qbc all) (fun i => (fun (n : Int) (i40 : Int) => (.seq (.seq .no (.cond .no .no)) (.seq (.blk (.seq (.reg [(4, kh56 (all.getD (Int.toNat i40) default) 0), (11, kh56 (all.getD (Int.toNat i40) default) 1)]) (.cond (.reg [(1, .bnd)]) .no))) (.reg [(1, .bnd)])))) i.2.1 i.2.2)))) (.seq .no .no)))) Tryz.func57 (fun (_ : True) => kn all fun _ => kn all fun _ => ai (en57_0 all name (by refine ⟨?_, ?_, ?_, ?_⟩ <;> omega)) (fun (i0 : Nat × (Int × Int)) (hi0 : Ee all name i0) => (fun (m0 : Nat) (n : Int) (i40 : Int) (hh0 : Qyt all name i0 m0 n i40) => have hI0 := hh0.1; have hl0 := hh0.2.1; have _ := hh0.2.2.1; have _ := hh0.2.2.2; ifd (i40 < (all.length : Int)) (fun h2 _ => ai (by omega : ib i40 all) (kc56 (all.getD (Int.toNat i40) default) 0 (by omega) (ai (fun k3 : ((F56 (all.getD (Int.toNat i40) default) 0).toList == w9_.toList) = true => (by omega : ib i40 all)) (kg56 ((F56 (all.getD (Int.toNat i40) default) 0).toList == w9_.toList) true (all.getD (Int.toNat i40) default) 1 (fun k4 => (by omega)) (ifb (bif ((F56 (all.getD (Int.toNat i40) default) 0).toList == w9_.toList) then ((F56 (all.getD (Int.toNat i40) default) 1).toList == name.toList) else false) (fun h5 => have _ : ((F56 (all.getD (Int.toNat i40) default) 0).toList == w9_.toList) = true := (Qi h5); have _ := (Qt h5); ai (iok (n + 1) (by omega)) (ai (iok (i40 + 1) (by omega)) (Qvx all name i0 m0 (n + 1) (i40 + 1) hl0 (Qd hI0 (condT h2 (condT h5 rfl))) (by refine ⟨?_, ?_, ?_, ?_, ?_⟩ <;> omega)))) (fun h5 => ai (iok (i40 + 1) (by omega)) (Qvx all name i0 m0 n (i40 + 1) hl0 (Qd hI0 (condT h2 (condF h5 rfl))) (by refine ⟨?_, ?_, ?_, ?_, ?_⟩ <;> omega)))))))) (fun h2 _ => have hD0_6 : Qyn all name = Lp.done (n, i40) := Qk hI0 (condF h2 rfl); fiI n (F57 all name) (finD hD0_6 rfl))) (i0.1 - 1) i0.2.1 i0.2.2 (un57_0 all name i0 hi0))) (by kernel_rfl)
theorem kg57 {K_ : Prop} (c_ b_ : Bool) (all : List l52Cut) (name : ByteArray) (k_ : K_) : (c_ = b_ → True) ∧ (c_ = b_ → Imp (.l 1 Qo all) (.l 1 Qo all)) ∧ (c_ = b_ → Imp (.v (.string name)) (.v (.string name))) ∧ K_ := ⟨fun _ => trivial, fun _ => Imp.refl _, fun _ => Imp.refl _, k_⟩
abbrev kh57 (all : List l52Cut) (name : ByteArray) : Hint true Tryz.prog := .call 57 (S57 all name) (ok57 all name) none
def Xs (all : List l52Cut) : Int → Lp Int Bool := fun i40 =>
 bif (decide (i40 < (all.length : Int))) then (bif (bif (bif ((F56 (all.getD (Int.toNat i40) default) 0).toList == (⟨#[112, 111, 114, 116]⟩ : ByteArray).toList) then (!((F56 (all.getD (Int.toNat i40) default) 4).toList == (⟨#[]⟩ : ByteArray).toList)) else false) then ((F57 all (F56 (all.getD (Int.toNat i40) default) 4)) == 0) else false) then (.ret false) else (bif (bif ((F56 (all.getD (Int.toNat i40) default) 0).toList == (⟨#[114, 117, 108, 101]⟩ : ByteArray).toList) then decide ((F57 all (F56 (all.getD (Int.toNat i40) default) 1)) > 12) else false) then (.ret false) else (.next (i40 + 1)))) else (.done i40)
def F28 (all : List l52Cut) : Bool :=
 (runL (Xs all) ((Int.toNat ((all.length : Int) - 0)) + 1) 0).fin (fun r => r) (fun i40 => true)
abbrev Qba (all : List l52Cut) : Nat × Int := (((Int.toNat ((all.length : Int) - 0)) + 1), 0)
abbrev Qmz (all : List l52Cut) (m39 : Nat) (i40 : Int) : Prop := Int.toNat ((all.length : Int) - i40) < m39 ∧ (0 : Int) ≤ i40
abbrev Uak (all : List l52Cut) : Lp Int Bool := LpX (Xs all) (Qba all)
abbrev Qay (all : List l52Cut) (i : Nat × Int) : Prop := LpJ (Xs all) (Qba all) i (Qmz all i.1 i.2)
abbrev Qzh (all : List l52Cut) (i : Nat × Int) (m39 : Nat) (i40 : Int) : Prop := LpH (Xs all) (Qba all) i m39 i40 (Qmz all (m39 + 1) i40)
abbrev Qsc (all : List l52Cut) (i40 : Int) (i40_ : Int) (K39 : Prop) : Prop := ((.int .i64 i40 : Value) = .int .i64 i40_) ∧ (Im (.l 1 Qo all)) ∧ K39
theorem un28_0 (all : List l52Cut) (i : Nat × Int) (h : Qay all i) : Qzh all i (i.1 - 1) i.2 := ⟨hd1 h.1 h.2.1, hd3 h.2.1, hd2 h.2.1, h.2.2⟩
theorem bk28_0 (all : List l52Cut) (i : Nat × Int) (m39 : Nat) (i40 : Int) (hl : m39 < i.1) (e : runL (Xs all) m39 i40 = Uak all) (h : Qmz all m39 i40) : ∃ j : Nat × Int, Qsc all i40 j.2 (Qay all j ∧ j.1 < i.1) := ⟨(m39, i40), rfl, Imp.refl _, ⟨e, h⟩, hl⟩
theorem en28_0 (all : List l52Cut) (h : (0 : Int) ≤ 0) : Qsc all 0 0 (Qay all (Qba all)) := ⟨rfl, Imp.refl _, rfl, Nat.lt_succ_self _, h⟩
def S28 (all : List l52Cut) : Spec := ⟨[.r (.c (.l 1 Qo all))], .v (.bool (F28 all)), True⟩
theorem ok28 (all : List l52Cut) : (S28 all).ok Tryz.prog 28 :=
 Qj mixed (fn := Tryz.f28) (ct := .seqk [(0, 0)] .no (.seq (.seqk [(0, 0)] .no (.blk (.loop (ι := Nat × Int) (fun i => (fun (i40 : Int) => (⟨[(0, some (.h 0 0)), (3, some (.v (vI i40)))], [(0, some (.shr none (.l 1 Qo all)))], 1⟩ : St)) i.2) (Qay all) (fun i => i.1) (Qba all) (fun i => (fun (i40 : Int) => (.seq (.seq .no (.cond .no .no)) (.seq (.blk (.seq (.seq (.reg [(4, kh56 (all.getD (Int.toNat i40) default) 0), (11, kh56 (all.getD (Int.toNat i40) default) 4), (20, kh56 (all.getD (Int.toNat i40) default) 4), (21, kh57 all (F56 (all.getD (Int.toNat i40) default) 4))]) (.cond (.seq .no .no) .no)) (.seq (.reg [(4, kh56 (all.getD (Int.toNat i40) default) 0), (12, kh56 (all.getD (Int.toNat i40) default) 1), (13, kh57 all (F56 (all.getD (Int.toNat i40) default) 1))]) (.cond (.seq .no .no) .no)))) (.reg [(1, .bnd)])))) i.2)))) (.seq .no .no))) Tryz.func28 (fun (_ : True) => kn all fun _ => kn all fun _ => ai (en28_0 all (by omega)) (fun (i0 : Nat × Int) (hi0 : Qay all i0) => (fun (m0 : Nat) (i40 : Int) (hh0 : Qzh all i0 m0 i40) => have hI0 := hh0.1; have hl0 := hh0.2.1; have _ := hh0.2.2.1; have _ := hh0.2.2.2; ifd (i40 < (all.length : Int)) (fun h2 _ => ai (by omega : ib i40 all) (kc56 (all.getD (Int.toNat i40) default) 0 (by omega) (ai (fun k3 : ((F56 (all.getD (Int.toNat i40) default) 0).toList == w7_.toList) = true => (by omega : ib i40 all)) (kg56 ((F56 (all.getD (Int.toNat i40) default) 0).toList == w7_.toList) true (all.getD (Int.toNat i40) default) 4 (fun k4 => (by omega)) (ai (fun k5 : (bif ((F56 (all.getD (Int.toNat i40) default) 0).toList == w7_.toList) then (!((F56 (all.getD (Int.toNat i40) default) 4).toList == w13_.toList)) else false) = true => have _ : ((F56 (all.getD (Int.toNat i40) default) 0).toList == w7_.toList) = true := (Qi k5); have _ : (!((F56 (all.getD (Int.toNat i40) default) 4).toList == w13_.toList)) = true := (Qt k5); (by omega : ib i40 all)) (kg56 (bif ((F56 (all.getD (Int.toNat i40) default) 0).toList == w7_.toList) then (!((F56 (all.getD (Int.toNat i40) default) 4).toList == w13_.toList)) else false) true (all.getD (Int.toNat i40) default) 4 (fun k6 => have _ : ((F56 (all.getD (Int.toNat i40) default) 0).toList == w7_.toList) = true := (Qi k6); have _ : (!((F56 (all.getD (Int.toNat i40) default) 4).toList == w13_.toList)) = true := (Qt k6); (by omega)) (kg57 (bif ((F56 (all.getD (Int.toNat i40) default) 0).toList == w7_.toList) then (!((F56 (all.getD (Int.toNat i40) default) 4).toList == w13_.toList)) else false) true all (F56 (all.getD (Int.toNat i40) default) 4) (ifb (bif (bif ((F56 (all.getD (Int.toNat i40) default) 0).toList == w7_.toList) then (!((F56 (all.getD (Int.toNat i40) default) 4).toList == w13_.toList)) else false) then ((F57 all (F56 (all.getD (Int.toNat i40) default) 4)) == 0) else false) (fun h8 => have _ : ((F56 (all.getD (Int.toNat i40) default) 0).toList == w7_.toList) = true := (Qi (Qi h8)); have _ : (!((F56 (all.getD (Int.toNat i40) default) 4).toList == w13_.toList)) = true := (Qt (Qi h8)); have _ := eq_of_beq (Qt h8); fiB false (F28 all) (finR (Qr hI0 (condT h2 (condT h8 rfl))) rfl)) (fun h8 => ai (by omega : ib i40 all) (kc56 (all.getD (Int.toNat i40) default) 0 (by omega) (ai (fun k9 : ((F56 (all.getD (Int.toNat i40) default) 0).toList == w9_.toList) = true => (by omega : ib i40 all)) (kg56 ((F56 (all.getD (Int.toNat i40) default) 0).toList == w9_.toList) true (all.getD (Int.toNat i40) default) 1 (fun k10 => (by omega)) (kg57 ((F56 (all.getD (Int.toNat i40) default) 0).toList == w9_.toList) true all (F56 (all.getD (Int.toNat i40) default) 1) (ifb (bif ((F56 (all.getD (Int.toNat i40) default) 0).toList == w9_.toList) then decide ((F57 all (F56 (all.getD (Int.toNat i40) default) 1)) > 12) else false) (fun h12 => have _ : ((F56 (all.getD (Int.toNat i40) default) 0).toList == w9_.toList) = true := (Qi h12); have _ := of_decide_eq_true (Qt h12); fiB false (F28 all) (finR (Qr hI0 (condT h2 (condF h8 (condT h12 rfl)))) rfl)) (fun h12 => ai (iok (i40 + 1) (by omega)) (bk28_0 all i0 m0 (i40 + 1) hl0 (Qd hI0 (condT h2 (condF h8 (condF h12 rfl)))) (by refine ⟨?_, ?_⟩ <;> omega))))))))))))))))) (fun h2 _ => have hD0_13 : Uak all = Lp.done i40 := Qk hI0 (condF h2 rfl); fiB true (F28 all) (finD hD0_13 rfl))) (i0.1 - 1) i0.2 (un28_0 all i0 hi0))) (by kernel_rfl)
def Bk (all : List l52Cut) (i40 : Int) : Int → Lp Int Bool := fun k =>
 bif (decide (k < i40)) then (bif (bif (!((F56 (all.getD (Int.toNat i40) default) 0).toList == (⟨#[112, 111, 114, 116]⟩ : ByteArray).toList)) then true else (!((F56 (all.getD (Int.toNat k) default) 0).toList == (⟨#[112, 111, 114, 116]⟩ : ByteArray).toList))) then (.next (k + 1)) else (bif (bif decide ((F58 (F56 (all.getD (Int.toNat i40) default) 2)).1 < (IntKind.i64.wrap (((F58 (F56 (all.getD (Int.toNat k) default) 2)).1) + ((F58 (F56 (all.getD (Int.toNat k) default) 2)).2)))) then decide ((F58 (F56 (all.getD (Int.toNat k) default) 2)).1 < (IntKind.i64.wrap (((F58 (F56 (all.getD (Int.toNat i40) default) 2)).1) + ((F58 (F56 (all.getD (Int.toNat i40) default) 2)).2)))) else false) then (.ret false) else (.next (k + 1)))) else (.done k)
def Xv (all : List l52Cut) : Int → Lp Int Bool := fun i40 =>
 bif (decide (i40 < (all.length : Int))) then ((runL (Bk all i40) ((Int.toNat (i40 - 0)) + 1) 0).fin Lp.ret (fun k => .next (i40 + 1))) else (.done i40)
def F29 (all : List l52Cut) : Bool :=
 (runL (Xv all) ((Int.toNat ((all.length : Int) - 0)) + 1) 0).fin (fun r => r) (fun i40 => true)
abbrev Eh (i40 : Int) : Nat × Int := (((Int.toNat (i40 - 0)) + 1), 0)
abbrev Qnd (i40 : Int) (m39 : Nat) (k : Int) : Prop := Int.toNat (i40 - k) < m39 ∧ (0 : Int) ≤ k
abbrev Qxb (all : List l52Cut) (i40 : Int) : Lp Int Bool := LpX (Bk all i40) (Eh i40)
abbrev Qaf (all : List l52Cut) (i40 : Int) (i : Nat × Int) : Prop := LpJ (Bk all i40) (Eh i40) i (Qnd i40 i.1 i.2)
abbrev Quo (all : List l52Cut) (i40 : Int) (i : Nat × Int) (m39 : Nat) (k : Int) : Prop := LpH (Bk all i40) (Eh i40) i m39 k (Qnd i40 (m39 + 1) k)
abbrev Qvo (all : List l52Cut) (i40 : Int) (k : Int) (k_ : Int) (K39 : Prop) : Prop := (Rf (.int .i64 i40)) ∧ ((.int .i64 k : Value) = .int .i64 k_) ∧ (Im (.l 1 Qo all)) ∧ K39
theorem un29_1 (all : List l52Cut) (i40 : Int) (i : Nat × Int) (h : Qaf all i40 i) : Quo all i40 i (i.1 - 1) i.2 := ⟨hd1 h.1 h.2.1, hd3 h.2.1, hd2 h.2.1, h.2.2⟩
theorem Qxu (all : List l52Cut) (i40 : Int) (i : Nat × Int) (m39 : Nat) (k : Int) (hl : m39 < i.1) (e : runL (Bk all i40) m39 k = Qxb all i40) (h : Qnd i40 m39 k) : ∃ j : Nat × Int, Qvo all i40 k j.2 (Qaf all i40 j ∧ j.1 < i.1) := ⟨(m39, k), rfl, rfl, Imp.refl _, ⟨e, h⟩, hl⟩
theorem en29_1 (all : List l52Cut) (i40 : Int) (h : (0 : Int) ≤ 0) : Qvo all i40 0 0 (Qaf all i40 (Eh i40)) := ⟨rfl, rfl, Imp.refl _, rfl, Nat.lt_succ_self _, h⟩
abbrev Qau (all : List l52Cut) : Nat × Int := (((Int.toNat ((all.length : Int) - 0)) + 1), 0)
abbrev Qlc (all : List l52Cut) (m39 : Nat) (i40 : Int) : Prop := Int.toNat ((all.length : Int) - i40) < m39 ∧ (0 : Int) ≤ i40
abbrev Uas (all : List l52Cut) : Lp Int Bool := LpX (Xv all) (Qau all)
abbrev Rv (all : List l52Cut) (i : Nat × Int) : Prop := LpJ (Xv all) (Qau all) i (Qlc all i.1 i.2)
abbrev Qwf (all : List l52Cut) (i : Nat × Int) (m39 : Nat) (i40 : Int) : Prop := LpH (Xv all) (Qau all) i m39 i40 (Qlc all (m39 + 1) i40)
abbrev Qsa (all : List l52Cut) (i40 : Int) (i40_ : Int) (K39 : Prop) : Prop := ((.int .i64 i40 : Value) = .int .i64 i40_) ∧ (Im (.l 1 Qo all)) ∧ K39
theorem un29_0 (all : List l52Cut) (i : Nat × Int) (h : Rv all i) : Qwf all i (i.1 - 1) i.2 := ⟨hd1 h.1 h.2.1, hd3 h.2.1, hd2 h.2.1, h.2.2⟩
theorem bk29_0 (all : List l52Cut) (i : Nat × Int) (m39 : Nat) (i40 : Int) (hl : m39 < i.1) (e : runL (Xv all) m39 i40 = Uas all) (h : Qlc all m39 i40) : ∃ j : Nat × Int, Qsa all i40 j.2 (Rv all j ∧ j.1 < i.1) := ⟨(m39, i40), rfl, Imp.refl _, ⟨e, h⟩, hl⟩
theorem en29_0 (all : List l52Cut) (h : (0 : Int) ≤ 0) : Qsa all 0 0 (Rv all (Qau all)) := ⟨rfl, Imp.refl _, rfl, Nat.lt_succ_self _, h⟩
def S29 (all : List l52Cut) : Spec := ⟨[.r (.c (.l 1 Qo all))], .v (.bool (F29 all)), (∀ k j : Nat, ((all.getD k default).w.getD j default).size ≤ 1048576)⟩
theorem ok29 (all : List l52Cut) : (S29 all).ok Tryz.prog 29 :=
 Qj mixed (fn := Tryz.f29) (ct := .seqk [(0, 0)] .no (.seq (.seqk [(0, 0)] .no (.blk (.loop (ι := Nat × Int) (fun i => (fun (i40 : Int) => (⟨[(0, some (.h 0 0)), (3, some (.v (vI i40)))], [(0, some (.shr none (.l 1 Qo all)))], 1⟩ : St)) i.2) (Rv all) (fun i => i.1) (Qau all) (fun i => (fun (i40 : Int) => (.seq (.seq .no (.cond .no .no)) (.seq (.blk (.seqk [(0, 0)] .no (.blk (.loop (ι := Nat × Int) (fun i => (fun (k : Int) => (⟨[(0, some (.h 0 0)), (3, some (.v (vI i40))), (4, some (.v (vI k)))], [(0, some (.shr none (.l 1 Qo all)))], 1⟩ : St)) i.2) (Qaf all i40) (fun i => i.1) (Eh i40) (fun i => (fun (k : Int) => (.seq (.seq .no (.cond .no .no)) (.seq (.blk (.seq (.seq (.reg [(4, kh56 (all.getD (Int.toNat i40) default) 0), (11, kh56 (all.getD (Int.toNat k) default) 0)]) (.cond .no .no)) (.seq (.reg [(4, kh56 (all.getD (Int.toNat i40) default) 2), (5, kh58 (F56 (all.getD (Int.toNat i40) default) 2))]) (.seq (.reg [(4, kh56 (all.getD (Int.toNat k) default) 2), (5, kh58 (F56 (all.getD (Int.toNat k) default) 2))]) (.seq .no (.cond (.seq .no .no) .no)))))) (.reg [(1, .bnd)])))) i.2))))) (.reg [(1, .bnd)])))) i.2)))) (.seq .no .no))) Tryz.func29 (fun (hpre0 : ∀ k j : Nat, ((all.getD k default).w.getD j default).size ≤ 1048576) => kn all fun _ => kn all fun _ => ai (en29_0 all (by omega)) (fun (i0 : Nat × Int) (hi0 : Rv all i0) => (fun (m0 : Nat) (i40 : Int) (hh0 : Qwf all i0 m0 i40) => have hI0 := hh0.1; have hl0 := hh0.2.1; have _ := hh0.2.2.1; have _ := hh0.2.2.2; ifd (i40 < (all.length : Int)) (fun h2 _ => kn all fun _ => ai (en29_1 all i40 (by omega)) (fun (i1 : Nat × Int) (hi1 : Qaf all i40 i1) => (fun (m1 : Nat) (k : Int) (hh1 : Quo all i40 i1 m1 k) => have hI1 := hh1.1; have hl1 := hh1.2.1; have _ := hh1.2.2.1; have _ := hh1.2.2.2; ifd (k < i40) (fun h4 _ => ai (by omega : ib i40 all) (kc56 (all.getD (Int.toNat i40) default) 0 (by omega) (ai (fun k5 : (!((F56 (all.getD (Int.toNat i40) default) 0).toList == w7_.toList)) = false => (by omega : ib k all)) (kg56 (!((F56 (all.getD (Int.toNat i40) default) 0).toList == w7_.toList)) false (all.getD (Int.toNat k) default) 0 (fun k6 => (by omega)) (ifb (bif (!((F56 (all.getD (Int.toNat i40) default) 0).toList == w7_.toList)) then true else (!((F56 (all.getD (Int.toNat k) default) 0).toList == w7_.toList))) (fun h7 => ai (iok (k + 1) (by omega)) (Qxu all i40 i1 m1 (k + 1) hl1 (Qd hI1 (condT h4 (condT h7 rfl))) (by refine ⟨?_, ?_⟩ <;> omega))) (fun h7 => have _ : (!((F56 (all.getD (Int.toNat i40) default) 0).toList == w7_.toList)) = false := (orF1 h7); have _ : (!((F56 (all.getD (Int.toNat k) default) 0).toList == w7_.toList)) = false := (orF2 h7); ai (by omega : ib i40 all) (kc56 (all.getD (Int.toNat i40) default) 2 (by omega) (kc58 (F56 (all.getD (Int.toNat i40) default) 2) (by exact Xd all (by assumption) _ _) (ai (by omega : ib k all) (kc56 (all.getD (Int.toNat k) default) 2 (by omega) (kc58 (F56 (all.getD (Int.toNat k) default) 2) (by exact Xd all (by assumption) _ _) (ifb (bif decide ((F58 (F56 (all.getD (Int.toNat i40) default) 2)).1 < (IntKind.i64.wrap (((F58 (F56 (all.getD (Int.toNat k) default) 2)).1) + ((F58 (F56 (all.getD (Int.toNat k) default) 2)).2)))) then decide ((F58 (F56 (all.getD (Int.toNat k) default) 2)).1 < (IntKind.i64.wrap (((F58 (F56 (all.getD (Int.toNat i40) default) 2)).1) + ((F58 (F56 (all.getD (Int.toNat i40) default) 2)).2)))) else false) (fun h8 => have _ := of_decide_eq_true (Qi h8); have _ := of_decide_eq_true (Qt h8); fiB false (F29 all) (finR (Qr hI0 (condT h2 (finR (Qr hI1 (condT h4 (condF h7 (condT h8 rfl)))) rfl))) rfl)) (fun h8 => ai (iok (k + 1) (by omega)) (Qxu all i40 i1 m1 (k + 1) hl1 (Qd hI1 (condT h4 (condF h7 (condF h8 rfl)))) (by refine ⟨?_, ?_⟩ <;> omega))))))))))))))) (fun h4 _ => have hD1_9 : Qxb all i40 = Lp.done k := Qk hI1 (condF h4 rfl); ai (iok (i40 + 1) (by omega)) (bk29_0 all i0 m0 (i40 + 1) hl0 (Qd hI0 (condT h2 (finD hD1_9 rfl))) (by refine ⟨?_, ?_⟩ <;> omega)))) (i1.1 - 1) i1.2 (un29_1 all i40 i1 hi1))) (fun h2 _ => have hD0_10 : Uas all = Lp.done i40 := Qk hI0 (condF h2 rfl); fiB true (F29 all) (finD hD0_10 rfl))) (i0.1 - 1) i0.2 (un29_0 all i0 hi0))) (by kernel_rfl)
def Xq (all : List l52Cut) (addr : Int) : Int → Lp Int Bool := fun i40 =>
 bif (decide (i40 < (all.length : Int))) then (bif ((F56 (all.getD (Int.toNat i40) default) 0).toList == (⟨#[112, 111, 114, 116]⟩ : ByteArray).toList) then (bif (bif decide (addr > (F58 (F56 (all.getD (Int.toNat i40) default) 2)).1) then decide (addr < (IntKind.i64.wrap (((F58 (F56 (all.getD (Int.toNat i40) default) 2)).1) + ((F58 (F56 (all.getD (Int.toNat i40) default) 2)).2)))) else false) then (.ret true) else (.next (i40 + 1))) else (.next (i40 + 1))) else (.done i40)
def F59 (all : List l52Cut) (addr : Int) : Bool :=
 (runL (Xq all addr) ((Int.toNat ((all.length : Int) - 0)) + 1) 0).fin (fun r => r) (fun i40 => false)
abbrev Qbi (all : List l52Cut) : Nat × Int := (((Int.toNat ((all.length : Int) - 0)) + 1), 0)
abbrev Qms (all : List l52Cut) (m39 : Nat) (i40 : Int) : Prop := Int.toNat ((all.length : Int) - i40) < m39 ∧ (0 : Int) ≤ i40
abbrev Qxv (all : List l52Cut) (addr : Int) : Lp Int Bool := LpX (Xq all addr) (Qbi all)
abbrev Tj (all : List l52Cut) (addr : Int) (i : Nat × Int) : Prop := LpJ (Xq all addr) (Qbi all) i (Qms all i.1 i.2)
abbrev Qsf (all : List l52Cut) (addr : Int) (i : Nat × Int) (m39 : Nat) (i40 : Int) : Prop := LpH (Xq all addr) (Qbi all) i m39 i40 (Qms all (m39 + 1) i40)
abbrev Qtb (all : List l52Cut) (addr : Int) (i40 : Int) (i40_ : Int) (K39 : Prop) : Prop := (Rf (.int .i64 addr)) ∧ ((.int .i64 i40 : Value) = .int .i64 i40_) ∧ (Im (.l 1 Qo all)) ∧ K39
theorem un59_0 (all : List l52Cut) (addr : Int) (i : Nat × Int) (h : Tj all addr i) : Qsf all addr i (i.1 - 1) i.2 := ⟨hd1 h.1 h.2.1, hd3 h.2.1, hd2 h.2.1, h.2.2⟩
theorem Qwd (all : List l52Cut) (addr : Int) (i : Nat × Int) (m39 : Nat) (i40 : Int) (hl : m39 < i.1) (e : runL (Xq all addr) m39 i40 = Qxv all addr) (h : Qms all m39 i40) : ∃ j : Nat × Int, Qtb all addr i40 j.2 (Tj all addr j ∧ j.1 < i.1) := ⟨(m39, i40), rfl, rfl, Imp.refl _, ⟨e, h⟩, hl⟩
theorem en59_0 (all : List l52Cut) (addr : Int) (h : (0 : Int) ≤ 0) : Qtb all addr 0 0 (Tj all addr (Qbi all)) := ⟨rfl, rfl, Imp.refl _, rfl, Nat.lt_succ_self _, h⟩
def S59 (all : List l52Cut) (addr : Int) : Spec := ⟨[.r (.c (.l 1 Qo all)), .r (.c (.v (vI addr)))], .v (.bool (F59 all addr)), (∀ k j : Nat, ((all.getD k default).w.getD j default).size ≤ 1048576)⟩
theorem ok59 (all : List l52Cut) (addr : Int) : (S59 all addr).ok Tryz.prog 59 :=
 Qj mixed (fn := Tryz.f59) (ct := .seqk [(0, 0)] .no (.seq (.seqk [(0, 0)] .no (.blk (.loop (ι := Nat × Int) (fun i => (fun (i40 : Int) => (⟨[(0, some (.h 0 0)), (1, some (.v (vI addr))), (5, some (.v (vI i40)))], [(0, some (.shr none (.l 1 Qo all)))], 1⟩ : St)) i.2) (Tj all addr) (fun i => i.1) (Qbi all) (fun i => (fun (i40 : Int) => (.seq (.seq .no (.cond .no .no)) (.seq (.blk (.seq (.reg [(4, kh56 (all.getD (Int.toNat i40) default) 0)]) (.cond (.seq (.reg [(4, kh56 (all.getD (Int.toNat i40) default) 2), (5, kh58 (F56 (all.getD (Int.toNat i40) default) 2))]) (.seq .no (.cond (.seq .no .no) .no))) .no))) (.reg [(1, .bnd)])))) i.2)))) (.seq .no .no))) Tryz.func59 (fun (hpre0 : ∀ k j : Nat, ((all.getD k default).w.getD j default).size ≤ 1048576) => kn all fun _ => kn all fun _ => ai (en59_0 all addr (by omega)) (fun (i0 : Nat × Int) (hi0 : Tj all addr i0) => (fun (m0 : Nat) (i40 : Int) (hh0 : Qsf all addr i0 m0 i40) => have hI0 := hh0.1; have hl0 := hh0.2.1; have _ := hh0.2.2.1; have _ := hh0.2.2.2; ifd (i40 < (all.length : Int)) (fun h2 _ => ai (by omega : ib i40 all) (kc56 (all.getD (Int.toNat i40) default) 0 (by omega) (ifb ((F56 (all.getD (Int.toNat i40) default) 0).toList == w7_.toList) (fun h3 => ai (by omega : ib i40 all) (kc56 (all.getD (Int.toNat i40) default) 2 (by omega) (kc58 (F56 (all.getD (Int.toNat i40) default) 2) (by exact Xd all (by assumption) _ _) (ifb (bif decide (addr > (F58 (F56 (all.getD (Int.toNat i40) default) 2)).1) then decide (addr < (IntKind.i64.wrap (((F58 (F56 (all.getD (Int.toNat i40) default) 2)).1) + ((F58 (F56 (all.getD (Int.toNat i40) default) 2)).2)))) else false) (fun h4 => have _ := of_decide_eq_true (Qi h4); have _ := of_decide_eq_true (Qt h4); fiB true (F59 all addr) (finR (Qr hI0 (condT h2 (condT h3 (condT h4 rfl)))) rfl)) (fun h4 => ai (iok (i40 + 1) (by omega)) (Qwd all addr i0 m0 (i40 + 1) hl0 (Qd hI0 (condT h2 (condT h3 (condF h4 rfl)))) (by refine ⟨?_, ?_⟩ <;> omega))))))) (fun h3 => ai (iok (i40 + 1) (by omega)) (Qwd all addr i0 m0 (i40 + 1) hl0 (Qd hI0 (condT h2 (condF h3 rfl))) (by refine ⟨?_, ?_⟩ <;> omega)))))) (fun h2 _ => have hD0_5 : Qxv all addr = Lp.done i40 := Qk hI0 (condF h2 rfl); fiB false (F59 all addr) (finD hD0_5 rfl))) (i0.1 - 1) i0.2 (un59_0 all addr i0 hi0))) (by kernel_rfl)
theorem kc59 (all : List l52Cut) (addr : Int) {K_ : Prop} (p0_ : ∀ k j : Nat, ((all.getD k default).w.getD j default).size ≤ 1048576) (k_ : K_) : (∀ k j : Nat, ((all.getD k default).w.getD j default).size ≤ 1048576) ∧ (Imp (.l 1 Qo all) (.l 1 Qo all)) ∧ (Imp (.v (vI addr)) (.v (vI addr))) ∧ K_ := ⟨p0_, Imp.refl _, Imp.refl _, k_⟩
abbrev kh59 (all : List l52Cut) (addr : Int) : Hint true Tryz.prog := .call 59 (S59 all addr) (ok59 all addr) none
def Bb (all : List l52Cut) : Int → Lp Int Bool := fun i40 =>
 bif (decide (i40 < (all.length : Int))) then (bif ((F56 (all.getD (Int.toNat i40) default) 0).toList == (⟨#[114, 111, 117, 116, 101]⟩ : ByteArray).toList) then (bif (!(F59 all (F60 (F56 (all.getD (Int.toNat i40) default) 2)))) then (.ret false) else (.next (i40 + 1))) else (bif ((F56 (all.getD (Int.toNat i40) default) 0).toList == (⟨#[112, 101, 101, 114]⟩ : ByteArray).toList) then (bif (!(F59 all (F60 (F56 (all.getD (Int.toNat i40) default) 1)))) then (.ret false) else (.next (i40 + 1))) else (.next (i40 + 1)))) else (.done i40)
def F30 (all : List l52Cut) : Bool :=
 (runL (Bb all) ((Int.toNat ((all.length : Int) - 0)) + 1) 0).fin (fun r => r) (fun i40 => true)
abbrev Rc (all : List l52Cut) : Nat × Int := (((Int.toNat ((all.length : Int) - 0)) + 1), 0)
abbrev Qky (all : List l52Cut) (m39 : Nat) (i40 : Int) : Prop := Int.toNat ((all.length : Int) - i40) < m39 ∧ (0 : Int) ≤ i40
abbrev Qun (all : List l52Cut) : Lp Int Bool := LpX (Bb all) (Rc all)
abbrev Rw (all : List l52Cut) (i : Nat × Int) : Prop := LpJ (Bb all) (Rc all) i (Qky all i.1 i.2)
abbrev Qwt (all : List l52Cut) (i : Nat × Int) (m39 : Nat) (i40 : Int) : Prop := LpH (Bb all) (Rc all) i m39 i40 (Qky all (m39 + 1) i40)
abbrev Qwy (all : List l52Cut) (i40 : Int) (i40_ : Int) (K39 : Prop) : Prop := ((.int .i64 i40 : Value) = .int .i64 i40_) ∧ (Im (.l 1 Qo all)) ∧ K39
theorem un30_0 (all : List l52Cut) (i : Nat × Int) (h : Rw all i) : Qwt all i (i.1 - 1) i.2 := ⟨hd1 h.1 h.2.1, hd3 h.2.1, hd2 h.2.1, h.2.2⟩
theorem Qkc (all : List l52Cut) (i : Nat × Int) (m39 : Nat) (i40 : Int) (hl : m39 < i.1) (e : runL (Bb all) m39 i40 = Qun all) (h : Qky all m39 i40) : ∃ j : Nat × Int, Qwy all i40 j.2 (Rw all j ∧ j.1 < i.1) := ⟨(m39, i40), rfl, Imp.refl _, ⟨e, h⟩, hl⟩
theorem en30_0 (all : List l52Cut) (h : (0 : Int) ≤ 0) : Qwy all 0 0 (Rw all (Rc all)) := ⟨rfl, Imp.refl _, rfl, Nat.lt_succ_self _, h⟩
def S30 (all : List l52Cut) : Spec := ⟨[.r (.c (.l 1 Qo all))], .v (.bool (F30 all)), (∀ k j : Nat, ((all.getD k default).w.getD j default).size ≤ 1048576)⟩
theorem ok30 (all : List l52Cut) : (S30 all).ok Tryz.prog 30 :=
 Qj mixed (fn := Tryz.f30) (ct := .seqk [(0, 0)] .no (.seq (.seqk [(0, 0)] .no (.blk (.loop (ι := Nat × Int) (fun i => (fun (i40 : Int) => (⟨[(0, some (.h 0 0)), (3, some (.v (vI i40)))], [(0, some (.shr none (.l 1 Qo all)))], 1⟩ : St)) i.2) (Rw all) (fun i => i.1) (Rc all) (fun i => (fun (i40 : Int) => (.seq (.seq .no (.cond .no .no)) (.seq (.blk (.seq (.reg [(4, kh56 (all.getD (Int.toNat i40) default) 0)]) (.blk (.seq .no (.cond (.seq (.reg [(5, kh56 (all.getD (Int.toNat i40) default) 2), (6, kh60 (F56 (all.getD (Int.toNat i40) default) 2)), (7, kh59 all (F60 (F56 (all.getD (Int.toNat i40) default) 2)))]) (.cond (.seq .no .no) .no)) (.seq .no (.cond (.seq (.reg [(5, kh56 (all.getD (Int.toNat i40) default) 1), (6, kh60 (F56 (all.getD (Int.toNat i40) default) 1)), (7, kh59 all (F60 (F56 (all.getD (Int.toNat i40) default) 1)))]) (.cond (.seq .no .no) .no)) .no))))))) (.reg [(1, .bnd)])))) i.2)))) (.seq .no .no))) Tryz.func30 (fun (hpre0 : ∀ k j : Nat, ((all.getD k default).w.getD j default).size ≤ 1048576) => kn all fun _ => kn all fun _ => ai (en30_0 all (by omega)) (fun (i0 : Nat × Int) (hi0 : Rw all i0) => (fun (m0 : Nat) (i40 : Int) (hh0 : Qwt all i0 m0 i40) => have hI0 := hh0.1; have hl0 := hh0.2.1; have _ := hh0.2.2.1; have _ := hh0.2.2.2; ifd (i40 < (all.length : Int)) (fun h2 _ => ai (by omega : ib i40 all) (kc56 (all.getD (Int.toNat i40) default) 0 (by omega) (ifb ((F56 (all.getD (Int.toNat i40) default) 0).toList == w8_.toList) (fun h3 => ai (by omega : ib i40 all) (kc56 (all.getD (Int.toNat i40) default) 2 (by omega) (kc60 (F56 (all.getD (Int.toNat i40) default) 2) (by exact Xd all (by assumption) _ _) (kc59 all (F60 (F56 (all.getD (Int.toNat i40) default) 2)) (by assumption) (ifb (!(F59 all (F60 (F56 (all.getD (Int.toNat i40) default) 2)))) (fun h4 => fiB false (F30 all) (finR (Qr hI0 (condT h2 (condT h3 (condT h4 rfl)))) rfl)) (fun h4 => ai (iok (i40 + 1) (by omega)) (Qkc all i0 m0 (i40 + 1) hl0 (Qd hI0 (condT h2 (condT h3 (condF h4 rfl)))) (by refine ⟨?_, ?_⟩ <;> omega)))))))) (fun h3 => ifb ((F56 (all.getD (Int.toNat i40) default) 0).toList == w6_.toList) (fun h5 => ai (by omega : ib i40 all) (kc56 (all.getD (Int.toNat i40) default) 1 (by omega) (kc60 (F56 (all.getD (Int.toNat i40) default) 1) (by exact Xd all (by assumption) _ _) (kc59 all (F60 (F56 (all.getD (Int.toNat i40) default) 1)) (by assumption) (ifb (!(F59 all (F60 (F56 (all.getD (Int.toNat i40) default) 1)))) (fun h6 => fiB false (F30 all) (finR (Qr hI0 (condT h2 (condF h3 (condT h5 (condT h6 rfl))))) rfl)) (fun h6 => ai (iok (i40 + 1) (by omega)) (Qkc all i0 m0 (i40 + 1) hl0 (Qd hI0 (condT h2 (condF h3 (condT h5 (condF h6 rfl))))) (by refine ⟨?_, ?_⟩ <;> omega)))))))) (fun h5 => ai (iok (i40 + 1) (by omega)) (Qkc all i0 m0 (i40 + 1) hl0 (Qd hI0 (condT h2 (condF h3 (condF h5 rfl)))) (by refine ⟨?_, ?_⟩ <;> omega))))))) (fun h2 _ => have hD0_7 : Qun all = Lp.done i40 := Qk hI0 (condF h2 rfl); fiB true (F30 all) (finD hD0_7 rfl))) (i0.1 - 1) i0.2 (un30_0 all i0 hi0))) (by kernel_rfl)
def Mc (all : List l52Cut) : Int → Lp Int Int := fun i40 =>
 bif (decide (i40 < (all.length : Int))) then (bif ((F56 (all.getD (Int.toNat i40) default) 0).toList == (⟨#[110, 97, 116]⟩ : ByteArray).toList) then (.ret i40) else (.next (i40 + 1))) else (.done i40)
def F61 (all : List l52Cut) : Int :=
 (runL (Mc all) ((Int.toNat ((all.length : Int) - 0)) + 1) 0).fin (fun r => r) (fun i40 => (-1))
abbrev Eg (all : List l52Cut) : Nat × Int := (((Int.toNat ((all.length : Int) - 0)) + 1), 0)
abbrev Qjy (all : List l52Cut) (m39 : Nat) (i40 : Int) : Prop := Int.toNat ((all.length : Int) - i40) < m39 ∧ (0 : Int) ≤ i40
abbrev Qsv (all : List l52Cut) : Lp Int Int := LpX (Mc all) (Eg all)
abbrev Em (all : List l52Cut) (i : Nat × Int) : Prop := LpJ (Mc all) (Eg all) i (Qjy all i.1 i.2)
abbrev Qvj (all : List l52Cut) (i : Nat × Int) (m39 : Nat) (i40 : Int) : Prop := LpH (Mc all) (Eg all) i m39 i40 (Qjy all (m39 + 1) i40)
abbrev Qzc (all : List l52Cut) (i40 : Int) (i40_ : Int) (K39 : Prop) : Prop := ((.int .i64 i40 : Value) = .int .i64 i40_) ∧ (Im (.l 1 Qo all)) ∧ K39
theorem un61_0 (all : List l52Cut) (i : Nat × Int) (h : Em all i) : Qvj all i (i.1 - 1) i.2 := ⟨hd1 h.1 h.2.1, hd3 h.2.1, hd2 h.2.1, h.2.2⟩
theorem bk61_0 (all : List l52Cut) (i : Nat × Int) (m39 : Nat) (i40 : Int) (hl : m39 < i.1) (e : runL (Mc all) m39 i40 = Qsv all) (h : Qjy all m39 i40) : ∃ j : Nat × Int, Qzc all i40 j.2 (Em all j ∧ j.1 < i.1) := ⟨(m39, i40), rfl, Imp.refl _, ⟨e, h⟩, hl⟩
theorem en61_0 (all : List l52Cut) (h : (0 : Int) ≤ 0) : Qzc all 0 0 (Em all (Eg all)) := ⟨rfl, Imp.refl _, rfl, Nat.lt_succ_self _, h⟩
def S61 (R : Int) (all : List l52Cut) : Spec := ⟨[.r (.c (.l 1 Qo all))], .v (vI R), True⟩
theorem ok61 (all : List l52Cut) : (S61 (F61 all) all).ok Tryz.prog 61 :=
 Qj mixed (fn := Tryz.f61) (ct := .seqk [(0, 0)] .no (.seq (.seqk [(0, 0)] .no (.blk (.loop (ι := Nat × Int) (fun i => (fun (i40 : Int) => (⟨[(0, some (.h 0 0)), (3, some (.v (vI i40)))], [(0, some (.shr none (.l 1 Qo all)))], 1⟩ : St)) i.2) (Em all) (fun i => i.1) (Eg all) (fun i => (fun (i40 : Int) => (.seq (.seq .no (.cond .no .no)) (.seq (.blk (.seq (.reg [(4, kh56 (all.getD (Int.toNat i40) default) 0)]) (.cond (.seq .no .no) .no))) (.reg [(1, .bnd)])))) i.2)))) (.seq .no .no))) Tryz.func61 (fun (_ : True) => kn all fun _ => kn all fun _ => ai (en61_0 all (by omega)) (fun (i0 : Nat × Int) (hi0 : Em all i0) => (fun (m0 : Nat) (i40 : Int) (hh0 : Qvj all i0 m0 i40) => have hI0 := hh0.1; have hl0 := hh0.2.1; have _ := hh0.2.2.1; have _ := hh0.2.2.2; ifd (i40 < (all.length : Int)) (fun h2 _ => ai (by omega : ib i40 all) (kc56 (all.getD (Int.toNat i40) default) 0 (by omega) (ifb ((F56 (all.getD (Int.toNat i40) default) 0).toList == w5_.toList) (fun h3 => fiI i40 (F61 all) (finR (Qr hI0 (condT h2 (condT h3 rfl))) rfl)) (fun h3 => ai (iok (i40 + 1) (by omega)) (bk61_0 all i0 m0 (i40 + 1) hl0 (Qd hI0 (condT h2 (condF h3 rfl))) (by refine ⟨?_, ?_⟩ <;> omega)))))) (fun h2 _ => have hD0_4 : Qsv all = Lp.done i40 := Qk hI0 (condF h2 rfl); fiI (-1) (F61 all) (finD hD0_4 rfl))) (i0.1 - 1) i0.2 (un61_0 all i0 hi0))) (by kernel_rfl)
theorem as61 (all : List l52Cut) : F61 all = (idxI (fun c => ((F56 c 0).toList == (⟨#[110, 97, 116]⟩ : ByteArray).toList)) all) := by
 exact Wl (fun c => ((F56 c 0).toList == (⟨#[110, 97, 116]⟩ : ByteArray).toList)) all (Mc all) (fun i => rfl)
theorem oa61 (all : List l52Cut) : (S61 (idxI (fun c => ((F56 c 0).toList == (⟨#[110, 97, 116]⟩ : ByteArray).toList)) all) all).ok Tryz.prog 61 := by
 intro hp; have h := ok61 all hp; rw [as61 all] at h; exact h
theorem g61_0 (all : List l52Cut) : (idxI (fun c => ((F56 c 0).toList == (⟨#[110, 97, 116]⟩ : ByteArray).toList)) all) < (all.length : Int) := by
 exact Li _ all
theorem kg63 {K_ : Prop} (c_ b_ : Bool) (s : ByteArray) (p_ : c_ = b_ → s.size ≤ 1048576) (k_ : K_) : (c_ = b_ → s.size ≤ 1048576) ∧ (c_ = b_ → Imp (.v (.string s)) (.v (.string s))) ∧ K_ := ⟨p_, fun _ => Imp.refl _, k_⟩
def Bm (all : List l52Cut) (at' : Int) (nat : l52Cut) : Int → Lp Int Bool := fun i40 =>
 bif (decide (i40 < at')) then (bif (bif (bif (bif ((F56 (all.getD (Int.toNat i40) default) 0).toList == (⟨#[100, 111, 111, 114]⟩ : ByteArray).toList) then ((F56 (all.getD (Int.toNat i40) default) 1).toList == (F56 (all.getD (Int.toNat at') default) 1).toList) else false) then ((F56 (all.getD (Int.toNat i40) default) 3).toList == (F56 (all.getD (Int.toNat at') default) 3).toList) else false) then ((F56 (all.getD (Int.toNat i40) default) 4).toList == (F56 (all.getD (Int.toNat at') default) 4).toList) else false) then (.ret false) else (.next (i40 + 1))) else (.done i40)
def F62 (all : List l52Cut) (at' : Int) (nat : l52Cut) : Bool :=
 bif (bif (bif decide ((F60 (F56 (all.getD (Int.toNat at') default) 3)) < (F58 (F56 nat 1)).1) then true else decide ((F60 (F56 (all.getD (Int.toNat at') default) 3)) ≥ (IntKind.i64.wrap (((F58 (F56 nat 1)).1) + ((F58 (F56 nat 1)).2))))) then true else (decide ((F63 (F56 nat 3)) ≤ F63 (F56 (all.getD (Int.toNat at') default) 2) ∧ F63 (F56 (all.getD (Int.toNat at') default) 2) ≤ (F63 (F56 nat 4))))) then false else ((runL (Bm all at' nat) ((Int.toNat (at' - 0)) + 1) 0).fin (fun r => r) (fun i40 => true))
abbrev Qbh (at' : Int) : Nat × Int := (((Int.toNat (at' - 0)) + 1), 0)
abbrev Qkz (at' : Int) (m39 : Nat) (i40 : Int) : Prop := Int.toNat (at' - i40) < m39 ∧ (0 : Int) ≤ i40
abbrev Qze (all : List l52Cut) (at' : Int) (nat : l52Cut) : Lp Int Bool := LpX (Bm all at' nat) (Qbh at')
abbrev Et (all : List l52Cut) (at' : Int) (nat : l52Cut) (i : Nat × Int) : Prop := LpJ (Bm all at' nat) (Qbh at') i (Qkz at' i.1 i.2)
abbrev Qsr (all : List l52Cut) (at' : Int) (nat : l52Cut) (i : Nat × Int) (m39 : Nat) (i40 : Int) : Prop := LpH (Bm all at' nat) (Qbh at') i m39 i40 (Qkz at' (m39 + 1) i40)
abbrev Qts (all : List l52Cut) (at' : Int) (i40 : Int) (i40_ : Int) (K39 : Prop) : Prop := (Rf (.int .i64 at')) ∧ ((.int .i64 i40 : Value) = .int .i64 i40_) ∧ (Im (.l 1 Qo all)) ∧ (Ims (Qo (all.getD (Int.toNat at') default))) ∧ K39
theorem un62_0 (all : List l52Cut) (at' : Int) (nat : l52Cut) (i : Nat × Int) (h : Et all at' nat i) : Qsr all at' nat i (i.1 - 1) i.2 := ⟨hd1 h.1 h.2.1, hd3 h.2.1, hd2 h.2.1, h.2.2⟩
theorem bk62_0 (all : List l52Cut) (at' : Int) (nat : l52Cut) (i : Nat × Int) (m39 : Nat) (i40 : Int) (hl : m39 < i.1) (e : runL (Bm all at' nat) m39 i40 = Qze all at' nat) (h : Qkz at' m39 i40) : ∃ j : Nat × Int, Qts all at' i40 j.2 (Et all at' nat j ∧ j.1 < i.1) := ⟨(m39, i40), rfl, rfl, Imp.refl _, Imps.refl _, ⟨e, h⟩, hl⟩
theorem en62_0 (all : List l52Cut) (at' : Int) (nat : l52Cut) (h : (0 : Int) ≤ 0) : Qts all at' 0 0 (Et all at' nat (Qbh at')) := ⟨rfl, rfl, Imp.refl _, Imps.refl _, rfl, Nat.lt_succ_self _, h⟩
def S62 (all : List l52Cut) (at' : Int) (nat : l52Cut) : Spec := ⟨[.r (.c (.l 1 Qo all)), .r (.c (.v (vI at'))), .r (.g (Qo nat))], .v (.bool (F62 all at' nat)), 0 ≤ at' ∧ at' < (all.length : Int) ∧ (∀ j : Nat, (nat.w.getD j default).size ≤ 1048576) ∧ (∀ k j : Nat, ((all.getD k default).w.getD j default).size ≤ 1048576)⟩
theorem ok62 (all : List l52Cut) (at' : Int) (nat : l52Cut) : (S62 all at' nat).ok Tryz.prog 62 :=
 Qj mixed (fn := Tryz.f62) (ct := .seqk [(0, 0)] .no (.seq .no (.seq (.reg [(1, kh56 nat 1), (2, kh58 (F56 nat 1))]) (.seq (.reg [(1, kh56 (all.getD (Int.toNat at') default) 3), (2, kh60 (F56 (all.getD (Int.toNat at') default) 3))]) (.seq (.seq (.reg [(12, kh56 (all.getD (Int.toNat at') default) 2), (14, kh56 nat 3), (15, kh63 (F56 nat 3)), (17, kh56 nat 4), (18, kh63 (F56 nat 4)), (19, Zt (F56 (all.getD (Int.toNat at') default) 2) (F63 (F56 nat 3)) (F63 (F56 nat 4)))]) (.cond (.seq .no .no) .no)) (.seq (.seqk [(0, 0), (7, 0)] .no (.blk (.loop (ι := Nat × Int) (fun i => (fun (i40 : Int) => (⟨[(0, some (.h 0 0)), (1, some (.v (vI at'))), (7, some (.p 1 0)), (11, some (.v (vI i40)))], [(0, some (.shr none (.l 1 Qo all))), (1, some (.box 66 [.h 2 1])), (2, some (.mem none none (Qo (all.getD (Int.toNat at') default))))], 3⟩ : St)) i.2) (Et all at' nat) (fun i => i.1) (Qbh at') (fun i => (fun (i40 : Int) => (.seq (.seq .no (.cond .no .no)) (.seq (.blk (.seq (.reg [(4, kh56 (all.getD (Int.toNat i40) default) 0), (11, kh56 (all.getD (Int.toNat i40) default) 1), (13, kh56 (all.getD (Int.toNat at') default) 1), (21, kh56 (all.getD (Int.toNat i40) default) 3), (23, kh56 (all.getD (Int.toNat at') default) 3), (31, kh56 (all.getD (Int.toNat i40) default) 4), (33, kh56 (all.getD (Int.toNat at') default) 4)]) (.cond (.seq .no .no) .no))) (.reg [(1, .bnd)])))) i.2)))) (.seq .no .no))))))) Tryz.func62 (fun (hp : 0 ≤ at' ∧ at' < (all.length : Int) ∧ (∀ j : Nat, (nat.w.getD j default).size ≤ 1048576) ∧ (∀ k j : Nat, ((all.getD k default).w.getD j default).size ≤ 1048576)) => have hpre0 := hp.1; have hpre1 := hp.2.1; have hpre2 := hp.2.2.1; have hpre3 := hp.2.2.2; kn all fun _ => ai (by omega : ib at' all) (kc56 nat 1 (by omega) (kc58 (F56 nat 1) (by exact Qfc (by assumption) _) (kc56 (all.getD (Int.toNat at') default) 3 (by omega) (kc60 (F56 (all.getD (Int.toNat at') default) 3) (by exact Xd all (by assumption) _ _) (kg56 (bif decide ((F60 (F56 (all.getD (Int.toNat at') default) 3)) < (F58 (F56 nat 1)).1) then true else decide ((F60 (F56 (all.getD (Int.toNat at') default) 3)) ≥ (IntKind.i64.wrap (((F58 (F56 nat 1)).1) + ((F58 (F56 nat 1)).2))))) false (all.getD (Int.toNat at') default) 2 (fun k1 => have _ := of_decide_eq_false (orF1 k1); have _ := of_decide_eq_false (orF2 k1); (by omega)) (kg56 (bif decide ((F60 (F56 (all.getD (Int.toNat at') default) 3)) < (F58 (F56 nat 1)).1) then true else decide ((F60 (F56 (all.getD (Int.toNat at') default) 3)) ≥ (IntKind.i64.wrap (((F58 (F56 nat 1)).1) + ((F58 (F56 nat 1)).2))))) false nat 3 (fun k2 => have _ := of_decide_eq_false (orF1 k2); have _ := of_decide_eq_false (orF2 k2); (by omega)) (kg63 (bif decide ((F60 (F56 (all.getD (Int.toNat at') default) 3)) < (F58 (F56 nat 1)).1) then true else decide ((F60 (F56 (all.getD (Int.toNat at') default) 3)) ≥ (IntKind.i64.wrap (((F58 (F56 nat 1)).1) + ((F58 (F56 nat 1)).2))))) false (F56 nat 3) (fun k3 => have _ := of_decide_eq_false (orF1 k3); have _ := of_decide_eq_false (orF2 k3); (by exact Qfc (by assumption) _)) (kg56 (bif decide ((F60 (F56 (all.getD (Int.toNat at') default) 3)) < (F58 (F56 nat 1)).1) then true else decide ((F60 (F56 (all.getD (Int.toNat at') default) 3)) ≥ (IntKind.i64.wrap (((F58 (F56 nat 1)).1) + ((F58 (F56 nat 1)).2))))) false nat 4 (fun k4 => have _ := of_decide_eq_false (orF1 k4); have _ := of_decide_eq_false (orF2 k4); (by omega)) (kg63 (bif decide ((F60 (F56 (all.getD (Int.toNat at') default) 3)) < (F58 (F56 nat 1)).1) then true else decide ((F60 (F56 (all.getD (Int.toNat at') default) 3)) ≥ (IntKind.i64.wrap (((F58 (F56 nat 1)).1) + ((F58 (F56 nat 1)).2))))) false (F56 nat 4) (fun k5 => have _ := of_decide_eq_false (orF1 k5); have _ := of_decide_eq_false (orF2 k5); (by exact Qfc (by assumption) _)) (Zu (bif decide ((F60 (F56 (all.getD (Int.toNat at') default) 3)) < (F58 (F56 nat 1)).1) then true else decide ((F60 (F56 (all.getD (Int.toNat at') default) 3)) ≥ (IntKind.i64.wrap (((F58 (F56 nat 1)).1) + ((F58 (F56 nat 1)).2))))) false (F56 (all.getD (Int.toNat at') default) 2) (F63 (F56 nat 3)) (F63 (F56 nat 4)) (fun k6 => have _ := of_decide_eq_false (orF1 k6); have _ := of_decide_eq_false (orF2 k6); (by exact Xd all (by assumption) _ _)) (ifb (bif (bif decide ((F60 (F56 (all.getD (Int.toNat at') default) 3)) < (F58 (F56 nat 1)).1) then true else decide ((F60 (F56 (all.getD (Int.toNat at') default) 3)) ≥ (IntKind.i64.wrap (((F58 (F56 nat 1)).1) + ((F58 (F56 nat 1)).2))))) then true else (decide ((F63 (F56 nat 3)) ≤ F63 (F56 (all.getD (Int.toNat at') default) 2) ∧ F63 (F56 (all.getD (Int.toNat at') default) 2) ≤ (F63 (F56 nat 4))))) (fun h7 => fiB false (F62 all at' nat) (condT h7 rfl)) (fun h7 => have _ := of_decide_eq_false (orF1 (orF1 h7)); have _ := of_decide_eq_false (orF2 (orF1 h7)); have _ := of_decide_eq_false (orF2 h7); kn all fun _ => kn ((all.getD (Int.toNat at') default).w) fun _ => ai (en62_0 all at' nat (by omega)) (fun (i0 : Nat × Int) (hi0 : Et all at' nat i0) => (fun (m0 : Nat) (i40 : Int) (hh0 : Qsr all at' nat i0 m0 i40) => have hI0 := hh0.1; have hl0 := hh0.2.1; have _ := hh0.2.2.1; have _ := hh0.2.2.2; ifd (i40 < at') (fun h9 _ => ai (by omega : ib i40 all) (kc56 (all.getD (Int.toNat i40) default) 0 (by omega) (ai (fun k10 : ((F56 (all.getD (Int.toNat i40) default) 0).toList == w3_.toList) = true => (by omega : ib i40 all)) (kg56 ((F56 (all.getD (Int.toNat i40) default) 0).toList == w3_.toList) true (all.getD (Int.toNat i40) default) 1 (fun k11 => (by omega)) (kg56 ((F56 (all.getD (Int.toNat i40) default) 0).toList == w3_.toList) true (all.getD (Int.toNat at') default) 1 (fun k12 => (by omega)) (ai (fun k13 : (bif ((F56 (all.getD (Int.toNat i40) default) 0).toList == w3_.toList) then ((F56 (all.getD (Int.toNat i40) default) 1).toList == (F56 (all.getD (Int.toNat at') default) 1).toList) else false) = true => have _ : ((F56 (all.getD (Int.toNat i40) default) 0).toList == w3_.toList) = true := (Qi k13); have _ := (Qt k13); (by omega : ib i40 all)) (kg56 (bif ((F56 (all.getD (Int.toNat i40) default) 0).toList == w3_.toList) then ((F56 (all.getD (Int.toNat i40) default) 1).toList == (F56 (all.getD (Int.toNat at') default) 1).toList) else false) true (all.getD (Int.toNat i40) default) 3 (fun k14 => have _ : ((F56 (all.getD (Int.toNat i40) default) 0).toList == w3_.toList) = true := (Qi k14); have _ := (Qt k14); (by omega)) (kg56 (bif ((F56 (all.getD (Int.toNat i40) default) 0).toList == w3_.toList) then ((F56 (all.getD (Int.toNat i40) default) 1).toList == (F56 (all.getD (Int.toNat at') default) 1).toList) else false) true (all.getD (Int.toNat at') default) 3 (fun k15 => have _ : ((F56 (all.getD (Int.toNat i40) default) 0).toList == w3_.toList) = true := (Qi k15); have _ := (Qt k15); (by omega)) (ai (fun k16 : (bif (bif ((F56 (all.getD (Int.toNat i40) default) 0).toList == w3_.toList) then ((F56 (all.getD (Int.toNat i40) default) 1).toList == (F56 (all.getD (Int.toNat at') default) 1).toList) else false) then ((F56 (all.getD (Int.toNat i40) default) 3).toList == (F56 (all.getD (Int.toNat at') default) 3).toList) else false) = true => have _ : ((F56 (all.getD (Int.toNat i40) default) 0).toList == w3_.toList) = true := (Qi (Qi k16)); have _ := (Qt (Qi k16)); have _ := (Qt k16); (by omega : ib i40 all)) (kg56 (bif (bif ((F56 (all.getD (Int.toNat i40) default) 0).toList == w3_.toList) then ((F56 (all.getD (Int.toNat i40) default) 1).toList == (F56 (all.getD (Int.toNat at') default) 1).toList) else false) then ((F56 (all.getD (Int.toNat i40) default) 3).toList == (F56 (all.getD (Int.toNat at') default) 3).toList) else false) true (all.getD (Int.toNat i40) default) 4 (fun k17 => have _ : ((F56 (all.getD (Int.toNat i40) default) 0).toList == w3_.toList) = true := (Qi (Qi k17)); have _ := (Qt (Qi k17)); have _ := (Qt k17); (by omega)) (kg56 (bif (bif ((F56 (all.getD (Int.toNat i40) default) 0).toList == w3_.toList) then ((F56 (all.getD (Int.toNat i40) default) 1).toList == (F56 (all.getD (Int.toNat at') default) 1).toList) else false) then ((F56 (all.getD (Int.toNat i40) default) 3).toList == (F56 (all.getD (Int.toNat at') default) 3).toList) else false) true (all.getD (Int.toNat at') default) 4 (fun k18 => have _ : ((F56 (all.getD (Int.toNat i40) default) 0).toList == w3_.toList) = true := (Qi (Qi k18)); have _ := (Qt (Qi k18)); have _ := (Qt k18); (by omega)) (ifb (bif (bif (bif ((F56 (all.getD (Int.toNat i40) default) 0).toList == w3_.toList) then ((F56 (all.getD (Int.toNat i40) default) 1).toList == (F56 (all.getD (Int.toNat at') default) 1).toList) else false) then ((F56 (all.getD (Int.toNat i40) default) 3).toList == (F56 (all.getD (Int.toNat at') default) 3).toList) else false) then ((F56 (all.getD (Int.toNat i40) default) 4).toList == (F56 (all.getD (Int.toNat at') default) 4).toList) else false) (fun h19 => have _ : ((F56 (all.getD (Int.toNat i40) default) 0).toList == w3_.toList) = true := (Qi (Qi (Qi h19))); have _ := (Qt (Qi (Qi h19))); have _ := (Qt (Qi h19)); have _ := (Qt h19); fiB false (F62 all at' nat) (condF h7 (finR (Qr hI0 (condT h9 (condT h19 rfl))) rfl))) (fun h19 => ai (iok (i40 + 1) (by omega)) (bk62_0 all at' nat i0 m0 (i40 + 1) hl0 (Qd hI0 (condT h9 (condF h19 rfl))) (by refine ⟨?_, ?_⟩ <;> omega))))))))))))))) (fun h9 _ => have hD0_20 : Qze all at' nat = Lp.done i40 := Qk hI0 (condF h9 rfl); fiB true (F62 all at' nat) (condF h7 (finD hD0_20 rfl)))) (i0.1 - 1) i0.2 (un62_0 all at' nat i0 hi0))))))))))))))) (by kernel_rfl)
theorem kc61a (all : List l52Cut) {K_ : Prop} (k_ : ((idxI (fun c => ((F56 c 0).toList == w5_.toList)) all) < (all.length : Int)) → K_) : (True) ∧ (Imp (.l 1 Qo all) (.l 1 Qo all)) ∧ K_ := ⟨trivial, Imp.refl _, k_ (g61_0 all)⟩
abbrev kh61a (all : List l52Cut) : Hint true Tryz.prog := .call 61 (S61 (idxI (fun c => ((F56 c 0).toList == w5_.toList)) all) all) (oa61 all) none
theorem kg62 {K_ : Prop} (c_ b_ : Bool) (all : List l52Cut) (at' : Int) (nat : l52Cut) (p_ : c_ = b_ → 0 ≤ at' ∧ at' < (all.length : Int) ∧ (∀ j : Nat, (nat.w.getD j default).size ≤ 1048576) ∧ (∀ k j : Nat, ((all.getD k default).w.getD j default).size ≤ 1048576)) (k_ : K_) : (c_ = b_ → 0 ≤ at' ∧ at' < (all.length : Int) ∧ (∀ j : Nat, (nat.w.getD j default).size ≤ 1048576) ∧ (∀ k j : Nat, ((all.getD k default).w.getD j default).size ≤ 1048576)) ∧ (c_ = b_ → Imp (.l 1 Qo all) (.l 1 Qo all)) ∧ (c_ = b_ → Imp (.v (vI at')) (.v (vI at'))) ∧ (c_ = b_ → Imps (Qo nat) (Qo nat)) ∧ K_ := ⟨p_, fun _ => Imp.refl _, fun _ => Imp.refl _, fun _ => Imps.refl _, k_⟩
abbrev kh62 (all : List l52Cut) (at' : Int) (nat : l52Cut) : Hint true Tryz.prog := .call 62 (S62 all at' nat) (ok62 all at' nat) none
def Xn (all : List l52Cut) : (Int × Int) → Lp (Int × Int) Bool := fun (doors, i40) =>
 bif (decide (i40 < (all.length : Int))) then (bif (!((F56 (all.getD (Int.toNat i40) default) 0).toList == (⟨#[100, 111, 111, 114]⟩ : ByteArray).toList)) then (.next (doors, (i40 + 1))) else (bif (bif decide ((idxI (fun c => ((F56 c 0).toList == (⟨#[110, 97, 116]⟩ : ByteArray).toList)) all) < 0) then true else (!(F62 all i40 (all.getD (Int.toNat (idxI (fun c => ((F56 c 0).toList == (⟨#[110, 97, 116]⟩ : ByteArray).toList)) all)) default)))) then (.ret false) else (.next ((doors + 1), (i40 + 1))))) else (.done (doors, i40))
def F31 (all : List l52Cut) : Bool :=
 (runL (Xn all) ((Int.toNat ((all.length : Int) - 0)) + 1) (0, 0)).fin (fun r => r) (fun (doors, i40) => bif (decide ((idxI (fun c => ((F56 c 0).toList == (⟨#[110, 97, 116]⟩ : ByteArray).toList)) all) < 0)) then true else (bif (bif decide (doors ≤ 6) then (bif decide ((F60 (F56 (all.getD (Int.toNat (idxI (fun c => ((F56 c 0).toList == (⟨#[110, 97, 116]⟩ : ByteArray).toList)) all)) default) 2)) < (F58 (F56 (all.getD (Int.toNat (idxI (fun c => ((F56 c 0).toList == (⟨#[110, 97, 116]⟩ : ByteArray).toList)) all)) default) 1)).1) then true else decide ((F60 (F56 (all.getD (Int.toNat (idxI (fun c => ((F56 c 0).toList == (⟨#[110, 97, 116]⟩ : ByteArray).toList)) all)) default) 2)) ≥ (IntKind.i64.wrap (((F58 (F56 (all.getD (Int.toNat (idxI (fun c => ((F56 c 0).toList == (⟨#[110, 97, 116]⟩ : ByteArray).toList)) all)) default) 1)).1) + ((F58 (F56 (all.getD (Int.toNat (idxI (fun c => ((F56 c 0).toList == (⟨#[110, 97, 116]⟩ : ByteArray).toList)) all)) default) 1)).2))))) else false) then decide ((F63 (F56 (all.getD (Int.toNat (idxI (fun c => ((F56 c 0).toList == (⟨#[110, 97, 116]⟩ : ByteArray).toList)) all)) default) 3)) ≤ (F63 (F56 (all.getD (Int.toNat (idxI (fun c => ((F56 c 0).toList == (⟨#[110, 97, 116]⟩ : ByteArray).toList)) all)) default) 4))) else false))
abbrev Tf (all : List l52Cut) : Nat × (Int × Int) := (((Int.toNat ((all.length : Int) - 0)) + 1), (0, 0))
abbrev Qle (all : List l52Cut) (m39 : Nat) (doors : Int) (i40 : Int) : Prop := Int.toNat ((all.length : Int) - i40) < m39 ∧ (0 : Int) ≤ doors ∧ (doors : Int) ≤ i40 ∧ (0 : Int) ≤ doors ∧ (0 : Int) ≤ i40
abbrev Qui (all : List l52Cut) : Lp (Int × Int) Bool := LpX (Xn all) (Tf all)
abbrev Qaa (all : List l52Cut) (i : Nat × (Int × Int)) : Prop := LpJ (Xn all) (Tf all) i (Qle all i.1 i.2.1 i.2.2)
abbrev Qta (all : List l52Cut) (i : Nat × (Int × Int)) (m39 : Nat) (doors : Int) (i40 : Int) : Prop := LpH (Xn all) (Tf all) i m39 (doors, i40) (Qle all (m39 + 1) doors i40)
abbrev Qzy (all : List l52Cut) (doors : Int) (i40 : Int) (doors_ : Int) (i40_ : Int) (K39 : Prop) : Prop := (Rf (.int .i64 (idxI (fun c => ((F56 c 0).toList == w5_.toList)) all))) ∧ ((.int .i64 doors : Value) = .int .i64 doors_) ∧ ((.int .i64 i40 : Value) = .int .i64 i40_) ∧ (Im (.l 1 Qo all)) ∧ K39
theorem un31_0 (all : List l52Cut) (i : Nat × (Int × Int)) (h : Qaa all i) : Qta all i (i.1 - 1) i.2.1 i.2.2 := ⟨hd1 h.1 h.2.1, hd3 h.2.1, hd2 h.2.1, h.2.2⟩
theorem Qyi (all : List l52Cut) (i : Nat × (Int × Int)) (m39 : Nat) (doors : Int) (i40 : Int) (hl : m39 < i.1) (e : runL (Xn all) m39 (doors, i40) = Qui all) (h : Qle all m39 doors i40) : ∃ j : Nat × (Int × Int), Qzy all doors i40 j.2.1 j.2.2 (Qaa all j ∧ j.1 < i.1) := ⟨(m39, (doors, i40)), rfl, rfl, rfl, Imp.refl _, ⟨e, h⟩, hl⟩
theorem en31_0 (all : List l52Cut) (h : (0 : Int) ≤ 0 ∧ (0 : Int) ≤ 0 ∧ (0 : Int) ≤ 0 ∧ (0 : Int) ≤ 0) : Qzy all 0 0 0 0 (Qaa all (Tf all)) := ⟨rfl, rfl, rfl, Imp.refl _, rfl, Nat.lt_succ_self _, h⟩
def S31 (all : List l52Cut) : Spec := ⟨[.r (.c (.l 1 Qo all))], .v (.bool (F31 all)), (∀ k j : Nat, ((all.getD k default).w.getD j default).size ≤ 1048576)⟩
theorem ok31 (all : List l52Cut) : (S31 all).ok Tryz.prog 31 :=
 Qj mixed (fn := Tryz.f31) (ct := .seqk [(0, 0)] .no (.seq (.reg [(1, kh61a all)]) (.seq .no (.seq (.seqk [(0, 0)] .no (.blk (.loop (ι := Nat × (Int × Int)) (fun i => (fun (doors : Int) (i40 : Int) => (⟨[(0, some (.h 0 0)), (3, some (.v (vI (idxI (fun c => ((F56 c 0).toList == w5_.toList)) all)))), (4, some (.v (vI doors))), (5, some (.v (vI i40)))], [(0, some (.shr none (.l 1 Qo all)))], 1⟩ : St)) i.2.1 i.2.2) (Qaa all) (fun i => i.1) (Tf all) (fun i => (fun (doors : Int) (i40 : Int) => (.seq (.seq .no (.cond .no .no)) (.seq (.blk (.seq (.seq (.reg [(4, kh56 (all.getD (Int.toNat i40) default) 0)]) (.cond .no .no)) (.seq (.reg [(1, .bnd)]) (.seq (.reg [(9, kh62 all i40 (all.getD (Int.toNat (idxI (fun c => ((F56 c 0).toList == w5_.toList)) all)) default))]) (.cond (.seq .no .no) .no))))) (.reg [(1, .bnd)])))) i.2.1 i.2.2)))) (.seq (.seq .no (.cond (.seq .no .no) .no)) (.seq (.reg [(4, kh56 (all.getD (Int.toNat (idxI (fun c => ((F56 c 0).toList == w5_.toList)) all)) default) 1), (5, kh58 (F56 (all.getD (Int.toNat (idxI (fun c => ((F56 c 0).toList == w5_.toList)) all)) default) 1))]) (.seq (.reg [(4, kh56 (all.getD (Int.toNat (idxI (fun c => ((F56 c 0).toList == w5_.toList)) all)) default) 2), (5, kh60 (F56 (all.getD (Int.toNat (idxI (fun c => ((F56 c 0).toList == w5_.toList)) all)) default) 2))]) (.seq (.reg [(19, kh56 (all.getD (Int.toNat (idxI (fun c => ((F56 c 0).toList == w5_.toList)) all)) default) 3), (20, kh63 (F56 (all.getD (Int.toNat (idxI (fun c => ((F56 c 0).toList == w5_.toList)) all)) default) 3)), (25, kh56 (all.getD (Int.toNat (idxI (fun c => ((F56 c 0).toList == w5_.toList)) all)) default) 4), (26, kh63 (F56 (all.getD (Int.toNat (idxI (fun c => ((F56 c 0).toList == w5_.toList)) all)) default) 4))]) .no)))))))) Tryz.func31 (fun (hpre0 : ∀ k j : Nat, ((all.getD k default).w.getD j default).size ≤ 1048576) => kn all fun _ => kc61a all (fun gv1 => kn all fun _ => ai (en31_0 all (by refine ⟨?_, ?_, ?_, ?_⟩ <;> omega)) (fun (i0 : Nat × (Int × Int)) (hi0 : Qaa all i0) => (fun (m0 : Nat) (doors : Int) (i40 : Int) (hh0 : Qta all i0 m0 doors i40) => have hI0 := hh0.1; have hl0 := hh0.2.1; have _ := hh0.2.2.1; have _ := hh0.2.2.2; ifd (i40 < (all.length : Int)) (fun h3 _ => ai (by omega : ib i40 all) (kc56 (all.getD (Int.toNat i40) default) 0 (by omega) (ifb (!((F56 (all.getD (Int.toNat i40) default) 0).toList == w3_.toList)) (fun h4 => ai (iok (i40 + 1) (by omega)) (Qyi all i0 m0 doors (i40 + 1) hl0 (Qd hI0 (condT h3 (condT h4 rfl))) (by refine ⟨?_, ?_, ?_, ?_, ?_⟩ <;> omega))) (fun h4 => ai (iok (doors + 1) (by omega)) (ai (fun k5 : (decide ((idxI (fun c => ((F56 c 0).toList == w5_.toList)) all) < 0)) = false => have _ : ¬ (idxI (fun c => ((F56 c 0).toList == w5_.toList)) all) < 0 := of_decide_eq_false k5; (by omega : ib (idxI (fun c => ((F56 c 0).toList == w5_.toList)) all) all)) (kg62 (decide ((idxI (fun c => ((F56 c 0).toList == w5_.toList)) all) < 0)) false all i40 (all.getD (Int.toNat (idxI (fun c => ((F56 c 0).toList == w5_.toList)) all)) default) (fun k6 => have _ : ¬ (idxI (fun c => ((F56 c 0).toList == w5_.toList)) all) < 0 := of_decide_eq_false k6; ⟨(by omega), (by omega), (by exact fun j => (by assumption : ∀ k j : Nat, ((all.getD k default).w.getD j default).size ≤ 1048576) _ j), (by omega)⟩) (ifb (bif decide ((idxI (fun c => ((F56 c 0).toList == w5_.toList)) all) < 0) then true else (!(F62 all i40 (all.getD (Int.toNat (idxI (fun c => ((F56 c 0).toList == w5_.toList)) all)) default)))) (fun h7 => fiB false (F31 all) (finR (Qr hI0 (condT h3 (condF h4 (condT h7 rfl)))) rfl)) (fun h7 => have _ : ¬ (idxI (fun c => ((F56 c 0).toList == w5_.toList)) all) < 0 := of_decide_eq_false (orF1 h7); ai (iok (i40 + 1) (by omega)) (Qyi all i0 m0 (doors + 1) (i40 + 1) hl0 (Qd hI0 (condT h3 (condF h4 (condF h7 rfl)))) (by refine ⟨?_, ?_, ?_, ?_, ?_⟩ <;> omega)))))))))) (fun h3 _ => have hD0_8 : Qui all = Lp.done (doors, i40) := Qk hI0 (condF h3 rfl); ifd ((idxI (fun c => ((F56 c 0).toList == w5_.toList)) all) < 0) (fun h9 _ => fiB true (F31 all) (finD hD0_8 (condT h9 rfl))) (fun h9 _ => ai (by omega : ib (idxI (fun c => ((F56 c 0).toList == w5_.toList)) all) all) (kc56 (all.getD (Int.toNat (idxI (fun c => ((F56 c 0).toList == w5_.toList)) all)) default) 1 (by omega) (kc58 (F56 (all.getD (Int.toNat (idxI (fun c => ((F56 c 0).toList == w5_.toList)) all)) default) 1) (by exact Xd all (by assumption) _ _) (ai (by omega : ib (idxI (fun c => ((F56 c 0).toList == w5_.toList)) all) all) (kc56 (all.getD (Int.toNat (idxI (fun c => ((F56 c 0).toList == w5_.toList)) all)) default) 2 (by omega) (kc60 (F56 (all.getD (Int.toNat (idxI (fun c => ((F56 c 0).toList == w5_.toList)) all)) default) 2) (by exact Xd all (by assumption) _ _) (ai (fun k10 : (bif decide (doors ≤ 6) then (bif decide ((F60 (F56 (all.getD (Int.toNat (idxI (fun c => ((F56 c 0).toList == w5_.toList)) all)) default) 2)) < (F58 (F56 (all.getD (Int.toNat (idxI (fun c => ((F56 c 0).toList == w5_.toList)) all)) default) 1)).1) then true else decide ((F60 (F56 (all.getD (Int.toNat (idxI (fun c => ((F56 c 0).toList == w5_.toList)) all)) default) 2)) ≥ (IntKind.i64.wrap (((F58 (F56 (all.getD (Int.toNat (idxI (fun c => ((F56 c 0).toList == w5_.toList)) all)) default) 1)).1) + ((F58 (F56 (all.getD (Int.toNat (idxI (fun c => ((F56 c 0).toList == w5_.toList)) all)) default) 1)).2))))) else false) = true => have _ := of_decide_eq_true (Qi k10); (by omega : ib (idxI (fun c => ((F56 c 0).toList == w5_.toList)) all) all)) (kg56 (bif decide (doors ≤ 6) then (bif decide ((F60 (F56 (all.getD (Int.toNat (idxI (fun c => ((F56 c 0).toList == w5_.toList)) all)) default) 2)) < (F58 (F56 (all.getD (Int.toNat (idxI (fun c => ((F56 c 0).toList == w5_.toList)) all)) default) 1)).1) then true else decide ((F60 (F56 (all.getD (Int.toNat (idxI (fun c => ((F56 c 0).toList == w5_.toList)) all)) default) 2)) ≥ (IntKind.i64.wrap (((F58 (F56 (all.getD (Int.toNat (idxI (fun c => ((F56 c 0).toList == w5_.toList)) all)) default) 1)).1) + ((F58 (F56 (all.getD (Int.toNat (idxI (fun c => ((F56 c 0).toList == w5_.toList)) all)) default) 1)).2))))) else false) true (all.getD (Int.toNat (idxI (fun c => ((F56 c 0).toList == w5_.toList)) all)) default) 3 (fun k11 => have _ := of_decide_eq_true (Qi k11); (by omega)) (kg63 (bif decide (doors ≤ 6) then (bif decide ((F60 (F56 (all.getD (Int.toNat (idxI (fun c => ((F56 c 0).toList == w5_.toList)) all)) default) 2)) < (F58 (F56 (all.getD (Int.toNat (idxI (fun c => ((F56 c 0).toList == w5_.toList)) all)) default) 1)).1) then true else decide ((F60 (F56 (all.getD (Int.toNat (idxI (fun c => ((F56 c 0).toList == w5_.toList)) all)) default) 2)) ≥ (IntKind.i64.wrap (((F58 (F56 (all.getD (Int.toNat (idxI (fun c => ((F56 c 0).toList == w5_.toList)) all)) default) 1)).1) + ((F58 (F56 (all.getD (Int.toNat (idxI (fun c => ((F56 c 0).toList == w5_.toList)) all)) default) 1)).2))))) else false) true (F56 (all.getD (Int.toNat (idxI (fun c => ((F56 c 0).toList == w5_.toList)) all)) default) 3) (fun k12 => have _ := of_decide_eq_true (Qi k12); (by exact Xd all (by assumption) _ _)) (ai (fun k13 : (bif decide (doors ≤ 6) then (bif decide ((F60 (F56 (all.getD (Int.toNat (idxI (fun c => ((F56 c 0).toList == w5_.toList)) all)) default) 2)) < (F58 (F56 (all.getD (Int.toNat (idxI (fun c => ((F56 c 0).toList == w5_.toList)) all)) default) 1)).1) then true else decide ((F60 (F56 (all.getD (Int.toNat (idxI (fun c => ((F56 c 0).toList == w5_.toList)) all)) default) 2)) ≥ (IntKind.i64.wrap (((F58 (F56 (all.getD (Int.toNat (idxI (fun c => ((F56 c 0).toList == w5_.toList)) all)) default) 1)).1) + ((F58 (F56 (all.getD (Int.toNat (idxI (fun c => ((F56 c 0).toList == w5_.toList)) all)) default) 1)).2))))) else false) = true => have _ := of_decide_eq_true (Qi k13); (by omega : ib (idxI (fun c => ((F56 c 0).toList == w5_.toList)) all) all)) (kg56 (bif decide (doors ≤ 6) then (bif decide ((F60 (F56 (all.getD (Int.toNat (idxI (fun c => ((F56 c 0).toList == w5_.toList)) all)) default) 2)) < (F58 (F56 (all.getD (Int.toNat (idxI (fun c => ((F56 c 0).toList == w5_.toList)) all)) default) 1)).1) then true else decide ((F60 (F56 (all.getD (Int.toNat (idxI (fun c => ((F56 c 0).toList == w5_.toList)) all)) default) 2)) ≥ (IntKind.i64.wrap (((F58 (F56 (all.getD (Int.toNat (idxI (fun c => ((F56 c 0).toList == w5_.toList)) all)) default) 1)).1) + ((F58 (F56 (all.getD (Int.toNat (idxI (fun c => ((F56 c 0).toList == w5_.toList)) all)) default) 1)).2))))) else false) true (all.getD (Int.toNat (idxI (fun c => ((F56 c 0).toList == w5_.toList)) all)) default) 4 (fun k14 => have _ := of_decide_eq_true (Qi k14); (by omega)) (kg63 (bif decide (doors ≤ 6) then (bif decide ((F60 (F56 (all.getD (Int.toNat (idxI (fun c => ((F56 c 0).toList == w5_.toList)) all)) default) 2)) < (F58 (F56 (all.getD (Int.toNat (idxI (fun c => ((F56 c 0).toList == w5_.toList)) all)) default) 1)).1) then true else decide ((F60 (F56 (all.getD (Int.toNat (idxI (fun c => ((F56 c 0).toList == w5_.toList)) all)) default) 2)) ≥ (IntKind.i64.wrap (((F58 (F56 (all.getD (Int.toNat (idxI (fun c => ((F56 c 0).toList == w5_.toList)) all)) default) 1)).1) + ((F58 (F56 (all.getD (Int.toNat (idxI (fun c => ((F56 c 0).toList == w5_.toList)) all)) default) 1)).2))))) else false) true (F56 (all.getD (Int.toNat (idxI (fun c => ((F56 c 0).toList == w5_.toList)) all)) default) 4) (fun k15 => have _ := of_decide_eq_true (Qi k15); (by exact Xd all (by assumption) _ _)) (fiB (bif (bif decide (doors ≤ 6) then (bif decide ((F60 (F56 (all.getD (Int.toNat (idxI (fun c => ((F56 c 0).toList == w5_.toList)) all)) default) 2)) < (F58 (F56 (all.getD (Int.toNat (idxI (fun c => ((F56 c 0).toList == w5_.toList)) all)) default) 1)).1) then true else decide ((F60 (F56 (all.getD (Int.toNat (idxI (fun c => ((F56 c 0).toList == w5_.toList)) all)) default) 2)) ≥ (IntKind.i64.wrap (((F58 (F56 (all.getD (Int.toNat (idxI (fun c => ((F56 c 0).toList == w5_.toList)) all)) default) 1)).1) + ((F58 (F56 (all.getD (Int.toNat (idxI (fun c => ((F56 c 0).toList == w5_.toList)) all)) default) 1)).2))))) else false) then decide ((F63 (F56 (all.getD (Int.toNat (idxI (fun c => ((F56 c 0).toList == w5_.toList)) all)) default) 3)) ≤ (F63 (F56 (all.getD (Int.toNat (idxI (fun c => ((F56 c 0).toList == w5_.toList)) all)) default) 4))) else false) (F31 all) (finD hD0_8 (condF h9 rfl))))))))))))))))) (i0.1 - 1) i0.2.1 i0.2.2 (un31_0 all i0 hi0)))) (by kernel_rfl)
theorem Qde {α β : Type} [Inhabited α] [Inhabited β] (f : α → β) (ls : List α) (i : Nat) (h : i < ls.length) : (ls.map f).getD i default = f (ls.getD i default) := by
 rw [Kl _ (by simpa using h), Kl _ h, List.getElem_map]
def wsL (lines : List ByteArray) : List (List ByteArray) := lines.map fun l => (F20 l).1
def hdB (w : List ByteArray) (l : List UInt8) : Bool := (w.getD 0 default).data.toList == l
def Qrz : List UInt8 := [117, 115, 101, 114]
def Uu : List UInt8 := [112, 111, 114, 116]
def Jr : List UInt8 := [114, 117, 108, 101]
def Qai : List UInt8 := [114, 111, 117, 116, 101]
def Qcu : List UInt8 := [112, 101, 101, 114]
def hNat : List UInt8 := [110, 97, 116]
def Ud : List UInt8 := [100, 111, 111, 114]
theorem Yq (lines : List ByteArray) (h : F25 lines = 0) (word : ByteArray) : Qa lines word = (wsL lines).filter fun w => hdB w word.data.toList := by
 unfold Qa wsL
 have e : (lines.map fun l => Qq l (⟨#[32]⟩ : ByteArray)) = lines.map fun l => (F20 l).1 := List.map_congr_left fun l hl => Ek l ((Ln lines h).2 l hl)
 rw [e]; rfl
theorem Pm (lines : List ByteArray) (h : F25 lines = 0) : ∀ w ∈ wsL lines, Wc w := fun w hw => by
 obtain ⟨l, hl, rfl⟩ := List.mem_map.1 hw
 exact (Gk l ((Ln lines h).2 l hl)).form
theorem ws_no (lines : List ByteArray) : ∀ w ∈ wsL lines, ∀ x ∈ w, (32 : UInt8) ∉ x.data.toList ∧ x.data.toList ≠ [] ∧ x.size ≤ 24 := fun w hw => by
 obtain ⟨l, hl, rfl⟩ := List.mem_map.1 hw
 exact Qpm l
theorem at_n (c : l52Cut) (k : Nat) : F56 c (k : Int) = c.w.getD k default := by
 unfold F56
 by_cases h : k < c.w.length
 ·rw [ltD h, cond_true, nn]
 ·rw [decide_eq_false (by omega), cond_false, Ve _ (by omega)]; rfl
theorem at0 (c : l52Cut) : F56 c 0 = c.w.getD 0 default := at_n c 0
theorem at1 (c : l52Cut) : F56 c 1 = c.w.getD 1 default := at_n c 1
theorem at2 (c : l52Cut) : F56 c 2 = c.w.getD 2 default := at_n c 2
theorem at3 (c : l52Cut) : F56 c 3 = c.w.getD 3 default := at_n c 3
theorem at4 (c : l52Cut) : F56 c 4 = c.w.getD 4 default := at_n c 4
theorem Bi (ws : List (List ByteArray)) (p : l52Cut → Bool) : (ws.map l52Cut.mk).any p = ws.any fun w => p ⟨w⟩ := by rw [List.any_map]; rfl
theorem Uk {α : Type} {p q : α → Bool} : ∀ {xs : List α}, (∀ x ∈ xs, p x = q x) → xs.any p = xs.any q
 | [], _ => rfl
 | x :: xs, h => by rw [List.any_cons, List.any_cons, h x List.mem_cons_self, Uk fun y hy => h y (List.mem_cons_of_mem _ hy)]
theorem Ucl (all : List l52Cut) : F27 all = all.any fun c => hdB c.w Qrz && ((c.w.getD 2 default).data.toList == [97, 108, 108]) := by
 unfold F27
 have := anyL all (fun c => hdB c.w Qrz && ((c.w.getD 2 default).data.toList == [97, 108, 108])) true (Xa all) (fun i hi => by
  simp only [Xa, ltD hi, cond_true, nn, at0, at2, blit, cb1]
  rfl) (by simp only [Xa, geD, cond_false]) (fun r => r) (fun i40 => false) false (fun _ => rfl)
 refine this.trans ?_
 cases (all.any fun c => hdB c.w Qrz && ((c.w.getD 2 default).data.toList == [97, 108, 108])) <;> rfl
theorem Qgd (lines : List ByteArray) (h : F25 lines = 0) : F45 lines = !F27 ((wsL lines).map l52Cut.mk) := by
 unfold F45
 rw [Ucl, Bi, Yq lines h, List.any_filter]
 congr 1
 refine Uk fun w _ => ?_
 unfold F86
 rw [blit]; rfl
def Qlk (ws : List (List ByteArray)) (name : List UInt8) : Nat := (ws.filter fun w => hdB w Jr && ((w.getD 1 default).data.toList == name)).length
theorem Qbf (lines : List ByteArray) (h : F25 lines = 0) (name : ByteArray) : F87 lines name = (Qlk (wsL lines) name.data.toList : Int) := by
 unfold F87
 have := Yi (Qa lines (⟨#[114, 117, 108, 101]⟩ : ByteArray)) (fun (n : Int) w => bif ((w.getD 1 default).data.toList == name.data.toList) then n + 1 else n) (fun n i => (n, i)) (Bn lines name) (fun i s hi => by
  simp only [Bn, ltD hi, cond_true, nn, Qu]
  show (bif (((Qa lines (⟨#[114, 117, 108, 101]⟩ : ByteArray)).getD i default).getD 1 default).data.toList == name.data.toList then _ else _) = _
  cases ((((Qa lines (⟨#[114, 117, 108, 101]⟩ : ByteArray)).getD i default).getD 1 default).data.toList == name.data.toList) <;> rfl) (fun s => by simp only [Bn, geD, cond_false]) (fun r => r) (fun (n, v11) => n) 0
 refine this.trans ?_
 show (Qa lines (⟨#[114, 117, 108, 101]⟩ : ByteArray)).foldl _ (0 : Int) = _
 rw [Bd (fun w : List ByteArray => ((w.getD 1 default).data.toList == name.data.toList)), Yq lines h, List.filter_filter, Int.zero_add]
 unfold Qlk
 rw [show (fun a : List ByteArray => ((a.getD 1 default).data.toList == name.data.toList && hdB a (⟨#[114, 117, 108, 101]⟩ : ByteArray).data.toList)) = fun w => hdB w Jr && ((w.getD 1 default).data.toList == name.data.toList) from funext fun w => Bool.and_comm _ _]
theorem Qtd (all : List l52Cut) (name : ByteArray) : F57 all name = ((all.filter fun c => hdB c.w Jr && ((c.w.getD 1 default).data.toList == name.data.toList)).length : Int) := by
 unfold F57
 have := Yi all (fun (n : Int) c => bif (hdB c.w Jr && ((c.w.getD 1 default).data.toList == name.data.toList)) then n + 1 else n) (fun n i => (n, i)) (Vt all name) (fun i s hi => by
  simp only [Vt, ltD hi, cond_true, nn, at0, at1, blit, cb1]
  rw [Qu, Qu]
  show (bif (hdB (all.getD i default).w Jr && (((all.getD i default).w.getD 1 default).data.toList == name.data.toList)) then _ else _) = _
  cases (hdB (all.getD i default).w Jr && (((all.getD i default).w.getD 1 default).data.toList == name.data.toList)) <;> rfl) (fun s => by simp only [Vt, geD, cond_false]) (fun r => r) (fun (n, i40) => n) 0
 refine this.trans ?_
 show all.foldl _ (0 : Int) = _
 rw [Bd (fun c : l52Cut => hdB c.w Jr && ((c.w.getD 1 default).data.toList == name.data.toList)), Int.zero_add]
theorem Qow (ws : List (List ByteArray)) (name : ByteArray) : F57 (ws.map l52Cut.mk) name = (Qlk ws name.data.toList : Int) := by
 rw [Qtd, List.filter_map, List.length_map]; rfl
theorem Qyg (all : List l52Cut) : F28 all = !all.any fun c => (hdB c.w Uu && (!((c.w.getD 4 default).data.toList == []) && ((F57 all (c.w.getD 4 default)) == 0))) || (hdB c.w Jr && decide (F57 all (c.w.getD 1 default) > 12)) := by
 unfold F28
 have := anyL all (fun c => (hdB c.w Uu && (!((c.w.getD 4 default).data.toList == []) && ((F57 all (c.w.getD 4 default)) == 0))) || (hdB c.w Jr && decide (F57 all (c.w.getD 1 default) > 12))) false (Xs all) (fun i hi => by
  simp only [Xs, ltD hi, cond_true, nn, at0, at1, at4, blit, cb1, Bool.and_assoc]
  show (bif (hdB (all.getD i default).w Uu && (!(((all.getD i default).w.getD 4 default).data.toList == []) && (F57 all ((all.getD i default).w.getD 4 default) == 0))) then _ else (bif (hdB (all.getD i default).w Jr && _) then _ else _)) = _
  cases (hdB (all.getD i default).w Uu && (!(((all.getD i default).w.getD 4 default).data.toList == []) && (F57 all ((all.getD i default).w.getD 4 default) == 0))) <;> cases (hdB (all.getD i default).w Jr && decide (F57 all ((all.getD i default).w.getD 1 default) > 12)) <;> rfl) (by simp only [Xs, geD, cond_false]) (fun r => r) (fun i40 => true) true (fun _ => rfl)
 refine this.trans ?_
 cases all.any _ <;> rfl
theorem Qna {α : Type} (p q : α → Bool) : ∀ xs : List α, xs.any (fun x => p x || q x) = (xs.any p || xs.any q)
 | [] => rfl
 | x :: xs => by
  simp only [List.any_cons, Qna p q xs]
  cases p x <;> cases q x <;> simp
theorem Qre {w : List ByteArray} (h : Wk w) (hn : ∀ x ∈ w, x.data.toList ≠ []) : decide ((w.length : Int) > 4) = !((w.getD 4 default).data.toList == []) := by
 by_cases hl : 4 < w.length
 ·rw [decide_eq_true (by omega)]
  have := hn _ (Ku w hl)
  rw [beq_eq_false_iff_ne.2 this]; rfl
 ·rw [decide_eq_false (by omega), Ve w (by omega)]; rfl
theorem Ph (lines : List ByteArray) (h : F25 lines = 0) : F46 lines = !F28 ((wsL lines).map l52Cut.mk) := by
 rw [Qyg, Bool.not_not, Bi, Qna]
 unfold F46
 have := anyL (Qa lines (⟨#[112, 111, 114, 116]⟩ : ByteArray)) (fun w => decide ((w.length : Int) > 4) && (F87 lines (w.getD 4 default) == 0)) true (Vz lines) (fun i hi => by
  simp only [Vz, ltD hi, cond_true, nn, cb1]; rfl) (by simp only [Vz, geD, cond_false]) (fun r => r) (fun v8 => (Qa lines (⟨#[114, 117, 108, 101]⟩ : ByteArray)).any (fun (x0 : List ByteArray) => F88 x0 lines)) _ (fun _ => rfl)
 refine this.trans ?_
 rw [Yq lines h, Yq lines h, List.any_filter, List.any_filter, cb2]
 congr 1
 ·refine Uk fun w hw => ?_
  have e4 : F57 ((wsL lines).map l52Cut.mk) (w.getD 4 default) = F87 lines (w.getD 4 default) := by rw [Qow, Qbf lines h]
  rw [e4]
  cases hp : hdB w Uu with
  | false =>
   have hp' : hdB w (⟨#[112, 111, 114, 116]⟩ : ByteArray).data.toList = false := hp
   rw [hp', Bool.false_and, Bool.false_and]
  | true =>
   have hp' : hdB w (⟨#[112, 111, 114, 116]⟩ : ByteArray).data.toList = true := hp
   have hpp := Pn (Pm lines h w hw) (eq_of_beq hp)
   rw [hp', Qre hpp fun x hx => (ws_no lines w hw x hx).2.1]
 ·refine Uk fun w hw => ?_
  have e1 : F57 ((wsL lines).map l52Cut.mk) (w.getD 1 default) = F87 lines (w.getD 1 default) := by rw [Qow, Qbf lines h]
  show (hdB w Jr && _) = (hdB w Jr && _)
  rw [e1]; rfl
def Ze {α : Type} (ov : α → α → Bool) : List α → List α → Bool
 | _, [] => false
 | seen, x :: r => seen.any (ov x) || Ze ov (seen ++ [x]) r
theorem Jz {α : Type} [Inhabited α] (ov : α → α → Bool) (xs : List α) : ∀ (m i : Nat), i + m = xs.length → anyF (fun i => (xs.take i).any (ov (xs.getD i default))) i m = Ze ov (xs.take i) (xs.drop i)
 | 0, i, h => by rw [List.drop_of_length_le (by omega)]; rfl
 | m + 1, i, h => by
  have hd : xs.drop i = xs.getD i default :: xs.drop (i + 1) := by
   rw [List.drop_eq_getElem_cons (show i < xs.length by omega), List.getD_eq_getElem?_getD, List.getElem?_eq_getElem (show i < xs.length by omega)]; rfl
  rw [hd, Ze, anyF, Jz ov xs m (i + 1) (by omega), Nh (show i < xs.length by omega)]
theorem Xo {α : Type} (P : α → Bool) (ov : α → α → Bool) : ∀ (xs seen : List α), Ze (fun x y => P x && (P y && ov x y)) seen xs = Ze ov (seen.filter P) (xs.filter P)
 | [], seen => rfl
 | x :: xs, seen => by
  rw [Ze, Xo P ov xs]
  cases h : P x with
  | true =>
   rw [List.filter_cons_of_pos h, Ze, List.filter_append, List.any_filter]
   simp only [Bool.true_and, List.filter_cons_of_pos h, List.filter_nil]
  | false =>
   rw [List.filter_cons_of_neg (by simp [h]), List.filter_append, List.filter_cons_of_neg (by simp [h]), List.filter_nil, List.append_nil]
   simp only [Bool.false_and]
   rw [show seen.any (fun _ => false) = false by simp, Bool.false_or]
theorem Qah {α γ : Type} (f : α → γ) (ov : γ → γ → Bool) : ∀ (xs seen : List α), Ze ov (seen.map f) (xs.map f) = Ze (fun x y => ov (f x) (f y)) seen xs
 | [], _ => rfl
 | x :: xs, seen => by
  rw [List.map_cons, Ze, Ze, ← Qah f ov xs, List.map_append, List.any_map]; rfl
theorem Qax {α : Type} {ov ov' : α → α → Bool} {Q : α → Prop} (h : ∀ x y, Q x → Q y → ov x y = ov' x y) : ∀ (xs seen : List α), (∀ x ∈ xs, Q x) → (∀ x ∈ seen, Q x) → Ze ov seen xs = Ze ov' seen xs
 | [], _, _, _ => rfl
 | x :: xs, seen, h1, h2 => by
  have hx := h1 x List.mem_cons_self
  rw [Ze, Ze, Uk (fun y hy => h x y hx (h2 y hy)), Qax h xs (seen ++ [x]) (fun y hy => h1 y (List.mem_cons_of_mem _ hy)) (fun y hy => by
   rcases List.mem_append.1 hy with hy | hy
   ·exact h2 y hy
   ·rw [List.mem_singleton.1 hy]; exact hx)]
theorem Qdv {α : Type} [Inhabited α] (xs : List α) (p : α → Bool) (i : Nat) (h : i ≤ xs.length) : anyF (fun k => p (xs.getD k default)) 0 i = (xs.take i).any p := by
 have hl : (xs.take i).length = i := by rw [List.length_take]; omega
 have h1 := Kj (xs.take i) p i 0 (by omega)
 rw [List.drop_zero] at h1
 rw [← h1]
 have : ∀ (m k : Nat), k + m = i → anyF (fun k => p (xs.getD k default)) k m = anyF (fun k => p ((xs.take i).getD k default)) k m := by
  intro m
  induction m with
  | zero => intro k _; rfl
  | succ m ih =>
   intro k hk
   rw [anyF, anyF, ih (k + 1) (by omega)]
   congr 2
   rw [List.getD_eq_getElem?_getD, List.getD_eq_getElem?_getD, List.getElem?_take, if_pos (by omega)]
 exact this i 0 (by omega)
theorem Qjg (L : Int) (h0 : 0 ≤ L) (h1 : L ≤ 16) : F102 L = ((2 ^ (16 - L.toNat) : Nat) : Int) := by
 have h3 : L = 0 ∨ L = 1 ∨ L = 2 ∨ L = 3 ∨ L = 4 ∨ L = 5 ∨ L = 6 ∨ L = 7 ∨ L = 8 ∨ L = 9 ∨ L = 10 ∨ L = 11 ∨ L = 12 ∨ L = 13 ∨ L = 14 ∨ L = 15 ∨ L = 16 := by omega
 rcases h3 with rfl | rfl | rfl | rfl | rfl | rfl | rfl | rfl | rfl | rfl | rfl | rfl | rfl | rfl | rfl | rfl | rfl <;> exact of_decide_eq_true rfl
theorem Qfo (a L x : Int) (ha : 0 ≤ a ∧ a ≤ 65535) (hL : 0 ≤ L ∧ L ≤ 16) : F95 (⟨a, L⟩ : Qb) x = decide (a ≤ x ∧ x < a + F102 L) := by
 unfold F95 F122
 have hs := Qgf L hL.1 hL.2
 have e : F143 (⟨a, L⟩ : Qb) = F102 L := Qcn a L hL.1 hL.2
 rw [e]
 simp only
 have w1 : IntKind.i64.wrap (a + F102 L) = a + F102 L := Yu (by omega) (by omega)
 have w2 : IntKind.i64.wrap (a + F102 L - 1) = a + F102 L - 1 := Yu (by omega) (by omega)
 rw [w1, w2]
 exact decide_eq_decide.2 (by omega)
theorem Qip (a b n m c : Int) (hm : 1 ≤ m) (hn : n = m * c) (ha : n ∣ a) (hb : m ∣ b) (h : a < b + m) : a ≤ b := by
 obtain ⟨x, rfl⟩ := ha
 obtain ⟨y, rfl⟩ := hb
 subst hn
 have h1 : m * (c * x) < m * (y + 1) := by rw [Int.mul_add, Int.mul_one, ← Int.mul_assoc]; exact h
 have h2 : c * x < y + 1 := Int.lt_of_mul_lt_mul_left h1 (by omega)
 rw [Int.mul_assoc]
 exact Int.mul_le_mul_of_nonneg_left (by omega) (by omega)
theorem Qiw (L M : Int) (h : 0 ≤ L ∧ L ≤ M ∧ M ≤ 16) : ∃ c : Int, F102 L = F102 M * c := by
 rw [Qjg L h.1 (by omega), Qjg M (by omega) h.2.2]
 refine ⟨((2 ^ (M.toNat - L.toNat) : Nat) : Int), ?_⟩
 rw [← Int.natCast_mul, ← Nat.pow_add]
 congr 2
 omega
theorem Qtv {l : List UInt8} {a n : Int} (h : pfxL l = some (a, n)) : F102 n ∣ a ∧ 0 ≤ a ∧ a ≤ 65535 ∧ 0 ≤ n ∧ n ≤ 16 := by
 have hb := Qgc h
 refine ⟨?_, hb⟩
 unfold pfxL at h
 match hs : Qv 47 l, h with
 | [x, y], h =>
  rw [pfx2] at h
  cases hc : decide (0 ≤ Yp x) && (in16 (num6 y) && ((Yp x).tmod (F102 (num6 y)) == 0)) with
  | false => rw [hc] at h; cases h
  | true =>
   rw [hc] at h
   simp only [cond_true, Option.some.injEq, Prod.mk.injEq] at h
   obtain ⟨rfl, rfl⟩ := h
   simp only [Bool.and_eq_true, beq_iff_eq] at hc
   exact Int.dvd_of_tmod_eq_zero hc.2.2
 | [], h => cases h
 | [x], h => cases h
 | x :: y :: z :: r, h => cases h
theorem Ht (s : ByteArray) (h : F101 s = true) : ∃ a L : Int, F96 s = ((⟨a, L⟩ : Qb), true) ∧ F58 s = (a, F102 L) ∧ F102 L ∣ a ∧ (0 ≤ a ∧ a ≤ 65535) ∧ (0 ≤ L ∧ L ≤ 16) ∧ 1 ≤ F102 L ∧ F102 L ≤ 65536 := by
 rw [Hm] at h
 cases hp : pfxL s.data.toList with
 | none => rw [hp] at h; cases h
 | some q =>
  obtain ⟨a, L⟩ := q
  have hd := Qtv hp
  have hs := Qgf L hd.2.2.2.1 hd.2.2.2.2
  exact ⟨a, L, by rw [Gn, hp], by rw [Qby, hp], hd.1, ⟨hd.2.1, hd.2.2.1⟩, hd.2.2.2, hs⟩
def ovI (x y : ByteArray) : Bool := F90 (F96 x).1 (F96 y).1 || F90 (F96 y).1 (F96 x).1
def ovS (x y : ByteArray) : Bool := decide ((F58 x).1 < IntKind.i64.wrap ((F58 y).1 + (F58 y).2)) && decide ((F58 y).1 < IntKind.i64.wrap ((F58 x).1 + (F58 x).2))
theorem Udi (x y : ByteArray) (hx : F101 x = true) (hy : F101 y = true) : ovI x y = ovS x y := by
 obtain ⟨a, L, e1, e2, d1, b1, c1, s1⟩ := Ht x hx
 obtain ⟨b, M, f1, f2, d2, b2, c2, s2⟩ := Ht y hy
 unfold ovI ovS F90
 rw [e1, e2, f1, f2]
 simp only [Qfo _ _ _ b1 c1, Qfo _ _ _ b2 c2, cb1]
 rw [Yu (by omega) (by omega), Yu (by omega) (by omega), ← Bool.decide_and, ← Bool.decide_and, ← Bool.decide_and, ← Bool.decide_or]
 refine decide_eq_decide.2 ⟨fun h => ?_, fun h => ?_⟩
 ·rcases h with h | h <;> omega
 ·rcases Int.le_total L M with hl | hl
  ·obtain ⟨c, hc⟩ := Qiw L M ⟨c1.1, hl, c2.2⟩
   exact .inr ⟨hl, Qip a b _ _ c s2.1 hc d1 d2 h.1, h.2⟩
  ·obtain ⟨c, hc⟩ := Qiw M L ⟨c2.1, hl, c1.2⟩
   exact .inl ⟨hl, Qip b a _ _ c s1.1 hc d2 d1 h.2, h.1⟩
theorem Qnk (lines : List ByteArray) : F47 lines = Ze (fun p q => F90 p q || F90 q p) [] (Ql lines) := by
 unfold F47
 have := Yo (Xg lines) (Ql lines).length (fun i => ((Ql lines).take i).any (fun q => F90 ((Ql lines).getD i default) q || F90 q ((Ql lines).getD i default))) true (fun r => r) false (fun i hi => by
  simp only [Xg, ltD hi, cond_true, nn]
  exact anyL ((Ql lines).take i) (fun q => F90 ((Ql lines).getD i default) q || F90 q ((Ql lines).getD i default)) true (Bg lines (i : Int)) (fun j hj => by
   simp only [Bg, nn, ltD hj, cond_true, cb2]; rfl) (by simp only [Bg, nn, geD, cond_false]) Lp.ret _ _ (fun _ => rfl)) (by simp only [Xg, geD, cond_false]) (Ql lines).length 0 (by omega) (Int.toNat (((Ql lines).length : Int) - 0) + 1) (by omega)
 rw [Jz (fun p q => F90 p q || F90 q p) (Ql lines) (Ql lines).length 0 (by omega), List.take_zero, List.drop_zero] at this
 refine Eq.trans this ?_
 cases Ze (fun p q => F90 p q || F90 q p) [] (Ql lines) <;> rfl
theorem Qzx (all : List l52Cut) : F29 all = !Ze (fun c e => hdB c.w Uu && (hdB e.w Uu && ovS (c.w.getD 2 default) (e.w.getD 2 default))) [] all := by
 unfold F29
 have := Yo (Xv all) all.length (fun i => (all.take i).any (fun e => hdB (all.getD i default).w Uu && (hdB e.w Uu && ovS ((all.getD i default).w.getD 2 default) (e.w.getD 2 default)))) false (fun r => r) true (fun i hi => by
  simp only [Xv, ltD hi, cond_true]
  have h1 := Yo (Bk all (i : Int)) i (fun k => hdB (all.getD i default).w Uu && (hdB (all.getD k default).w Uu && ovS ((all.getD i default).w.getD 2 default) ((all.getD k default).w.getD 2 default))) false (Lp.ret : Bool → Lp Int Bool) (.next ((i + 1 : Nat) : Int)) (fun k hk => by
   simp only [Bk, ltD hk, cond_true, nn, at0, at2, blit, cb1, cb2]
   show (bif (!(hdB (all.getD i default).w Uu) || !(hdB (all.getD k default).w Uu)) then _ else (bif ovS ((all.getD i default).w.getD 2 default) ((all.getD k default).w.getD 2 default) then _ else _)) = _
   cases hdB (all.getD i default).w Uu <;> cases hdB (all.getD k default).w Uu <;> cases ovS ((all.getD i default).w.getD 2 default) ((all.getD k default).w.getD 2 default) <;> rfl) (by
   simp only [Bk, decide_eq_false (show ¬ (i : Int) < (i : Int) by omega), cond_false]) i 0 (by omega) (Int.toNat ((i : Int) - 0) + 1) (by omega)
  rw [Qdv all (fun e => hdB (all.getD i default).w Uu && (hdB e.w Uu && ovS ((all.getD i default).w.getD 2 default) (e.w.getD 2 default))) i (by omega)] at h1
  exact h1) (by simp only [Xv, geD, cond_false]) all.length 0 (by omega) (Int.toNat ((all.length : Int) - 0) + 1) (by omega)
 rw [Jz (fun c e => hdB c.w Uu && (hdB e.w Uu && ovS (c.w.getD 2 default) (e.w.getD 2 default))) all all.length 0 (by omega), List.take_zero, List.drop_zero] at this
 refine Eq.trans this ?_
 cases Ze (fun (c e : l52Cut) => hdB c.w Uu && (hdB e.w Uu && ovS (c.w.getD 2 default) (e.w.getD 2 default))) [] all <;> rfl
theorem Qgi (lines : List ByteArray) (h : F25 lines = 0) : F47 lines = !F29 ((wsL lines).map l52Cut.mk) := by
 rw [Qzx, Bool.not_not, Qnk]
 have e1 := Qah l52Cut.mk (fun (c e : l52Cut) => hdB c.w Uu && (hdB e.w Uu && ovS (c.w.getD 2 default) (e.w.getD 2 default))) (wsL lines) []
 rw [List.map_nil] at e1
 rw [e1]
 have e2 := Xo (fun w : List ByteArray => hdB w Uu) (fun w v => ovS (w.getD 2 default) (v.getD 2 default)) (wsL lines) []
 refine Eq.trans ?_ e2.symm
 have e3 := Qah (fun w : List ByteArray => (F96 (w.getD 2 default)).1) (fun p q => F90 p q || F90 q p) (Qa lines (⟨#[112, 111, 114, 116]⟩ : ByteArray)) []
 rw [List.map_nil] at e3
 have e4 : Ql lines = (Qa lines (⟨#[112, 111, 114, 116]⟩ : ByteArray)).map (fun w : List ByteArray => (F96 (w.getD 2 default)).1) := rfl
 rw [e4, e3, Yq lines h]
 refine Qax (Q := fun w => Wk w) (fun w v hw hv => Udi _ _ (by unfold Wk at hw; exact hw.2.2.2.2) (by unfold Wk at hv; exact hv.2.2.2.2)) _ [] (fun w hw => ?_) (fun w hw => by cases hw)
 obtain ⟨h1, h2⟩ := List.mem_filter.1 hw
 exact Pn (Pm lines h w h1) (eq_of_beq h2)
def Qvb (w : List ByteArray) (addr : Int) : Bool := hdB w Uu && (decide (addr > (F58 (w.getD 2 default)).1) && decide (addr < IntKind.i64.wrap ((F58 (w.getD 2 default)).1 + (F58 (w.getD 2 default)).2)))
theorem Ubj (all : List l52Cut) (addr : Int) : F59 all addr = all.any fun c => Qvb c.w addr := by
 unfold F59
 have := anyL all (fun c => Qvb c.w addr) true (Xq all addr) (fun i hi => by
  simp only [Xq, ltD hi, cond_true, nn, at0, at2, blit, cb1]
  show (bif hdB (all.getD i default).w Uu then (bif _ then _ else _) else _) = bif (hdB (all.getD i default).w Uu && _) then _ else _
  cases hdB (all.getD i default).w Uu <;> rfl) (by simp only [Xq, geD, cond_false]) (fun r => r) (fun i40 => false) false (fun _ => rfl)
 refine this.trans ?_
 cases all.any (fun c => Qvb c.w addr) <;> rfl
theorem Qsm (all : List l52Cut) : F30 all = !all.any fun c => (hdB c.w Qai && !F59 all (F60 (c.w.getD 2 default))) || (hdB c.w Qcu && !F59 all (F60 (c.w.getD 1 default))) := by
 unfold F30
 have := anyL all (fun c => (hdB c.w Qai && !F59 all (F60 (c.w.getD 2 default))) || (hdB c.w Qcu && !F59 all (F60 (c.w.getD 1 default)))) false (Bb all) (fun i hi => by
  simp only [Bb, ltD hi, cond_true, nn, at0, at1, at2, blit]
  show (bif hdB (all.getD i default).w Qai then (bif !F59 all (F60 ((all.getD i default).w.getD 2 default)) then _ else _) else (bif hdB (all.getD i default).w Qcu then (bif !F59 all (F60 ((all.getD i default).w.getD 1 default)) then _ else _) else _)) = _
  cases hr : hdB (all.getD i default).w Qai with
  | true =>
   have hp : hdB (all.getD i default).w Qcu = false := by
    rw [hdB, beq_iff_eq] at hr
    rw [hdB, hr]; decide
   rw [hp]
   cases (!F59 all (F60 ((all.getD i default).w.getD 2 default))) <;> rfl
  | false => cases hdB (all.getD i default).w Qcu <;> cases (!F59 all (F60 ((all.getD i default).w.getD 1 default))) <;> rfl) (by simp only [Bb, geD, cond_false]) (fun r => r) (fun i40 => true) true (fun _ => rfl)
 refine this.trans ?_
 cases all.any _ <;> rfl
theorem Qcf (lines : List ByteArray) : F48 lines = (((Qa lines (⟨#[114, 111, 117, 116, 101]⟩ : ByteArray)).map fun w => w.getD 2 default) ++ ((Qa lines (⟨#[112, 101, 101, 114]⟩ : ByteArray)).map fun w => w.getD 1 default)).any fun x0 => F91 x0 (Ql lines) := by
 have h0 : Mt lines = Lp.done ((Qa lines (⟨#[114, 111, 117, 116, 101]⟩ : ByteArray)).map fun w => w.getD 2 default) := by
  unfold Mt
  have := Yi (Qa lines (⟨#[114, 111, 117, 116, 101]⟩ : ByteArray)) (fun (s : List ByteArray) w => s ++ [w.getD 2 default]) (fun s i => (s, i)) (Vy lines) (fun i s hi => by
   simp only [Vy, ltD hi, cond_true, nn]; rfl) (fun s => by simp only [Vy, geD, cond_false]) Lp.ret (fun (addrs1, v13) => Lp.done addrs1) []
  refine this.trans ?_
  rw [Kf, List.nil_append]
 have h1 : ∀ a, Gy lines a = Lp.done (a ++ (Qa lines (⟨#[112, 101, 101, 114]⟩ : ByteArray)).map fun w => w.getD 1 default) := fun a => by
  unfold Gy
  have := Yi (Qa lines (⟨#[112, 101, 101, 114]⟩ : ByteArray)) (fun (s : List ByteArray) w => s ++ [w.getD 1 default]) (fun s i => (s, i)) (Vs lines a) (fun i s hi => by
   simp only [Vs, ltD hi, cond_true, nn]; rfl) (fun s => by simp only [Vs, geD, cond_false]) Lp.ret (fun (addrs3, v27) => Lp.done addrs3) a
  refine this.trans ?_
  rw [Kf]
 unfold F48
 rw [h0]
 show (Gy lines _).fin _ _ = _
 rw [h1]; rfl
theorem Qcv (lines : List ByteArray) (h : F25 lines = 0) (t : ByteArray) : F91 t (Ql lines) = !F59 ((wsL lines).map l52Cut.mk) (F60 t) := by
 rw [Ubj, Bi]
 unfold F91
 rw [Mv]
 congr 1
 have e4 : Ql lines = (Qa lines (⟨#[112, 111, 114, 116]⟩ : ByteArray)).map (fun w : List ByteArray => (F96 (w.getD 2 default)).1) := rfl
 rw [e4, List.any_map, Yq lines h, List.any_filter]
 refine Uk fun w hw => ?_
 show (hdB w Uu && _) = (hdB w Uu && _)
 cases hp : hdB w Uu with
 | false => rfl
 | true =>
  have hpp := Pn (Pm lines h w hw) (eq_of_beq hp)
  obtain ⟨a, L, e1, e2, d1, b1, c1, s1⟩ := Ht (w.getD 2 default) (by unfold Wk at hpp; exact hpp.2.2.2.2)
  rw [Bool.true_and, Bool.true_and]
  show F94 (F96 (w.getD 2 default)).1 (F60 t) = _
  unfold F94
  rw [e1, e2, Qfo _ _ _ b1 c1, cb1, Yu (by simp only; omega) (by simp only; omega), neI]
  simp only
  rw [← decide_not, ← Bool.decide_and, ← Bool.decide_and]
  exact decide_eq_decide.2 (by omega)
theorem Pj (lines : List ByteArray) (h : F25 lines = 0) : F48 lines = !F30 ((wsL lines).map l52Cut.mk) := by
 rw [Qsm, Bool.not_not, Bi, Qcf, List.any_append, Qna, List.any_map, List.any_map, Yq lines h, Yq lines h, List.any_filter, List.any_filter]
 congr 1
 ·refine Uk fun w hw => ?_
  show (hdB w Qai && F91 (w.getD 2 default) (Ql lines)) = _
  rw [Qcv lines h]
 ·refine Uk fun w hw => ?_
  show (hdB w Qcu && F91 (w.getD 1 default) (Ql lines)) = _
  rw [Qcv lines h]
theorem Px {α ρ τ : Type} [Inhabited α] (xs : List α) (P : α → Bool) (B : Nat → Bool) (bad : ρ) (step : Int × Int → Lp (Int × Int) ρ)
  (h1 : ∀ (i : Nat) (n : Int), i < xs.length → step (n, (i : Int)) = bif P (xs.getD i default) then (bif B i then .ret bad else .next (n + 1, ((i + 1 : Nat) : Int))) else .next (n, ((i + 1 : Nat) : Int)))
  (h2 : ∀ n : Int, step (n, (xs.length : Int)) = .done (n, (xs.length : Int))) (f : ρ → τ) (g : Int × Int → τ) :
  ∀ (m i : Nat) (n : Int), i + m = xs.length → ∀ fuel, m < fuel → (runL step fuel (n, (i : Int))).fin f g = bif anyF (fun i => P (xs.getD i default) && B i) i m then f bad else g (n + (((xs.drop i).filter P).length : Int), (xs.length : Int))
 | m, i, _, _, 0, hf => absurd hf (Nat.not_lt_zero _)
 | 0, i, n, h, fuel + 1, hf => by
  obtain rfl : i = xs.length := by omega
  rw [Zg _ (h2 n), List.drop_of_length_le (Nat.le_refl _)]
  show g _ = g _
  simp
 | m + 1, i, n, h, fuel + 1, hf => by
  have hst := h1 i n (by omega)
  have hd : xs.drop i = xs.getD i default :: xs.drop (i + 1) := by
   rw [List.drop_eq_getElem_cons (show i < xs.length by omega), List.getD_eq_getElem?_getD, List.getElem?_eq_getElem (show i < xs.length by omega)]; rfl
  rw [anyF, hd]
  cases hp : P (xs.getD i default) with
  | false =>
   rw [hp, cond_false] at hst
   rw [Uj _ hst, Px xs P B bad step h1 h2 f g m (i + 1) _ (by omega) fuel (by omega), List.filter_cons_of_neg (by rw [hp]; exact Bool.false_ne_true)]
   simp
  | true =>
   rw [hp, cond_true] at hst
   rw [Bool.true_and]
   cases hb : B i with
   | true => rw [hb, cond_true] at hst; rw [Ya _ hst]; rfl
   | false =>
    rw [hb, cond_false] at hst
    rw [Uj _ hst, Px xs P B bad step h1 h2 f g m (i + 1) _ (by omega) fuel (by omega), List.filter_cons_of_pos hp, Bool.false_or, List.length_cons]
    congr 2
    rw [Int.natCast_add, Int.add_assoc, Int.add_comm (1 : Int)]; rfl
theorem Qkw {α : Type} [Inhabited α] (p : α → Bool) (xs : List α) : (idxI p xs < 0 ↔ xs.filter p = []) ∧ (0 ≤ idxI p xs → xs.getD (idxI p xs).toNat default = (xs.filter p).getD 0 default) := by
 unfold idxI
 cases h : first (fun k => p (xs.getD k default)) xs.length with
 | none =>
  have h1 := first_none.1 h
  refine ⟨⟨fun _ => ?_, fun _ => by decide⟩, fun h => absurd h (by decide)⟩
  rw [List.filter_eq_nil_iff]
  intro x hx
  obtain ⟨k, hk, rfl⟩ := Vb hx
  rw [h1 k hk]; exact Bool.false_ne_true
 | some k =>
  obtain ⟨h1, h2, h3⟩ := first_some.1 h
  have hs : xs.filter p = xs.getD k default :: (xs.drop (k + 1)).filter p := by
   have e : xs = xs.take k ++ xs.getD k default :: xs.drop (k + 1) := by
    rw [Kl _ h1, ← List.drop_eq_getElem_cons h1, List.take_append_drop]
   have h4 : (xs.take k).filter p = [] := by
    rw [List.filter_eq_nil_iff]
    intro x hx
    obtain ⟨j, hj, rfl⟩ := Vb hx
    have hl : j < k := by rw [List.length_take] at hj; omega
    rw [List.getD_eq_getElem?_getD, List.getElem?_take, if_pos hl, ← List.getD_eq_getElem?_getD]
    rw [h3 j hl]; exact Bool.false_ne_true
   conv => lhs; rw [e]
   rw [List.filter_append, h4, List.nil_append, List.filter_cons_of_pos h2]
  refine ⟨⟨fun h => absurd h (by show ¬ ((k : Int) < 0); omega), fun h => by rw [hs] at h; cases h⟩, fun _ => ?_⟩
  rw [hs]
  show xs.getD (Int.toNat (k : Int)) default = xs.getD k default
  rw [nn]
theorem Qez (p q : Nat → Bool) : ∀ (m i : Nat), anyF (fun k => p k || q k) i m = (anyF p i m || anyF q i m)
 | 0, _ => rfl
 | m + 1, i => by
  rw [anyF, anyF, anyF, Qez p q m (i + 1)]
  cases p i <;> cases q i <;> simp
theorem Tz {p q : Nat → Bool} : ∀ (m i : Nat), (∀ k, i ≤ k → k < i + m → p k = q k) → anyF p i m = anyF q i m
 | 0, _, _ => rfl
 | m + 1, i, h => by rw [anyF, anyF, h i (Nat.le_refl _) (by omega), Tz m (i + 1) fun k h1 h2 => h k (by omega) (by omega)]
def badD (a n lo hi : Int) (d : List ByteArray) : Bool := (decide (F60 (d.getD 3 default) < a) || decide (F60 (d.getD 3 default) ≥ a + n)) || decide (lo ≤ F63 (d.getD 2 default) ∧ F63 (d.getD 2 default) ≤ hi)
def Jy (x y : List ByteArray) : Bool := (((y.getD 1 default).toList == (x.getD 1 default).toList) && ((y.getD 3 default).toList == (x.getD 3 default).toList)) && ((y.getD 4 default).toList == (x.getD 4 default).toList)
theorem Ucf (all : List l52Cut) (i : Nat) (hi : i < all.length) (nat : l52Cut) (a n : Int) (hp : F58 (nat.w.getD 1 default) = (a, n)) (hb : 0 ≤ a ∧ a ≤ 65535 ∧ 1 ≤ n ∧ n ≤ 65536) :
  F62 all (i : Int) nat = !(badD a n (F63 (nat.w.getD 3 default)) (F63 (nat.w.getD 4 default)) (all.getD i default).w || (all.take i).any fun e => hdB e.w Ud && Jy (all.getD i default).w e.w) := by
 unfold F62
 simp only [at1, at2, at3, at4, nn, hp, cb2]
 rw [Yu (by omega) (by omega)]
 have h1 := Yo (Bm all (i : Int) nat) i (fun k => hdB (all.getD k default).w Ud && Jy (all.getD i default).w (all.getD k default).w) false (fun r => r) true (fun k hk => by
  simp only [Bm, ltD hk, cond_true, nn, at0, at1, at3, at4, cb1]
  show (bif (((_ && _) && _) && _) then _ else _) = bif (hdB (all.getD k default).w Ud && ((_ && _) && _)) then _ else _
  rw [blit, Bool.and_assoc, Bool.and_assoc, Bool.and_assoc]; rfl) (by simp only [Bm, decide_eq_false (show ¬ (i : Int) < (i : Int) by omega), cond_false]) i 0 (by omega) (Int.toNat ((i : Int) - 0) + 1) (by omega)
 rw [Qdv all (fun e => hdB e.w Ud && Jy (all.getD i default).w e.w) i (by omega)] at h1
 rw [Bool.not_or]
 show (bif badD a n _ _ _ then false else _) = _
 refine (congrArg (fun z => bif badD a n (F63 (nat.w.getD 3 default)) (F63 (nat.w.getD 4 default)) (all.getD i default).w then false else z) h1).trans ?_
 cases badD a n (F63 (nat.w.getD 3 default)) (F63 (nat.w.getD 4 default)) (all.getD i default).w <;> cases ((all.take i).any fun e => hdB e.w Ud && Jy (all.getD i default).w e.w) <;> rfl
def Qey (a n lo hi : Int) (ds : List (List ByteArray)) : Bool := ds.any (badD a n lo hi) || Ze Jy [] ds
theorem Qcj (ws : List (List ByteArray)) : F31 (ws.map l52Cut.mk) = match ws.filter (fun w => hdB w hNat) with
  | [] => !(ws.any fun w => hdB w Ud)
  | w :: _ => bif anyF (fun i => hdB ((ws.map l52Cut.mk).getD i default).w Ud && !F62 (ws.map l52Cut.mk) (i : Int) ⟨w⟩) 0 ws.length then false else
    ((decide (((ws.filter fun w => hdB w Ud).length : Int) ≤ 6) && (decide (F60 (w.getD 2 default) < (F58 (w.getD 1 default)).1) || decide (F60 (w.getD 2 default) ≥ IntKind.i64.wrap ((F58 (w.getD 1 default)).1 + (F58 (w.getD 1 default)).2)))) && decide (F63 (w.getD 3 default) ≤ F63 (w.getD 4 default))) := by
 generalize hall : ws.map l52Cut.mk = all
 have hlen : all.length = ws.length := by rw [← hall, List.length_map]
 have hidx := Qkw (fun c => ((F56 c 0).toList == (⟨#[110, 97, 116]⟩ : ByteArray).toList)) all
 have hnf : all.filter (fun c => ((F56 c 0).toList == (⟨#[110, 97, 116]⟩ : ByteArray).toList)) = (ws.filter fun w => hdB w hNat).map l52Cut.mk := by
  rw [← hall, List.filter_map]
  congr 2
  funext w
  show ((F56 ⟨w⟩ 0).toList == _) = _
  rw [at0, blit]; rfl
 rw [hnf] at hidx
 have hdf : all.filter (fun c => hdB c.w Ud) = (ws.filter fun w => hdB w Ud).map l52Cut.mk := by
  rw [← hall, List.filter_map]; rfl
 have e211 : F61 all = idxI (fun c => ((F56 c 0).toList == (⟨#[110, 97, 116]⟩ : ByteArray).toList)) all := as61 all
 unfold F31
 generalize hk : idxI (fun c => ((F56 c 0).toList == (⟨#[110, 97, 116]⟩ : ByteArray).toList)) all = k at hidx
 have hloop := Px all (fun c => hdB c.w Ud) (fun i => decide (k < 0) || !F62 all (i : Int) (all.getD (Int.toNat k) default)) false (Xn all) (fun i n hi => by
  simp only [Xn, ltD hi, cond_true, nn, hk, e211]
  simp only [at0, blit, cb2]
  show (bif !(hdB (all.getD i default).w Ud) then _ else _) = bif hdB (all.getD i default).w Ud then _ else _
  cases hdB (all.getD i default).w Ud <;> rfl) (fun n => by simp only [Xn, geD, cond_false]) (fun r => r)
  (fun (doors, i40) => bif (decide (k < 0)) then true else (((decide (doors ≤ 6) && (decide (F60 ((all.getD (Int.toNat k) default).w.getD 2 default) < (F58 ((all.getD (Int.toNat k) default).w.getD 1 default)).1) || decide (F60 ((all.getD (Int.toNat k) default).w.getD 2 default) ≥ IntKind.i64.wrap ((F58 ((all.getD (Int.toNat k) default).w.getD 1 default)).1 + (F58 ((all.getD (Int.toNat k) default).w.getD 1 default)).2))))) && decide (F63 ((all.getD (Int.toNat k) default).w.getD 3 default) ≤ F63 ((all.getD (Int.toNat k) default).w.getD 4 default)))) all.length 0 0 (by omega) (Int.toNat ((all.length : Int) - 0) + 1) (by omega)
 simp only [hk, e211]
 simp only [at1, at2, at3, at4, cb1, cb2]
 refine Eq.trans hloop ?_
 rw [List.drop_zero, hdf, List.length_map, hlen]
 cases hn : ws.filter (fun w => hdB w hNat) with
 | nil =>
  rw [hn] at hidx
  have hk0 := hidx.1.2 rfl
  simp only [decide_eq_true hk0, Bool.true_or, Bool.and_true, cond_true]
  have := Kj all (fun c => hdB c.w Ud) all.length 0 (by omega)
  rw [List.drop_zero, hlen] at this
  rw [this, ← hall, List.any_map]
  show (bif ws.any (fun w => hdB w Ud) then false else true) = !ws.any fun w => hdB w Ud
  cases ws.any fun w => hdB w Ud <;> rfl
 | cons w r =>
  rw [hn] at hidx
  have hk0 : ¬ k < 0 := fun h => by have := hidx.1.1 h; cases this
  have hw : all.getD (Int.toNat k) default = ⟨w⟩ := (hidx.2 (by omega)).trans rfl
  simp only [decide_eq_false hk0, Bool.false_or, cond_false, hw]
  rw [Int.zero_add]
theorem Qgp (lines : List ByteArray) (w : List ByteArray) (r : List (List ByteArray)) (hn : Qa lines (⟨#[110, 97, 116]⟩ : ByteArray) = w :: r) :
  F49 lines = (((F95 (F96 (w.getD 1 default)).1 (F92 (w.getD 2 default)) || decide (F97 (w.getD 3 default) > F97 (w.getD 4 default))) || decide (((Qa lines (⟨#[100, 111, 111, 114]⟩ : ByteArray)).length : Int) > 6)) ||
   ((Qa lines (⟨#[100, 111, 111, 114]⟩ : ByteArray)).any (fun d => !F95 (F96 (w.getD 1 default)).1 (F92 (d.getD 3 default)) || decide (F97 (w.getD 3 default) ≤ F97 (d.getD 2 default) ∧ F97 (d.getD 2 default) ≤ F97 (w.getD 4 default))) || Ze Jy [] (Qa lines (⟨#[100, 111, 111, 114]⟩ : ByteArray)))) := by
 unfold F49
 have e0 : ((Qa lines (⟨#[110, 97, 116]⟩ : ByteArray)).getD (Int.toNat 0) default) = w := by rw [hn]; rfl
 have hl : ((((Qa lines (⟨#[110, 97, 116]⟩ : ByteArray)).length : Int) == 0)) = false := by rw [hn, beq_eq_false_iff_ne, List.length_cons]; omega
 rw [hl, cond_false]
 simp only [e0, cb2]
 generalize hds : Qa lines (⟨#[100, 111, 111, 114]⟩ : ByteArray) = ds
 have hloop := Yo (Xl lines) ds.length (fun i => (!F95 (F96 (w.getD 1 default)).1 (F92 ((ds.getD i default).getD 3 default)) || decide (F97 (w.getD 3 default) ≤ F97 ((ds.getD i default).getD 2 default) ∧ F97 ((ds.getD i default).getD 2 default) ≤ F97 (w.getD 4 default))) || (ds.take i).any (Jy (ds.getD i default))) true (fun r => r) false (fun i hi => by
  simp only [Xl, hds, ltD hi, cond_true, nn, e0, cb2]
  have h1 := anyL (ds.take i) (Jy (ds.getD i default)) true (Xr lines (i : Int)) (fun j hj => by
   simp only [Xr, hds, nn, ltD hj, cond_true, cb1]; rfl) (by simp only [Xr, hds, nn, geD, cond_false]) (Lp.ret : Bool → Lp Int Bool) (fun v89 => .next ((i : Int) + 1)) (.next ((i : Int) + 1)) (fun _ => rfl)
  rw [h1]
  show (bif (!F95 (F96 (w.getD 1 default)).1 (F92 ((ds.getD i default).getD 3 default)) || decide (F97 (w.getD 3 default) ≤ F97 ((ds.getD i default).getD 2 default) ∧ F97 ((ds.getD i default).getD 2 default) ≤ F97 (w.getD 4 default))) then _ else _) = _
  cases (!F95 (F96 (w.getD 1 default)).1 (F92 ((ds.getD i default).getD 3 default)) || decide (F97 (w.getD 3 default) ≤ F97 ((ds.getD i default).getD 2 default) ∧ F97 ((ds.getD i default).getD 2 default) ≤ F97 (w.getD 4 default))) <;> cases ((ds.take i).any (Jy (ds.getD i default))) <;> rfl) (by simp only [Xl, hds, geD, cond_false]) ds.length 0 (by omega) (Int.toNat ((ds.length : Int) - 0) + 1) (by omega)
 rw [Qez, Jz Jy ds ds.length 0 (by omega), List.take_zero, List.drop_zero] at hloop
 have h2 := Kj ds (fun d => (!F95 (F96 (w.getD 1 default)).1 (F92 (d.getD 3 default)) || decide (F97 (w.getD 3 default) ≤ F97 (d.getD 2 default) ∧ F97 (d.getD 2 default) ≤ F97 (w.getD 4 default)))) ds.length 0 (by omega)
 rw [List.drop_zero] at h2
 rw [h2] at hloop
 refine (congrArg (fun z => bif ((F95 (F96 (w.getD 1 default)).1 (F92 (w.getD 2 default)) || decide (F97 (w.getD 3 default) > F97 (w.getD 4 default))) || decide ((ds.length : Int) > 6)) then true else z) hloop).trans ?_
 rw [cb2]
 congr 1
 cases ((ds.any fun d => !F95 (F96 (w.getD 1 default)).1 (F92 (d.getD 3 default)) || decide (F97 (w.getD 3 default) ≤ F97 (d.getD 2 default) ∧ F97 (d.getD 2 default) ≤ F97 (w.getD 4 default))) || Ze Jy [] ds) <;> rfl
theorem Qcl (lines : List ByteArray) (h : F25 lines = 0) : F49 lines = !F31 ((wsL lines).map l52Cut.mk) := by
 rw [Qcj]
 have hN : Qa lines (⟨#[110, 97, 116]⟩ : ByteArray) = (wsL lines).filter fun w => hdB w hNat := Yq lines h _
 have hD : Qa lines (⟨#[100, 111, 111, 114]⟩ : ByteArray) = (wsL lines).filter fun w => hdB w Ud := Yq lines h _
 cases hn : (wsL lines).filter fun w => hdB w hNat with
 | nil =>
  rw [hn] at hN
  unfold F49
  rw [hN, hD]
  show decide ((((wsL lines).filter fun w => hdB w Ud).length : Int) > 0) = !!_
  rw [Bool.not_not, Bool.eq_iff_iff, decide_eq_true_eq, List.any_eq_true]
  constructor
  ·intro hl
   have hl : 0 < ((wsL lines).filter fun w => hdB w Ud).length := by omega
   have := List.mem_filter.1 (List.getElem_mem hl)
   exact ⟨_, this.1, this.2⟩
  ·rintro ⟨x, hx, hp⟩
   have := List.length_pos_of_mem (List.mem_filter.2 ⟨hx, hp⟩ : x ∈ (wsL lines).filter fun w => hdB w Ud)
   omega
 | cons w r =>
  have hwm : w ∈ (wsL lines).filter fun w => hdB w hNat := by rw [hn]; exact List.mem_cons_self
  rw [hn] at hN
  obtain ⟨hw1, hw2⟩ := List.mem_filter.1 hwm
  have hnp := Qum (Pm lines h w hw1) (eq_of_beq hw2)
  unfold natP at hnp
  obtain ⟨a, L, e1, e2, d1, b1, c1, s1⟩ := Ht (w.getD 1 default) hnp.2.2.1
  rw [Qgp lines w r hN]
  simp only [e1, e2, Qfo _ _ _ b1 c1, Ny, Mv]
  rw [Yu (by omega) (by omega), hD]
  have hdoor : anyF (fun i => hdB (((wsL lines).map l52Cut.mk).getD i default).w Ud && !F62 ((wsL lines).map l52Cut.mk) (i : Int) ⟨w⟩) 0 (wsL lines).length = Qey a (F102 L) (F63 (w.getD 3 default)) (F63 (w.getD 4 default)) ((wsL lines).filter fun w => hdB w Ud) := by
   have hc := Tz (p := fun i => hdB (((wsL lines).map l52Cut.mk).getD i default).w Ud && !F62 ((wsL lines).map l52Cut.mk) (i : Int) ⟨w⟩) (q := fun i => (hdB ((wsL lines).getD i default) Ud && badD a (F102 L) (F63 (w.getD 3 default)) (F63 (w.getD 4 default)) ((wsL lines).getD i default)) || ((wsL lines).take i).any (fun e => hdB ((wsL lines).getD i default) Ud && (hdB e Ud && Jy ((wsL lines).getD i default) e))) (wsL lines).length 0 (fun k _ hk => by
    have hk : k < (wsL lines).length := by omega
    have hg : ((wsL lines).map l52Cut.mk).getD k default = ⟨(wsL lines).getD k default⟩ := Qde _ _ _ hk
    rw [Ucf _ k (by simpa using hk) ⟨w⟩ a _ e2 ⟨b1.1, b1.2, s1⟩, Bool.not_not, hg, ← List.map_take, Bi]
    show (hdB ((wsL lines).getD k default) Ud && _) = _
    cases hdB ((wsL lines).getD k default) Ud with
    | true => simp only [Bool.true_and]
    | false =>
     simp only [Bool.false_and]
     rw [show ((wsL lines).take k).any (fun _ => false) = false by simp]; rfl)
   rw [hc, Qez, Jz (fun x e => hdB x Ud && (hdB e Ud && Jy x e)) (wsL lines) (wsL lines).length 0 (by omega), List.take_zero, List.drop_zero, Xo]
   have h3 := Kj (wsL lines) (fun d => hdB d Ud && badD a (F102 L) (F63 (w.getD 3 default)) (F63 (w.getD 4 default)) d) (wsL lines).length 0 (by omega)
   rw [List.drop_zero] at h3
   rw [h3]
   unfold Qey
   rw [List.any_filter]; rfl
  rw [hdoor]
  have hbd : ((wsL lines).filter fun w => hdB w Ud).any (fun d => !decide (a ≤ F60 (d.getD 3 default) ∧ F60 (d.getD 3 default) < a + F102 L) || decide (F63 (w.getD 3 default) ≤ F63 (d.getD 2 default) ∧ F63 (d.getD 2 default) ≤ F63 (w.getD 4 default))) = ((wsL lines).filter fun w => hdB w Ud).any (badD a (F102 L) (F63 (w.getD 3 default)) (F63 (w.getD 4 default))) := Uk fun d _ => by
   unfold badD
   congr 1
   rw [← decide_not, ← Bool.decide_or]
   exact decide_eq_decide.2 (by omega)
  rw [hbd]
  show (_ || Qey a (F102 L) (F63 (w.getD 3 default)) (F63 (w.getD 4 default)) ((wsL lines).filter fun w => hdB w Ud)) = _
  have g1 : decide (a ≤ F60 (w.getD 2 default) ∧ F60 (w.getD 2 default) < a + F102 L) = !(decide (F60 (w.getD 2 default) < a) || decide (F60 (w.getD 2 default) ≥ a + F102 L)) := by
   rw [← Bool.decide_or, ← decide_not]
   exact decide_eq_decide.2 (by omega)
  have g2 : decide (F63 (w.getD 3 default) > F63 (w.getD 4 default)) = !decide (F63 (w.getD 3 default) ≤ F63 (w.getD 4 default)) := by
   rw [← decide_not]
   exact decide_eq_decide.2 (by omega)
  have g3 : decide ((((wsL lines).filter fun w => hdB w Ud).length : Int) > 6) = !decide ((((wsL lines).filter fun w => hdB w Ud).length : Int) ≤ 6) := by
   rw [← decide_not]
   exact decide_eq_decide.2 (by omega)
  rw [g1, g2, g3]
  generalize (decide (F60 (w.getD 2 default) < a) || decide (F60 (w.getD 2 default) ≥ a + F102 L)) = x1, decide (F63 (w.getD 3 default) ≤ F63 (w.getD 4 default)) = x2, decide ((((wsL lines).filter fun w => hdB w Ud).length : Int) ≤ 6) = x3, Qey a (F102 L) (F63 (w.getD 3 default)) (F63 (w.getD 4 default)) ((wsL lines).filter fun w => hdB w Ud) = x4
  cases x1 <;> cases x2 <;> cases x3 <;> cases x4 <;> rfl
theorem Qqq (lines : List ByteArray) (hz : ∀ k : Nat, (lines.getD k default).size ≤ 1048576) (h : F44 lines = 0) : F25 lines = 0 ∧ lines.length ≤ 16 ∧ ∀ k : Nat, (lines.getD k default).size ≤ 1048576 := by
 rw [Qeq] at h
 exact ⟨h, Th lines h, hz⟩
theorem Qfm (lines : List ByteArray) (hz : ∀ k : Nat, (lines.getD k default).size ≤ 1048576) : ∀ k j : Nat, (((lines.map (fun l => (⟨(F20 l).1⟩ : l52Cut))).getD k default).w.getD j default).size ≤ 1048576 := fun k j => by
 by_cases hk : k < lines.length
 ·rw [Qde _ _ _ hk]
  exact Qc (lines.getD k default) j
 ·have e : (lines.map (fun l => (⟨(F20 l).1⟩ : l52Cut))).getD k default = default := by
   rw [List.getD_eq_getElem?_getD, List.getElem?_eq_none (by rw [List.length_map]; omega)]; rfl
  rw [e]
  exact Nat.zero_le _
theorem kc44 (lines : List ByteArray) {K_ : Prop} (p0_ : ∀ k : Nat, (lines.getD k default).size ≤ 1048576) (k_ : K_) : (∀ k : Nat, (lines.getD k default).size ≤ 1048576) ∧ (Imp (.l 1 eStr lines) (.l 1 eStr lines)) ∧ K_ := ⟨p0_, Imp.refl _, k_⟩
abbrev kh44 (lines : List ByteArray) : Hint false Tryz.prog := .call 44 (S44 lines) (ok44 lines) none
def Pe (p : (List ByteArray) → Bool) : Uv := ⟨List ByteArray, fun i => [.c (.x (PX (.l 1 eStr i) (F25 i = 0 ∧ i.length ≤ 16 ∧ ∀ k : Nat, (i.getD k default).size ≤ 1048576)))], fun i => .bool (p i)⟩
def Qhm (p : (List ByteArray) → Bool) : List Dat := [.x (FnX Tryz.prog (Pe p))]
def fh45 : FnH Tryz.prog := ⟨false, 45, Pe (fun x0 => F45 x0), [], rfl, True, fun i => Vk (ok45 i)⟩
theorem ca45 : Qw Tryz.prog 45 = true := by kernel_rfl
def fh46 : FnH Tryz.prog := ⟨false, 46, Pe (fun x0 => F46 x0), [], rfl, True, fun i => Vk (ok46 i)⟩
theorem ca46 : Qw Tryz.prog 46 = true := by kernel_rfl
def fh47 : FnH Tryz.prog := ⟨false, 47, Pe (fun x0 => F47 x0), [], rfl, True, fun i => Vk (ok47 i)⟩
theorem ca47 : Qw Tryz.prog 47 = true := by kernel_rfl
def fh48 : FnH Tryz.prog := ⟨false, 48, Pe (fun x0 => F48 x0), [], rfl, True, fun i => Vk (ok48 i)⟩
theorem ca48 : Qw Tryz.prog 48 = true := by kernel_rfl
def fh49 : FnH Tryz.prog := ⟨false, 49, Pe (fun x0 => F49 x0), [], rfl, True, fun i => Vk (ok49 i)⟩
theorem ca49 : Qw Tryz.prog 49 = true := by kernel_rfl
def Wa (lines : List ByteArray) : Int → Lp Int Int := fun v13 =>
 bif (decide (v13 < (([(fun x0 => F45 x0), (fun x0 => F46 x0), (fun x0 => F47 x0), (fun x0 => F48 x0), (fun x0 => F49 x0)] : List ((List ByteArray) → Bool)).length : Int))) then (bif ((([(fun x0 => F45 x0), (fun x0 => F46 x0), (fun x0 => F47 x0), (fun x0 => F48 x0), (fun x0 => F49 x0)] : List ((List ByteArray) → Bool)).getD (Int.toNat v13) default) lines) then (.ret (5 + v13)) else (.next (v13 + 1))) else (.done v13)
def F17 (lines : List ByteArray) : Int :=
 bif ((F44 lines) != 0) then (F44 lines) else ((runL (Wa lines) ((Int.toNat ((([(fun x0 => F45 x0), (fun x0 => F46 x0), (fun x0 => F47 x0), (fun x0 => F48 x0), (fun x0 => F49 x0)] : List ((List ByteArray) → Bool)).length : Int) - 0)) + 1) 0).fin (fun r => r) (fun v13 => 0))
abbrev El : Nat × Int := (((Int.toNat ((([(fun x0 => F45 x0), (fun x0 => F46 x0), (fun x0 => F47 x0), (fun x0 => F48 x0), (fun x0 => F49 x0)] : List ((List ByteArray) → Bool)).length : Int) - 0)) + 1), 0)
abbrev Qmb (m39 : Nat) (v13 : Int) : Prop := (Int.toNat ((([(fun x0 => F45 x0), (fun x0 => F46 x0), (fun x0 => F47 x0), (fun x0 => F48 x0), (fun x0 => F49 x0)] : List ((List ByteArray) → Bool)).length : Int) - v13) < m39) ∧ (0 : Int) ≤ v13
abbrev Qyq (lines : List ByteArray) : Lp Int Int := LpX (Wa lines) (El)
abbrev Tx (lines : List ByteArray) (i : Nat × Int) : Prop := LpJ (Wa lines) (El) i (Qmb i.1 i.2)
abbrev Uam (lines : List ByteArray) (i : Nat × Int) (m39 : Nat) (v13 : Int) : Prop := LpH (Wa lines) (El) i m39 v13 (Qmb (m39 + 1) v13)
abbrev Qxm (lines : List ByteArray) (v13 : Int) (v13_ : Int) (K39 : Prop) : Prop := (Rf (.int .i64 (([(fun x0 => F45 x0), (fun x0 => F46 x0), (fun x0 => F47 x0), (fun x0 => F48 x0), (fun x0 => F49 x0)] : List ((List ByteArray) → Bool)).length : Int))) ∧ ((.int .i64 v13 : Value) = .int .i64 v13_) ∧ (Im (.l 1 eStr lines)) ∧ (Im (.l 1 Qhm ([(fun x0 => F45 x0), (fun x0 => F46 x0), (fun x0 => F47 x0), (fun x0 => F48 x0), (fun x0 => F49 x0)] : List ((List ByteArray) → Bool)))) ∧ K39
theorem un17_0 (lines : List ByteArray) (i : Nat × Int) (h : Tx lines i) : Uam lines i (i.1 - 1) i.2 := ⟨hd1 h.1 h.2.1, hd3 h.2.1, hd2 h.2.1, h.2.2⟩
theorem bk17_0 (lines : List ByteArray) (i : Nat × Int) (m39 : Nat) (v13 : Int) (hl : m39 < i.1) (e : runL (Wa lines) m39 v13 = Qyq lines) (h : Qmb m39 v13) : ∃ j : Nat × Int, Qxm lines v13 j.2 (Tx lines j ∧ j.1 < i.1) := ⟨(m39, v13), rfl, rfl, Imp.refl _, Imp.refl _, ⟨e, h⟩, hl⟩
theorem en17_0 (lines : List ByteArray) (h : (0 : Int) ≤ 0) : Qxm lines 0 0 (Tx lines (El)) := ⟨rfl, rfl, Imp.refl _, Imp.refl _, rfl, Nat.lt_succ_self _, h⟩
def S17 (lines : List ByteArray) : Spec := ⟨[.r (.c (.l 1 eStr lines))], .v (vI (F17 lines)), lines.length ≤ 1048576 ∧ (∀ k : Nat, (lines.getD k default).size ≤ 1048576)⟩
theorem ok17 (lines : List ByteArray) : (S17 lines).ok Tryz.prog 17 false :=
 Qj mixed (fn := Tryz.f17) (ct := .seqk [(0, 0)] .no (.seq (.seq (.reg [(1, kh44 lines)]) (.seq .no (.cond (.seq .no .no) .no))) (.seq (.seqk [(0, 0), (11, 0)] (.reg [(0, .dat (.l 1 Qhm ([(fun x0 => F45 x0), (fun x0 => F46 x0), (fun x0 => F47 x0), (fun x0 => F48 x0), (fun x0 => F49 x0)] : List ((List ByteArray) → Bool))))]) (.blk (.loop (ι := Nat × Int) (fun i => (fun (v13 : Int) => (⟨[(0, some (.h 0 0)), (11, some (.h 1 0)), (12, some (.v (vI (([(fun x0 => F45 x0), (fun x0 => F46 x0), (fun x0 => F47 x0), (fun x0 => F48 x0), (fun x0 => F49 x0)] : List ((List ByteArray) → Bool)).length : Int)))), (13, some (.v (vI v13)))], [(0, some (.shr none (.l 1 eStr lines))), (1, some (.own 1 (.l 1 Qhm ([(fun x0 => F45 x0), (fun x0 => F46 x0), (fun x0 => F47 x0), (fun x0 => F48 x0), (fun x0 => F49 x0)] : List ((List ByteArray) → Bool)))))], 2⟩ : St)) i.2) (Tx lines) (fun i => i.1) (El) (fun i => (fun (v13 : Int) => (.seq .no (.seq (.cond .no .no) (.seq (.blk (.seq .no (.seq (.reg [(2, .fnv (Pe (([(fun x0 => F45 x0), (fun x0 => F46 x0), (fun x0 => F47 x0), (fun x0 => F48 x0), (fun x0 => F49 x0)] : List ((List ByteArray) → Bool)).getD (Int.toNat v13) default)) lines)]) (.cond (.seq (.reg [(1, .bnd)]) .no) .no)))) (.reg [(0, .bnd)]))))) i.2)))) (.seq .no .no)))) Tryz.func17 (fun (hp : lines.length ≤ 1048576 ∧ (∀ k : Nat, (lines.getD k default).size ≤ 1048576)) => have hpre0 := hp.1; have hpre1 := hp.2; kn lines fun _ => kc44 lines (by first | assumption | exact hpre1 _ | exact fun k _ => hpre1 k | (intros; exact trivial) | (intros; exact Nat.zero_le _)) (ifn (F44 lines) 0 (fun h1 _ => fiI (F44 lines) (F17 lines) (condT h1 rfl)) (fun h1 _ => ai (BuildOK.mk Qhm ([(fun x0 => F45 x0), (fun x0 => F46 x0), (fun x0 => F47 x0), (fun x0 => F48 x0), (fun x0 => F49 x0)] : List ((List ByteArray) → Bool)) rfl (by exact ai (Imp.fn fh45 rfl trivial ca45) (ai (Imp.fn fh46 rfl trivial ca46) (ai (Imp.fn fh47 rfl trivial ca47) (ai (Imp.fn fh48 rfl trivial ca48) (ai (Imp.fn fh49 rfl trivial ca49) trivial))))) (fun _ => rfl) : BuildOK 5 1 [.v (.func (.func 45) #[] #[]), .v (.func (.func 46) #[] #[]), .v (.func (.func 47) #[] #[]), .v (.func (.func 48) #[] #[]), .v (.func (.func 49) #[] #[])] (.l 1 Qhm ([(fun x0 => F45 x0), (fun x0 => F46 x0), (fun x0 => F47 x0), (fun x0 => F48 x0), (fun x0 => F49 x0)] : List ((List ByteArray) → Bool)))) (kn lines fun _ => kn ([(fun x0 => F45 x0), (fun x0 => F46 x0), (fun x0 => F47 x0), (fun x0 => F48 x0), (fun x0 => F49 x0)] : List ((List ByteArray) → Bool)) fun _ => ai (en17_0 lines (by omega)) (fun (i0 : Nat × Int) (hi0 : Tx lines i0) => (fun (m0 : Nat) (v13 : Int) (hh0 : Uam lines i0 m0 v13) => have hI0 := hh0.1; have hl0 := hh0.2.1; have _ := hh0.2.2.1; have _ := hh0.2.2.2; ifd (v13 < (([(fun x0 => F45 x0), (fun x0 => F46 x0), (fun x0 => F47 x0), (fun x0 => F48 x0), (fun x0 => F49 x0)] : List ((List ByteArray) → Bool)).length : Int)) (fun h3 _ => ai (by omega : ib v13 ([(fun x0 => F45 x0), (fun x0 => F46 x0), (fun x0 => F47 x0), (fun x0 => F48 x0), (fun x0 => F49 x0)] : List ((List ByteArray) → Bool))) (ai (Eq.refl (FnX Tryz.prog (Pe (([(fun x0 => F45 x0), (fun x0 => F46 x0), (fun x0 => F47 x0), (fun x0 => F48 x0), (fun x0 => F49 x0)] : List ((List ByteArray) → Bool)).getD (Int.toNat v13) default)))) (ai (Imp.px (d := .l 1 eStr lines) (by exact Qqq lines (by assumption) (by omega) : F25 lines = 0 ∧ lines.length ≤ 16 ∧ ∀ k : Nat, (lines.getD k default).size ≤ 1048576)) (ifb ((([(fun x0 => F45 x0), (fun x0 => F46 x0), (fun x0 => F47 x0), (fun x0 => F48 x0), (fun x0 => F49 x0)] : List ((List ByteArray) → Bool)).getD (Int.toNat v13) default) lines) (fun h4 => ai (iok (5 + v13) (by first | omega | (simp only [List.length_cons, List.length_nil] at *; omega))) (fiI (5 + v13) (F17 lines) (condF h1 (finR (Qr hI0 (condT h3 (condT h4 rfl))) rfl)))) (fun h4 => ai (iok (v13 + 1) (by first | omega | (simp only [List.length_cons, List.length_nil] at *; omega))) (bk17_0 lines i0 m0 (v13 + 1) hl0 (Qd hI0 (condT h3 (condF h4 rfl))) (by refine ⟨?_, ?_⟩ <;> omega))))))) (fun h3 _ => have hD0_5 : Qyq lines = Lp.done v13 := Qk hI0 (condF h3 rfl); fiI 0 (F17 lines) (condF h1 (finD hD0_5 rfl)))) (i0.1 - 1) i0.2 (un17_0 lines i0 hi0)))))) (by kernel_rfl)
theorem kc25 (lines : List ByteArray) {K_ : Prop} (p0_ : ∀ k : Nat, (lines.getD k default).size ≤ 1048576) (k_ : K_) : (∀ k : Nat, (lines.getD k default).size ≤ 1048576) ∧ (Imp (.l 1 eStr lines) (.l 1 eStr lines)) ∧ K_ := ⟨p0_, Imp.refl _, k_⟩
abbrev kh25 (lines : List ByteArray) : Hint true Tryz.prog := .call 25 (S25 lines) (ok25 lines) none
theorem kc26a (lines : List ByteArray) {K_ : Prop} (p0_ : lines.length ≤ 16) (p1_ : ∀ k : Nat, (lines.getD k default).size ≤ 1048576) (k_ : K_) : (lines.length ≤ 16 ∧ (∀ k : Nat, (lines.getD k default).size ≤ 1048576)) ∧ (Imp (.l 1 eStr lines) (.l 1 eStr lines)) ∧ K_ := ⟨⟨p0_, p1_⟩, Imp.refl _, k_⟩
abbrev kh26a (lines : List ByteArray) : Hint true Tryz.prog := .call 26 (T26 (lines.map (fun l => (⟨(F20 l).1⟩ : l52Cut))) lines) (oa26 lines) none
def F12 (lines : List ByteArray) : Int :=
 bif ((F25 lines) != 0) then (F25 lines) else (bif (!(F27 (lines.map (fun l => (⟨(F20 l).1⟩ : l52Cut))))) then 5 else (bif (!(F28 (lines.map (fun l => (⟨(F20 l).1⟩ : l52Cut))))) then 6 else (bif (!(F29 (lines.map (fun l => (⟨(F20 l).1⟩ : l52Cut))))) then 7 else (bif (!(F30 (lines.map (fun l => (⟨(F20 l).1⟩ : l52Cut))))) then 8 else (bif (!(F31 (lines.map (fun l => (⟨(F20 l).1⟩ : l52Cut))))) then 9 else 0)))))
def S12 (lines : List ByteArray) : Spec := ⟨[.r (.c (.l 1 eStr lines))], .v (vI (F12 lines)), lines.length ≤ 1048576 ∧ (∀ k : Nat, (lines.getD k default).size ≤ 1048576)⟩
theorem ok12 (lines : List ByteArray) : (S12 lines).ok Tryz.prog 12 :=
 Qj mixed (fn := Tryz.f12) (ct := .seqk [(0, 0)] .no (.seq (.reg [(1, kh25 lines)]) (.seq (.seq .no (.cond (.seq .no .no) .no)) (.seq (.reg [(1, kh26a lines)]) (.seq (.blk (.seq (.reg [(1, .call 27 (S27 (lines.map (fun l => (⟨(F20 l).1⟩ : l52Cut)))) (ok27 (lines.map (fun l => (⟨(F20 l).1⟩ : l52Cut)))) none)]) (.cond (.seq .no .no) (.seq (.reg [(1, .call 28 (S28 (lines.map (fun l => (⟨(F20 l).1⟩ : l52Cut)))) (ok28 (lines.map (fun l => (⟨(F20 l).1⟩ : l52Cut)))) none)]) (.cond (.seq .no .no) (.seq (.reg [(1, .call 29 (S29 (lines.map (fun l => (⟨(F20 l).1⟩ : l52Cut)))) (ok29 (lines.map (fun l => (⟨(F20 l).1⟩ : l52Cut)))) none)]) (.cond (.seq .no .no) (.seq (.reg [(1, .call 30 (S30 (lines.map (fun l => (⟨(F20 l).1⟩ : l52Cut)))) (ok30 (lines.map (fun l => (⟨(F20 l).1⟩ : l52Cut)))) none)]) (.cond (.seq .no .no) (.seq (.reg [(1, .call 31 (S31 (lines.map (fun l => (⟨(F20 l).1⟩ : l52Cut)))) (ok31 (lines.map (fun l => (⟨(F20 l).1⟩ : l52Cut)))) none)]) (.cond (.seq .no .no) .no))))))))))) (.seq .no .no)))))) Tryz.func12 (fun (hp : lines.length ≤ 1048576 ∧ (∀ k : Nat, (lines.getD k default).size ≤ 1048576)) => have hpre0 := hp.1; have hpre1 := hp.2; kn lines fun _ => kc25 lines (by first | assumption | exact hpre1 _ | exact fun k _ => hpre1 k | (intros; exact trivial) | (intros; exact Nat.zero_le _)) (ifn (F25 lines) 0 (fun h1 _ => fiI (F25 lines) (F12 lines) (condT h1 rfl)) (fun h1 _ => kc26a lines (by first | omega | assumption | (have h9 := Th lines (by omega); omega)) (by first | omega | assumption | (have h9 := Th lines (by omega); omega)) (ai trivial (ai (Imp.refl (.l 1 Qo (lines.map (fun l => (⟨(F20 l).1⟩ : l52Cut))))) (ifb (!(F27 (lines.map (fun l => (⟨(F20 l).1⟩ : l52Cut))))) (fun h2 => fiI 5 (F12 lines) (condF h1 (condT h2 rfl))) (fun h2 => ai trivial (ai (Imp.refl (.l 1 Qo (lines.map (fun l => (⟨(F20 l).1⟩ : l52Cut))))) (ifb (!(F28 (lines.map (fun l => (⟨(F20 l).1⟩ : l52Cut))))) (fun h3 => fiI 6 (F12 lines) (condF h1 (condF h2 (condT h3 rfl)))) (fun h3 => ai (by exact Qfm lines (by assumption) : ∀ k j : Nat, (((lines.map (fun l => (⟨(F20 l).1⟩ : l52Cut))).getD k default).w.getD j default).size ≤ 1048576) (ai (Imp.refl (.l 1 Qo (lines.map (fun l => (⟨(F20 l).1⟩ : l52Cut))))) (ifb (!(F29 (lines.map (fun l => (⟨(F20 l).1⟩ : l52Cut))))) (fun h4 => fiI 7 (F12 lines) (condF h1 (condF h2 (condF h3 (condT h4 rfl))))) (fun h4 => ai (by exact Qfm lines (by assumption) : ∀ k j : Nat, (((lines.map (fun l => (⟨(F20 l).1⟩ : l52Cut))).getD k default).w.getD j default).size ≤ 1048576) (ai (Imp.refl (.l 1 Qo (lines.map (fun l => (⟨(F20 l).1⟩ : l52Cut))))) (ifb (!(F30 (lines.map (fun l => (⟨(F20 l).1⟩ : l52Cut))))) (fun h5 => fiI 8 (F12 lines) (condF h1 (condF h2 (condF h3 (condF h4 (condT h5 rfl)))))) (fun h5 => ai (by exact Qfm lines (by assumption) : ∀ k j : Nat, (((lines.map (fun l => (⟨(F20 l).1⟩ : l52Cut))).getD k default).w.getD j default).size ≤ 1048576) (ai (Imp.refl (.l 1 Qo (lines.map (fun l => (⟨(F20 l).1⟩ : l52Cut))))) (ifb (!(F31 (lines.map (fun l => (⟨(F20 l).1⟩ : l52Cut))))) (fun h6 => fiI 9 (F12 lines) (condF h1 (condF h2 (condF h3 (condF h4 (condF h5 (condT h6 rfl))))))) (fun h6 => fiI 0 (F12 lines) (condF h1 (condF h2 (condF h3 (condF h4 (condF h5 (condF h6 rfl))))))))))))))))))))))))) (by kernel_rfl)
theorem Qko (lines : List ByteArray) : F17 lines = F12 lines := by
 unfold F17 F12
 rw [Qeq]
 cases hn : (F25 lines != 0) with
 | true => rfl
 | false =>
  have h0 : F25 lines = 0 := by simpa using hn
  rw [cond_false, cond_false]
  have e : (lines.map (fun l => (⟨(F20 l).1⟩ : l52Cut))) = (wsL lines).map l52Cut.mk := by
   unfold wsL
   rw [List.map_map]; rfl
  rw [e]
  have k1 := Qgd lines h0
  have k2 := Ph lines h0
  have k3 := Qgi lines h0
  have k4 := Pj lines h0
  have k5 := Qcl lines h0
  rw [← k1, ← k2, ← k3, ← k4, ← k5]
  have s0 : Wa lines 0 = bif F45 lines then .ret 5 else .next 1 := rfl
  have s1 : Wa lines 1 = bif F46 lines then .ret 6 else .next 2 := rfl
  have s2 : Wa lines 2 = bif F47 lines then .ret 7 else .next 3 := rfl
  have s3 : Wa lines 3 = bif F48 lines then .ret 8 else .next 4 := rfl
  have s4 : Wa lines 4 = bif F49 lines then .ret 9 else .next 5 := rfl
  have s5 : Wa lines 5 = .done 5 := rfl
  show (runL (Wa lines) 6 0).fin _ _ = _
  cases b0 : F45 lines with
  | true => rw [b0, cond_true] at s0; rw [Ya _ s0]; rfl
  | false =>
  rw [b0, cond_false] at s0; rw [Uj _ s0]
  cases b1 : F46 lines with
  | true => rw [b1, cond_true] at s1; rw [Ya _ s1]; rfl
  | false =>
  rw [b1, cond_false] at s1; rw [Uj _ s1]
  cases b2 : F47 lines with
  | true => rw [b2, cond_true] at s2; rw [Ya _ s2]; rfl
  | false =>
  rw [b2, cond_false] at s2; rw [Uj _ s2]
  cases b3 : F48 lines with
  | true => rw [b3, cond_true] at s3; rw [Ya _ s3]; rfl
  | false =>
  rw [b3, cond_false] at s3; rw [Uj _ s3]
  cases b4 : F49 lines with
  | true => rw [b4, cond_true] at s4; rw [Ya _ s4]; rfl
  | false =>
  rw [b4, cond_false] at s4; rw [Uj _ s4, Zg _ s5]; rfl


def ltB (a b : ByteArray) : Bool := Op.bytesLess a.toList b.toList
theorem Qgt : ∀ (x y : List UInt8), Op.bytesLess x y = decide (x < y)
 | [], [] => by simp [Op.bytesLess]
 | _ :: _, [] => by simp [Op.bytesLess]
 | [], _ :: _ => by simp [Op.bytesLess]
 | a :: x, b :: y => by
  rw [Op.bytesLess, Qgt x y]
  simp only [List.cons_lt_cons_iff]
  by_cases h1 : a < b <;> by_cases h2 : a = b <;> by_cases h3 : x < y <;> simp [h1, h2, h3]
theorem Lz (a b : ByteArray) : ltB a b = true ↔ a.data.toList < b.data.toList := by
 unfold ltB
 rw [Qu, Qu, Qgt, decide_eq_true_eq]
theorem Qbq (a : ByteArray) : ltB a a = false := by
 rw [Bool.eq_false_iff, ne_eq, Lz]
 exact List.lt_irrefl _
theorem Qdr {a b c : ByteArray} (h1 : ltB a b = true) (h2 : ltB b c = true) : ltB a c = true := by
 rw [Lz] at *
 exact List.lt_trans h1 h2
theorem Qox (a b : ByteArray) : ltB a b = true ∨ a = b ∨ ltB b a = true := by
 rw [Lz, Lz]
 rcases Classical.em (a.data.toList < b.data.toList) with h | h
 ·exact .inl h
 ·rcases Classical.em (b.data.toList < a.data.toList) with h2 | h2
  ·exact .inr (.inr h2)
  ·refine .inr (.inl (Jn (List.le_antisymm ?_ ?_)))
   ·exact List.not_lt.1 h2
   ·exact List.not_lt.1 h
theorem Qrh {a b : ByteArray} (h : ltB a b = true) : ltB b a = false := by
 rw [Bool.eq_false_iff]
 intro h2
 have := Qdr h h2
 rw [Qbq] at this
 cases this
def Vi (xs : List ByteArray) : Prop := xs.Pairwise fun a b => ltB a b = true
theorem Qae : ∀ {xs ys : List ByteArray}, Vi xs → Vi ys → (∀ z, z ∈ xs ↔ z ∈ ys) → xs = ys
 | [], [], _, _, _ => rfl
 | [], y :: ys, _, _, h => absurd ((h y).2 List.mem_cons_self) List.not_mem_nil
 | x :: xs, [], _, _, h => absurd ((h x).1 List.mem_cons_self) List.not_mem_nil
 | x :: xs, y :: ys, hx, hy, h => by
  obtain ⟨hx1, hx2⟩ := List.pairwise_cons.1 hx
  obtain ⟨hy1, hy2⟩ := List.pairwise_cons.1 hy
  have hno : ∀ {a : ByteArray} {r : List ByteArray}, (∀ b ∈ r, ltB a b = true) → a ∉ r := fun h hm => by
   have := h _ hm
   rw [Qbq] at this
   cases this
  have e : x = y := by
   rcases List.mem_cons.1 ((h x).1 List.mem_cons_self) with e | hm
   ·exact e
   ·rcases List.mem_cons.1 ((h y).2 List.mem_cons_self) with e | hm2
    ·exact e.symm
    ·have := Qrh (hy1 x hm)
     rw [hx1 y hm2] at this
     cases this
  subst e
  rw [Qae hx2 hy2 fun z => ⟨fun hz => ?_, fun hz => ?_⟩]
  ·rcases List.mem_cons.1 ((h z).1 (List.mem_cons_of_mem _ hz)) with rfl | hm
   ·exact absurd hz (hno hx1)
   ·exact hm
  ·rcases List.mem_cons.1 ((h z).2 (List.mem_cons_of_mem _ hz)) with rfl | hm
   ·exact absurd hz (hno hy1)
   ·exact hm
theorem To (xs : List ByteArray) : (Ka xs).Perm xs := by
 unfold Ka
 have h := (List.mergeSort_perm (xs.map (·.data.toList)) fun x y => decide (x ≤ y)).map fun l : List UInt8 => (⟨l.toArray⟩ : ByteArray)
 refine h.trans (List.Perm.of_eq ?_)
 rw [List.map_map]
 exact (List.map_congr_left fun a _ => show (⟨a.data.toList.toArray⟩ : ByteArray) = a from by simp).trans (List.map_id _)
theorem sortS_mem {xs : List ByteArray} {z : ByteArray} : z ∈ Ka xs ↔ z ∈ xs := (To xs).mem_iff
theorem Qgm (xs : List ByteArray) (h : xs.Nodup) : Vi (Ka xs) := by
 have hn : (Ka xs).Nodup := (To xs).nodup_iff.2 h
 have hp : (Ka xs).Pairwise fun a b => ltB b a = false := by
  unfold Ka
  rw [List.pairwise_map]
  refine (List.pairwise_mergeSort (le := fun x y : List UInt8 => decide (x ≤ y)) ?_ ?_ _).imp ?_
  ·intro a b c h1 h2
   simp only [decide_eq_true_eq] at *
   exact List.le_trans h1 h2
  ·intro a b
   simp only [Bool.or_eq_true, decide_eq_true_eq]
   exact List.le_total a b
  ·intro a b h1
   rw [Bool.eq_false_iff, ne_eq, Lz]
   simp only [decide_eq_true_eq] at h1
   exact List.not_lt.2 h1
 refine (hp.and hn).imp ?_
 rintro a b ⟨h1, h2⟩
 rcases Qox a b with h | h | h
 ·exact h
 ·exact absurd h h2
 ·rw [h1] at h; cases h
theorem kc18 (k : Int) {K_ : Prop} (p0_ : k ≤ 1000000000) (k_ : K_) : (k ≤ 1000000000) ∧ (Imp (.v (vI k)) (.v (vI k))) ∧ K_ := ⟨p0_, Imp.refl _, k_⟩
abbrev kh18 (k : Int) : Hint true Tryz.prog := .call 18 (S18 k) (ok18 k) none
def Wx (a : List ByteArray) (k : Int) : (Int × Int × List ByteArray) → Lp (Int × Int × List ByteArray) (Int × List ByteArray) := fun (k400, i40, xs) =>
 bif (decide (i40 < (xs.length : Int))) then (.next ((k400 + 1), (i40 + 1), (xs.set (i40).toNat (F18 k400)))) else (.done (k400, i40, xs))
def F8 (a : List ByteArray) (k : Int) : Int × List ByteArray :=
 (runL (Wx a k) ((Int.toNat ((a.length : Int) - 0)) + 1) (k, 0, a)).fin (fun r => r) (fun (k400, i40, xs) => (k400, xs))
abbrev Qij (a : List ByteArray) (k : Int) : Nat × (Int × Int × List ByteArray) := (((Int.toNat ((a.length : Int) - 0)) + 1), (k, 0, a))
abbrev Qxk (a : List ByteArray) (m39 : Nat) (k400 : Int) (i40 : Int) (xs : List ByteArray) : Prop := Int.toNat ((xs.length : Int) - i40) < m39 ∧ (0 : Int) ≤ k400 ∧ k400 + ((xs.length : Int) - i40) ≤ 1000000000 ∧ (0 : Int) ≤ i40 ∧ xs.length = a.length
abbrev lX8_0 (a : List ByteArray) (k : Int) : Lp (Int × Int × List ByteArray) (Int × List ByteArray) := LpX (Wx a k) (Qij a k)
abbrev Qhy (a : List ByteArray) (k : Int) (i : Nat × (Int × Int × List ByteArray)) : Prop := LpJ (Wx a k) (Qij a k) i (Qxk a i.1 i.2.1 i.2.2.1 i.2.2.2)
abbrev lH8_0 (a : List ByteArray) (k : Int) (i : Nat × (Int × Int × List ByteArray)) (m39 : Nat) (k400 : Int) (i40 : Int) (xs : List ByteArray) : Prop := LpH (Wx a k) (Qij a k) i m39 (k400, i40, xs) (Qxk a (m39 + 1) k400 i40 xs)
abbrev lE8_0 (k400 : Int) (i40 : Int) (xs : List ByteArray) (k400_ : Int) (i40_ : Int) (xs_ : List ByteArray) (K39 : Prop) : Prop := ((.int .i64 k400 : Value) = .int .i64 k400_) ∧ ((.int .i64 i40 : Value) = .int .i64 i40_) ∧ (Imp (.l 1 eStr xs) (.l 1 eStr xs_)) ∧ K39
theorem un8_0 (a : List ByteArray) (k : Int) (i : Nat × (Int × Int × List ByteArray)) (h : Qhy a k i) : lH8_0 a k i (i.1 - 1) i.2.1 i.2.2.1 i.2.2.2 := ⟨hd1 h.1 h.2.1, hd3 h.2.1, hd2 h.2.1, h.2.2⟩
theorem bk8_0 (a : List ByteArray) (k : Int) (i : Nat × (Int × Int × List ByteArray)) (m39 : Nat) (k400 : Int) (i40 : Int) (xs : List ByteArray) (hl : m39 < i.1) (e : runL (Wx a k) m39 (k400, i40, xs) = lX8_0 a k) (h : Qxk a m39 k400 i40 xs) : ∃ j : Nat × (Int × Int × List ByteArray), lE8_0 k400 i40 xs j.2.1 j.2.2.1 j.2.2.2 (Qhy a k j ∧ j.1 < i.1) := ⟨(m39, (k400, i40, xs)), rfl, rfl, Imp.refl _, ⟨e, h⟩, hl⟩
theorem en8_0 (a : List ByteArray) (k : Int) (h : (0 : Int) ≤ k ∧ k + ((a.length : Int) - 0) ≤ 1000000000 ∧ (0 : Int) ≤ 0 ∧ a.length = a.length) : lE8_0 k 0 a k 0 a (Qhy a k (Qij a k)) := ⟨rfl, rfl, Imp.refl _, rfl, Nat.lt_succ_self _, h⟩
theorem fi8 (a : List ByteArray) (k : Int) (r : Int × List ByteArray) (hF : r = (F8 a k)) : ((.int .i64 r.1 : Value) = .int .i64 ((F8 a k).1)) ∧ (Imp (.l 1 eStr r.2) (.l 1 eStr ((F8 a k).2))) ∧ True := by cases hF; exact ⟨rfl, Imp.refl _, trivial⟩
def S8 (a : List ByteArray) (k : Int) : Spec := ⟨[.ow (.l 1 eStr a) (some (.l 1 eStr ((F8 a k).2))), .r (.c (.v (vI k)))], .v (vI ((F8 a k).1)), 0 ≤ k ∧ k + (a.length : Int) ≤ 1000000000⟩
theorem ok8 (a : List ByteArray) (k : Int) : (S8 a k).ok Tryz.prog 8 :=
 Qj mixed (fn := Tryz.f8) (ct := .seqk [(0, 0)] .no (.seq (.seqk [(0, 0)] .no (.blk (.loop (ι := Nat × (Int × Int × List ByteArray)) (fun i => (fun (k400 : Int) (i40 : Int) (xs : List ByteArray) => (⟨[(0, some (.h 0 0)), (1, some (.v (vI k400))), (5, some (.v (vI i40)))], [(0, some (.own 0 (.l 1 eStr xs)))], 1⟩ : St)) i.2.1 i.2.2.1 i.2.2.2) (Qhy a k) (fun i => i.1) (Qij a k) (fun i => (fun (k400 : Int) (i40 : Int) (xs : List ByteArray) => (.seq (.seq .no (.cond .no .no)) (.seq (.blk (.seq (.reg [(3, kh18 k400), (5, .dat (.l 1 eStr (xs.set (i40).toNat (F18 k400))))]) (.reg [(1, .bnd)]))) (.reg [(1, .bnd)])))) i.2.1 i.2.2.1 i.2.2.2)))) (.seq .no .no))) Tryz.func8 (fun (hp : 0 ≤ k ∧ k + (a.length : Int) ≤ 1000000000) => have hpre0 := hp.1; have hpre1 := hp.2; kn a fun _ => kn a fun _ => ai (en8_0 a k (by refine ⟨?_, ?_, ?_, ?_⟩ <;> first | omega | (simp only [lens, ib] at * <;> omega))) (fun (i0 : Nat × (Int × Int × List ByteArray)) (hi0 : Qhy a k i0) => (fun (m0 : Nat) (k400 : Int) (i40 : Int) (xs : List ByteArray) (hh0 : lH8_0 a k i0 m0 k400 i40 xs) => have hI0 := hh0.1; have hl0 := hh0.2.1; have _ := hh0.2.2.1; have _ := hh0.2.2.2; ifd (i40 < (xs.length : Int)) (fun h2 _ => kc18 k400 (by first | omega | (simp only [lens, ib] at * <;> omega)) (ai (by first | omega | (simp only [lens, ib] at * <;> omega) : ib i40 xs) (ai (setr 1 eStr xs (i40).toNat (F18 k400)) (ai (iok (k400 + 1) (by first | omega | (simp only [lens, ib] at * <;> omega))) (ai (iok (i40 + 1) (by first | omega | (simp only [lens, ib] at * <;> omega))) (bk8_0 a k i0 m0 (k400 + 1) (i40 + 1) (xs.set (i40).toNat (F18 k400)) hl0 (Qd hI0 (condT h2 rfl)) (by refine ⟨?_, ?_, ?_, ?_, ?_⟩ <;> first | omega | (simp only [lens, ib] at * <;> omega)))))))) (fun h2 _ => have hD0_3 : lX8_0 a k = Lp.done (k400, i40, xs) := Qk hI0 (condF h2 rfl); fi8 a k (k400, xs) (finD hD0_3 rfl))) (i0.1 - 1) i0.2.1 i0.2.2.1 i0.2.2.2 (un8_0 a k i0 hi0))) (by kernel_rfl)
theorem g8_0 (a : List ByteArray) (k : Int) : (F8 a k).2.length = a.length := by
 have h := Zp (step := Wx a k) (fun i (s : Int × List ByteArray) => (s.1, (i : Int), s.2)) a.length (fun _ s => s.2.length = a.length) (fun _ => False) (fun i s hi hs => .inl ⟨(s.1 + 1, s.2.set i (F18 s.1)), by simp only [Wx, hs, decide_eq_true (show (i : Int) < (a.length : Int) by omega), cond_true, Int.toNat_natCast]; rfl, by simpa using hs⟩) (fun s hs => by simp only [Wx, hs, decide_eq_false (show ¬ (a.length : Int) < (a.length : Int) by omega), cond_false]) a.length 0 (k, a) (by omega) rfl (Int.toNat ((a.length : Int) - 0) + 1) (by omega)
 show ((runL (Wx a k) (Int.toNat ((a.length : Int) - 0) + 1) (k, 0, a)).fin (fun r => r) (fun (k400, i40, xs) => (k400, xs))).2.length = a.length
 rcases h with ⟨s, e, hs⟩ | ⟨r, _, hr⟩
 ·rw [show (k, (0 : Int), a) = ((k, a).1, ((0 : Nat) : Int), (k, a).2) from rfl, e]; exact hs
 ·exact hr.elim
def Nr (a : List ByteArray) (k : Int) : (Int × Int) → Lp (Int × Int) Int := fun (k400, i40) =>
 bif (decide (i40 < (a.length : Int))) then (bif (!((a.getD (Int.toNat i40) default).toList == (F18 k400).toList)) then (.ret (-1)) else (.next ((k400 + 1), (i40 + 1)))) else (.done (k400, i40))
def F9 (a : List ByteArray) (k : Int) : Int :=
 (runL (Nr a k) ((Int.toNat ((a.length : Int) - 0)) + 1) (k, 0)).fin (fun r => r) (fun (k400, i40) => k400)
abbrev Qgw (a : List ByteArray) (k : Int) : Nat × (Int × Int) := (((Int.toNat ((a.length : Int) - 0)) + 1), (k, 0))
abbrev Qul (a : List ByteArray) (m39 : Nat) (k400 : Int) (i40 : Int) : Prop := Int.toNat ((a.length : Int) - i40) < m39 ∧ (0 : Int) ≤ k400 ∧ k400 + ((a.length : Int) - i40) ≤ 1000000000 ∧ (0 : Int) ≤ i40
abbrev lX9_0 (a : List ByteArray) (k : Int) : Lp (Int × Int) Int := LpX (Nr a k) (Qgw a k)
abbrev Qjh (a : List ByteArray) (k : Int) (i : Nat × (Int × Int)) : Prop := LpJ (Nr a k) (Qgw a k) i (Qul a i.1 i.2.1 i.2.2)
abbrev lH9_0 (a : List ByteArray) (k : Int) (i : Nat × (Int × Int)) (m39 : Nat) (k400 : Int) (i40 : Int) : Prop := LpH (Nr a k) (Qgw a k) i m39 (k400, i40) (Qul a (m39 + 1) k400 i40)
abbrev lE9_0 (a : List ByteArray) (k400 : Int) (i40 : Int) (k400_ : Int) (i40_ : Int) (K39 : Prop) : Prop := ((.int .i64 k400 : Value) = .int .i64 k400_) ∧ ((.int .i64 i40 : Value) = .int .i64 i40_) ∧ (Im (.l 1 eStr a)) ∧ K39
theorem un9_0 (a : List ByteArray) (k : Int) (i : Nat × (Int × Int)) (h : Qjh a k i) : lH9_0 a k i (i.1 - 1) i.2.1 i.2.2 := ⟨hd1 h.1 h.2.1, hd3 h.2.1, hd2 h.2.1, h.2.2⟩
theorem bk9_0 (a : List ByteArray) (k : Int) (i : Nat × (Int × Int)) (m39 : Nat) (k400 : Int) (i40 : Int) (hl : m39 < i.1) (e : runL (Nr a k) m39 (k400, i40) = lX9_0 a k) (h : Qul a m39 k400 i40) : ∃ j : Nat × (Int × Int), lE9_0 a k400 i40 j.2.1 j.2.2 (Qjh a k j ∧ j.1 < i.1) := ⟨(m39, (k400, i40)), rfl, rfl, Imp.refl _, ⟨e, h⟩, hl⟩
theorem en9_0 (a : List ByteArray) (k : Int) (h : (0 : Int) ≤ k ∧ k + ((a.length : Int) - 0) ≤ 1000000000 ∧ (0 : Int) ≤ 0) : lE9_0 a k 0 k 0 (Qjh a k (Qgw a k)) := ⟨rfl, rfl, Imp.refl _, rfl, Nat.lt_succ_self _, h⟩
def S9 (a : List ByteArray) (k : Int) : Spec := ⟨[.r (.c (.l 1 eStr a)), .r (.c (.v (vI k)))], .v (vI (F9 a k)), 0 ≤ k ∧ k + (a.length : Int) ≤ 1000000000⟩
theorem ok9 (a : List ByteArray) (k : Int) : (S9 a k).ok Tryz.prog 9 :=
 Qj mixed (fn := Tryz.f9) (ct := .seqk [(0, 0)] .no (.seq (.seqk [(0, 0)] .no (.blk (.loop (ι := Nat × (Int × Int)) (fun i => (fun (k400 : Int) (i40 : Int) => (⟨[(0, some (.h 0 0)), (1, some (.v (vI k400))), (5, some (.v (vI i40)))], [(0, some (.shr none (.l 1 eStr a)))], 1⟩ : St)) i.2.1 i.2.2) (Qjh a k) (fun i => i.1) (Qgw a k) (fun i => (fun (k400 : Int) (i40 : Int) => (.seq (.seq .no (.cond .no .no)) (.seq (.blk (.seq (.seq (.reg [(5, kh18 k400)]) (.cond (.seq .no .no) .no)) (.reg [(1, .bnd)]))) (.reg [(1, .bnd)])))) i.2.1 i.2.2)))) (.seq .no .no))) Tryz.func9 (fun (hp : 0 ≤ k ∧ k + (a.length : Int) ≤ 1000000000) => have hpre0 := hp.1; have hpre1 := hp.2; kn a fun _ => kn a fun _ => ai (en9_0 a k (by refine ⟨?_, ?_, ?_⟩ <;> omega)) (fun (i0 : Nat × (Int × Int)) (hi0 : Qjh a k i0) => (fun (m0 : Nat) (k400 : Int) (i40 : Int) (hh0 : lH9_0 a k i0 m0 k400 i40) => have hI0 := hh0.1; have hl0 := hh0.2.1; have _ := hh0.2.2.1; have _ := hh0.2.2.2; ifd (i40 < (a.length : Int)) (fun h2 _ => ai (by omega : ib i40 a) (kc18 k400 (by omega) (ifb (!((a.getD (Int.toNat i40) default).toList == (F18 k400).toList)) (fun h3 => fiI (-1) (F9 a k) (finR (Qr hI0 (condT h2 (condT h3 rfl))) rfl)) (fun h3 => ai (iok (k400 + 1) (by omega)) (ai (iok (i40 + 1) (by omega)) (bk9_0 a k i0 m0 (k400 + 1) (i40 + 1) hl0 (Qd hI0 (condT h2 (condF h3 rfl))) (by refine ⟨?_, ?_, ?_, ?_⟩ <;> omega))))))) (fun h2 _ => have hD0_4 : lX9_0 a k = Lp.done (k400, i40) := Qk hI0 (condF h2 rfl); fiI k400 (F9 a k) (finD hD0_4 rfl))) (i0.1 - 1) i0.2.1 i0.2.2 (un9_0 a k i0 hi0))) (by kernel_rfl)
theorem mk8 : Mk F8 F9 (sumL (fun _ => 1)) :=
 Qrp (fun (x : ByteArray) (k : Int) => ((k + 1), (F18 k))) (fun (x : ByteArray) (k : Int) => (bif (!(x.toList == (F18 k).toList)) then (-1) else (k + 1))) (fun _ => 1)
  (fun x k h0 h1 => by
   simp (discharger := omega) only [Yu, bne_self_eq_false, beq_self_eq_true, cond_false, cond_true, Bool.not_true, Bool.not_false, neg_lt, and_self] <;> omega)
  F8 F9 Wx Nr (fun a k => rfl) (fun a k0 k i xs => rfl) (fun a k => rfl)
  (fun a k0 k i hi h0 hh => by
   obtain ⟨c0, hh⟩ := Ubq hh
   simp only [Nr, decide_eq_true hi, cond_true, c0, cond_false])
  (fun a k0 k => by simp only [Nr, geD, cond_false])
theorem mk8a (x : List ByteArray) (k : Int) (h0 : 0 ≤ k) (h1 : k + ((sumL (fun _ => 1)) x : Int) < 9223372036854775807) : (F8 x k).1 = k + (sumL (fun _ => 1)) x := (mk8 x k h0 h1).1
theorem mk8b (x : List ByteArray) (k : Int) (h0 : 0 ≤ k) (h1 : k + ((sumL (fun _ => 1)) x : Int) < 9223372036854775807) : F9 (F8 x k).2 k = k + (sumL (fun _ => 1)) x := (mk8 x k h0 h1).2
theorem Qsk (a : List ByteArray) (k : Int) : (F8 a k).1 = k + (a.length : Int) := by
 have h := Zp (step := Wx a k) (fun i (s : Int × List ByteArray) => (s.1, (i : Int), s.2)) a.length (fun i s => s.2.length = a.length ∧ s.1 = k + (i : Int)) (fun _ => False) (fun i s hi hs => .inl ⟨(s.1 + 1, s.2.set i (F18 s.1)), by simp only [Wx, hs.1, decide_eq_true (show (i : Int) < (a.length : Int) by omega), cond_true, Int.toNat_natCast]; rfl, by
   refine ⟨by simpa using hs.1, ?_⟩
   have := hs.2
   show s.1 + 1 = k + ((i + 1 : Nat) : Int)
   omega⟩) (fun s hs => by simp only [Wx, hs.1, decide_eq_false (show ¬ (a.length : Int) < (a.length : Int) by omega), cond_false]) a.length 0 (k, a) (by omega) ⟨rfl, by simp⟩ (Int.toNat ((a.length : Int) - 0) + 1) (by omega)
 show ((runL (Wx a k) (Int.toNat ((a.length : Int) - 0) + 1) (k, 0, a)).fin (fun r => r) (fun (k400, i40, xs) => (k400, xs))).1 = k + (a.length : Int)
 rcases h with ⟨s, e, hs⟩ | ⟨r, _, hr⟩
 ·rw [show (k, (0 : Int), a) = ((k, a).1, ((0 : Nat) : Int), (k, a).2) from rfl, e]; exact hs.2
 ·exact hr.elim
theorem Hu {α : Type} : ∀ l : List α, sumL (fun _ => 1) l = l.length
 | [] => rfl
 | a :: l => by
  rw [Jx, Hu l, List.length_cons]
  omega
theorem marked (w : List ByteArray) (h : w.length ≤ 1000000) : F9 (F8 w 1).2 1 = 1 + (w.length : Int) ∧ (F8 w 1).1 = 1 + (w.length : Int) := by
 have h1 := mk8a w 1 (by omega) (by rw [Hu]; omega)
 have h2 := mk8b w 1 (by omega) (by rw [Hu]; omega)
 rw [Hu] at h1 h2
 exact ⟨h2, h1⟩
theorem Qfl {xs : List ByteArray} {n : Nat} (h : ∀ k : Nat, (xs.getD k default).size ≤ n) {x : ByteArray} (hx : x ∈ xs) : x.size ≤ n := by
 obtain ⟨k, hk, rfl⟩ := Vb hx
 exact h k
theorem Hv {xs : List ByteArray} {n : Nat} (h : ∀ x ∈ xs, x.size ≤ n) (k : Nat) : (xs.getD k default).size ≤ n := by
 rw [List.getD_eq_getElem?_getD]
 cases hx : xs[k]? with
 | none => exact Nat.zero_le n
 | some x => exact h x (List.mem_of_getElem? hx)
theorem Qgk (xs : List ByteArray) (i : Nat) (h : i < xs.length) : xs.drop i = xs.getD i default :: xs.drop (i + 1) := by
 rw [List.drop_eq_getElem_cons h, List.getD_eq_getElem?_getD, List.getElem?_eq_getElem h]; rfl
theorem Qjc (s : ByteArray) (a : Int) : 1 ≤ (F19 s a).length ∧ (F19 s a).length ≤ s.size + 1 := by
 obtain ⟨c, e⟩ := Qhi s a
 rw [e, ← Br]
 exact ⟨Hh s _ (Nat.le_refl 1), Bs s _ (Nat.le_refl 1)⟩
theorem Qzg (s : ByteArray) (a : Int) : 1 ≤ (F19 s a).length := (Qjc s a).1
theorem Yz (line : ByteArray) : (F21 line).1.size ≤ 1048576 := by
 unfold F21
 rw [Xb, ← Ww]
 cases (bif (!((F14 line).2)) then true else (!(F51 ((F14 line).1)))) with
 | true => exact Nat.zero_le _
 | false =>
  have h := Qnz (F14 line).1 (⟨#[32]⟩ : ByteArray) 24 (Tk line)
  have hl := Me line
  have h2 : (F14 line).1.length * (24 + (⟨#[32]⟩ : ByteArray).size) ≤ 8 * 25 := Nat.mul_le_mul_right 25 hl
  show (Ye (F14 line).1 (⟨#[32]⟩ : ByteArray)).size ≤ 1048576
  omega
theorem Pb (line : ByteArray) : (F39 line).1.size ≤ 1048576 := by
 rw [My]; exact Yz line
end Go.Proofs.YtbaholefcgacpaaGreatDoor
