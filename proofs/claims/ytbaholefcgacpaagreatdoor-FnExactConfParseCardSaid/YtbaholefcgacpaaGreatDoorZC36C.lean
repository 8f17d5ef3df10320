/- A part of the proof of FnExactConfParse. Texts put together: MT, MY, MYB, MP, MX, LY, DEC, VC0, PS1, VC1, PS2, VC2, PS3, PS4, VF0, PF0, VF1, VF2, PN1, PN2, PN3, PN4, PA1. -/
import Derived.Shelf.Strings.Cut
import Derived.Shelf.Strings.Split
import Derived.Shelf.Strings.OnBuilder
import Derived.Shelf.Slices.In.SortAlone
import Derived.Shelf.Slices.In.SortNone
import Derived.Sort.EveryDepth
import Derived.Test.YtbaholefcgacpaaGreatDoorRows
import Derived.Shelf.LaysM
import Derived.Shelf.Strconv.AtoiAll
import Derived.Shelf.Strconv.Itoa3
import Derived.WalkKit
import Derived.BigCall
import Derived.BigGuard
import Derived.Lib.Walk
import Derived.Lib.Hide
import Derived.Lib.IndexBytes
import Derived.Lib.SplitLaws
import Derived.Lib.CutLaws
import Derived.Lib.AtoiAll
import Derived.Lib.ItoaNum
import Derived.Test.YtbaholefcgacpaaGreatDoorZC36B
namespace Go.Proofs.YtbaholefcgacpaaGreatDoor
open Go.RowKit
set_option maxRecDepth 100000
set_option linter.unusedVariables false
set_option linter.unusedSimpArgs false
def first (p : Nat → Bool) (n : Nat) : Option Nat := (List.range n).find? p
theorem first_some {p : Nat → Bool} {n k : Nat} : first p n = some k ↔ k < n ∧ p k = true ∧ ∀ j, j < k → p j = false := by
 unfold first
 rw [List.find?_range_eq_some]
 constructor
 ·rintro ⟨h1, h2, h3⟩
  exact ⟨by simpa using h2, h1, fun j hj => by simpa using h3 j hj⟩
 ·rintro ⟨h1, h2, h3⟩
  exact ⟨h2, by simpa using h1, fun j hj => by simpa using h3 j hj⟩
theorem first_none {p : Nat → Bool} {n : Nat} : first p n = none ↔ ∀ k, k < n → p k = false := by
 unfold first
 rw [List.find?_range_eq_none]
 simp
theorem search {ρ τ : Type} (p : Nat → Bool) (r : Nat → ρ) (n : Nat) (step : Int → Lp Int ρ) (hs : ∀ k : Nat, k < n → step (k : Int) = bif p k then .ret (r k) else .next ((k : Int) + 1)) (he : step (n : Int) = .done (n : Int)) (f : ρ → τ) (g : Int → τ) :
  (runL step ((Int.toNat ((n : Int) - 0)) + 1) 0).fin f g = match first p n with | some k => f (r k) | none => g n := by
 have h := Zp (step := step) (fun (k : Nat) (_ : Unit) => (k : Int)) n (fun k _ => ∀ j, j < k → p j = false) (fun x => ∃ k, first p n = some k ∧ x = r k)
  (fun k _ hk hI => by
   cases hp : p k with
   | false =>
    refine .inl ⟨(), by rw [hs k hk, hp]; rfl, fun j hj => ?_⟩
    rcases Nat.lt_succ_iff_lt_or_eq.1 hj with h | rfl
    ·exact hI j h
    ·exact hp
   | true => exact .inr ⟨r k, by rw [hs k hk, hp]; rfl, k, first_some.2 ⟨hk, hp, hI⟩, rfl⟩)
  (fun _ _ => he) n 0 () (by omega) (fun j hj => by omega) (n + 1) (Nat.lt_succ_self _)
 rw [n0]
 rcases h with ⟨_, h, hI⟩ | ⟨x, h, k, hk, rfl⟩
 ·have h : runL step (n + 1) 0 = .done (n : Int) := h
  rw [h, first_none.2 hI]; rfl
 ·have h : runL step (n + 1) 0 = .ret (r k) := h
  rw [h, hk]; rfl
def oix : Option Nat → Int
 | some k => (k : Int)
 | none => -1
theorem oix_lt {p : Nat → Bool} {n : Nat} : oix (first p n) < (n : Int) := by
 cases h : first p n with
 | none => simp only [oix]; omega
 | some k => have := (first_some.1 h).1; simp only [oix]; omega
theorem oix_neg {o : Option Nat} : oix o < 0 ↔ o = none := by
 cases o with
 | none => simp [oix]
 | some k => simp [oix]
theorem Qsq {o : Option Nat} (h : ¬ oix o < 0) : o = some (oix o).toNat := by
 cases o with
 | none => exact absurd (by decide) h
 | some k => simp [oix]
def idxI {α : Type} [Inhabited α] (p : α → Bool) (xs : List α) : Int := oix (first (fun k => p (xs.getD k default)) xs.length)
theorem Wl {α : Type} [Inhabited α] (p : α → Bool) (xs : List α) (step : Int → Lp Int Int)
  (hs : ∀ i, step i = bif decide (i < (xs.length : Int)) then (bif p (xs.getD (Int.toNat i) default) then .ret i else .next (i + 1)) else .done i) :
  (runL step ((Int.toNat ((xs.length : Int) - 0)) + 1) 0).fin (fun r => r) (fun _ => -1) = idxI p xs := by
 rw [search (fun k => p (xs.getD k default)) (fun k => (k : Int)) xs.length step (fun k hk => by rw [hs, ltD hk, nn]; rfl) (by rw [hs, geD]; rfl)]
 unfold idxI
 all_goals (cases first (fun k => p (xs.getD k default)) xs.length <;> rfl)
theorem Lg {α : Type} [Inhabited α] (p : α → Bool) (xs : List α) : decide (idxI p xs ≥ 0) = xs.any p := by
 rw [Bool.eq_iff_iff, decide_eq_true_eq, List.any_eq_true]
 constructor
 ·intro h
  have h' : ¬ idxI p xs < 0 := by omega
  have h2 := first_some.1 (Qsq h')
  exact ⟨_, Ku xs h2.1, h2.2.1⟩
 ·rintro ⟨x, hx, hp⟩
  obtain ⟨k, hk, rfl⟩ := Vb hx
  rcases Int.lt_or_le (idxI p xs) 0 with h | h
  ·have := first_none.1 (oix_neg.1 h) k hk
   simp only [hp] at this
   cases this
  ·exact h
theorem Li {α : Type} [Inhabited α] (p : α → Bool) (xs : List α) : idxI p xs < (xs.length : Int) := oix_lt
theorem beqD (a b : Int) : (a == b) = decide (a = b) := by
 by_cases h : a = b <;> simp [h]
theorem Qce {α : Type} (xs : List α) {i : Nat} (a : α) (h : i < xs.length) : (xs.set i a).take (i + 1) = xs.take i ++ [a] := by
 rw [List.take_add_one, List.take_set_of_le (Nat.le_refl _), List.getElem?_set_self h]; rfl
theorem Kg {α : Type} [Inhabited α] (p : α → Bool) (s : List α) {k : Nat} (h : k < s.length) : (s.take (k + 1)).filter p = (s.take k).filter p ++ (if p (s.getD k default) then [s.getD k default] else []) := by
 rw [Nh h, List.filter_append]
 congr 1
 simp only [List.filter_cons, List.filter_nil]
theorem Qgq {α : Type} [Inhabited α] (del : α → Bool) (s : List α) (z : α) (step : Int × Int × List α → Lp (Int × Int × List α) (List α))
  (hs : ∀ i j xs, step (i, j, xs) = bif decide (j < (xs.length : Int)) then (bif (!(del (xs.getD (Int.toNat j) default))) then .next (i + 1, j + 1, xs.set (Int.toNat i) (xs.getD (Int.toNat j) default)) else .next (i, j + 1, xs)) else .done (i, j, xs)) :
  (bif (idxI del s == (-1)) then s else (((runL step ((Int.toNat ((s.length : Int) - (idxI del s + 1))) + 1) (idxI del s, idxI del s + 1, s)).fin Lp.ret (fun x => (Lp.done (x.2.2, x.1) : Lp (List α × Int) (List α)))).fin (fun r => r) (fun x => ((x.1.take (Int.toNat x.2) ++ List.replicate (x.1.drop (Int.toNat x.2)).length z ++ x.1.drop (Int.toNat x.2 + (x.1.drop (Int.toNat x.2)).length)).take (Int.toNat x.2))))) = s.filter (fun x => !(del x)) := by
 unfold idxI
 cases e : first (fun k => del (s.getD k default)) s.length with
 | none =>
  have hn := first_none.1 e
  have e1 : (oix (none : Option Nat) == (-1 : Int)) = true := rfl
  rw [e1, cond_true]
  symm
  refine List.filter_eq_self.2 fun x hx => ?_
  obtain ⟨k, hk, rfl⟩ := Vb hx
  simpa using hn k hk
 | some k0 =>
  obtain ⟨h1, h2, h3⟩ := first_some.1 e
  have e1 : (oix (some k0) == (-1 : Int)) = false := by rw [beqD]; exact decide_eq_false (by simp only [oix]; omega)
  rw [e1, cond_false]
  simp only [oix]
  have hpre : (s.take (k0 + 1)).filter (fun x => !(del x)) = s.take k0 := by
   rw [Kg _ _ h1]
   simp only [h2, Bool.not_true, Bool.false_eq_true, if_false, List.append_nil]
   refine List.filter_eq_self.2 fun x hx => ?_
   obtain ⟨k, hk, rfl⟩ := List.mem_iff_getElem.1 hx
   have hk' : k < k0 := by simp at hk; omega
   have := h3 k hk'
   rw [Kl s (by omega)] at this
   simpa using this
  have h := Zp (step := step) (fun (k : Nat) (x : Nat × List α) => ((x.1 : Int), (k : Int), x.2)) s.length
   (fun k x => x.1 < k ∧ x.2.length = s.length ∧ x.2.take x.1 = (s.take k).filter (fun x => !(del x)) ∧ ∀ m, k ≤ m → x.2.getD m default = s.getD m default) (fun _ => False)
   (fun k x hk ⟨g1, g2, g3, g4⟩ => by
    obtain ⟨i, xs⟩ := x
    simp only at g1 g2 g3 g4
    have hx := g4 k (Nat.le_refl _)
    cases hd : del (s.getD k default) with
    | false =>
     refine .inl ⟨(i + 1, xs.set i (s.getD k default)), ?_, by simp only; omega, by simp [g2], ?_, fun m hm => ?_⟩
     ·rw [hs, g2, ltD hk, nn, hx, hd]
      simp only [cond_true, Bool.not_false, nn]
      rfl
     ·simp only
      rw [Qce xs _ (by omega), g3, Kg _ _ hk, hd]
      rfl
     ·simp only
      rw [List.getD_eq_getElem?_getD, List.getElem?_set_ne (by omega), ← List.getD_eq_getElem?_getD]
      exact g4 m (by omega)
    | true =>
     refine .inl ⟨(i, xs), ?_, by simp only; omega, g2, ?_, fun m hm => g4 m (by omega)⟩
     ·rw [hs, g2, ltD hk, nn, hx, hd]
      simp only [cond_true, Bool.not_true, cond_false]
      rfl
     ·simp only
      rw [g3, Kg _ _ hk, hd]
      simp)
   (fun x ⟨_, g2, _, _⟩ => by rw [hs, g2, geD]; rfl) (s.length - (k0 + 1)) (k0 + 1) (k0, s) (by omega) ⟨Nat.lt_succ_self _, rfl, hpre.symm, fun _ _ => rfl⟩ (s.length - (k0 + 1) + 1) (Nat.lt_succ_self _)
  have ef : Int.toNat ((s.length : Int) - ((k0 : Int) + 1)) = s.length - (k0 + 1) := by omega
  rw [ef]
  rcases h with ⟨⟨i, xs⟩, h, g1, g2, g3, g4⟩ | ⟨_, _, h⟩
  ·have h : runL step (s.length - (k0 + 1) + 1) ((k0 : Int), (k0 : Int) + 1, s) = .done ((i : Int), (s.length : Int), xs) := h
   simp only at g1 g2 g3
   rw [h]
   simp only [Lp.fin, nn]
   rw [List.take_length] at g3
   rw [← g3, List.append_assoc, List.take_append_of_le_length (by simp; omega), List.take_take, Nat.min_self]
  ·exact h.elim
def RdAll (S : Nat → Prop) (w : World) : List (Value × Dat) → Prop
 | [] => True
 | p :: r => RdV S w p.2 p.1 ∧ RdAll S w r
theorem RdAll.mono {S S' : Nat → Prop} {w w' : World} (hs : ∀ b, S b → S' b ∧ w'.heap[b]? = w.heap[b]?) : ∀ {ds : List (Value × Dat)}, RdAll S w ds → RdAll S' w' ds
 | [], _ => trivial
 | p :: r, h => ⟨RdV.mono hs p.2 p.1 h.1, RdAll.mono hs h.2⟩
def LX (ds : List (Value × Dat)) : FX where
 rd S w y := y.oneCell' = true ∧ RdAll S w ds
 ow w y fp := (y.oneCell' = true ∧ RdAll (· ∈ fp) w ds) ∧ fp.Nodup ∧ ∀ b ∈ fp, b < w.heap.size
 mono S S' w w' y hs h := ⟨h.1, h.2.mono hs⟩
 one S w y h := h.1
 keep w w' y fp hk h := ⟨⟨h.1.1, h.1.2.mono fun b hb => ⟨hb, hk b hb⟩⟩, h.2.1, fun b hb => Gq (h.2.2 b hb) (hk b hb)⟩
 lt w y fp h := h.2.2
 nd w y fp h := h.2.1
 rdo w y fp h := h.1
def BX (s : ByteArray) (n : Nat) : FX where
 rd S w y := y = .string s ∧ s.size ≤ n
 ow w y fp := (y = .string s ∧ s.size ≤ n) ∧ fp = []
 mono S S' w w' y hs h := h
 one S w y h := by rw [h.1]; rfl
 keep w w' y fp hk h := h
 lt w y fp h b hb := by rw [h.2] at hb; cases hb
 nd w y fp h := by rw [h.2]; exact List.nodup_nil
 rdo w y fp h := h.1
theorem Imp.bx {s : ByteArray} {n : Nat} (h : s.size ≤ n) : Imp (.v (.string s)) (.x (BX s n)) := ⟨fun S w y hy => ⟨hy.1, h⟩, fun w y fp hy => ⟨⟨hy.1, h⟩, hy.2.2⟩⟩
theorem Qco {P : Program} {f : FuncId} {i : ByteArray} {n : Nat} {cap : List Arg} {r : RT} {D : Bool} (h : Spec.ok P f ⟨.r (.c (.v (.string i))) :: cap, r, i.size ≤ n⟩ D) : Spec.ok P f ⟨.r (.c (.x (BX i n))) :: cap, r, True⟩ D := by
 intro _ S w vs fp hS hG ha
 obtain ⟨u, us, f1, g1, rfl, ⟨h1, h1'⟩, h2, rfl, h3⟩ := ha
 obtain ⟨rfl, hn⟩ : u = .string i ∧ i.size ≤ n := h1
 have := h hn S w (.string i :: us) (f1 ++ g1) hS hG ⟨_, us, f1, g1, rfl, ⟨⟨rfl, rfl⟩, h1'⟩, h2, rfl, h3⟩
 refine this.mono fun e w' ⟨rv, fr, fb, e1, e2, e3, e4⟩ => ⟨rv, fr, fb, e1, e2, ?_, e4⟩
 obtain ⟨u', us', f', g', k1, k2, k3, k4⟩ := e3
 simp only [List.cons.injEq] at k1
 obtain ⟨rfl, rfl⟩ := k1
 exact ⟨_, _, f', g', rfl, k2, k3, k4⟩
def PX (d : Dat) (Q : Prop) : FX where
 rd S w y := RdV S w d y ∧ Q
 ow w y fp := OwV w d y fp ∧ Q
 mono S S' w w' y hs h := ⟨RdV.mono hs d y h.1, h.2⟩
 one S w y h := h.1.one
 keep w w' y fp hk h := ⟨OwV.keep d y fp hk h.1, h.2⟩
 lt w y fp h := OwV.lt d y fp h.1
 nd w y fp h := h.1.nd
 rdo w y fp h := ⟨OwV.rd d y fp h.1, h.2⟩
theorem Imp.px {d : Dat} {Q : Prop} (h : Q) : Imp d (.x (PX d Q)) := ⟨fun S w y hy => ⟨hy, h⟩, fun w y fp hy => ⟨hy, h⟩⟩
def pxH : List Dat → Prop → List Dat
 | [], _ => []
 | d :: ds, Q => .x (PX d Q) :: ds
theorem Imps.pxH {ds : List Dat} {Q : Prop} (h : Q) : Imps ds (pxH ds Q) := by
 cases ds with
 | nil => trivial
 | cons d ds => exact ⟨Imp.px h, Imps.refl ds⟩
theorem Qyh {P : Program} {f : FuncId} {a b : RA} {Q : Prop} {cap : List Arg} {r : RT} {D : Bool} (hab : ∀ S w v, Qpa S w b v → Qpa S w a v ∧ Q) (h : Spec.ok P f ⟨.r a :: cap, r, Q⟩ D) : Spec.ok P f ⟨.r b :: cap, r, True⟩ D := by
 intro _ S w vs fp hS hG ha
 obtain ⟨u, us, f1, g1, rfl, ⟨h1, h1'⟩, h2, rfl, h3⟩ := ha
 obtain ⟨k1, hn⟩ := hab S w u h1
 have := h hn S w (u :: us) (f1 ++ g1) hS hG ⟨_, us, f1, g1, rfl, ⟨k1, h1'⟩, h2, rfl, h3⟩
 refine this.mono fun e w' ⟨rv, fr, fb, e1, e2, e3, e4⟩ => ⟨rv, fr, fb, e1, e2, ?_, e4⟩
 obtain ⟨u', us', f', g', k1, k2, k3, k4⟩ := e3
 simp only [List.cons.injEq] at k1
 obtain ⟨rfl, rfl⟩ := k1
 exact ⟨_, _, f', g', rfl, k2, k3, k4⟩
theorem Vk {P : Program} {f : FuncId} {d : Dat} {Q : Prop} {cap : List Arg} {r : RT} {D : Bool} (h : Spec.ok P f ⟨.r (.c d) :: cap, r, Q⟩ D) : Spec.ok P f ⟨.r (.c (.x (PX d Q))) :: cap, r, True⟩ D :=
 Qyh (a := .c d) (Q := Q) (fun S w v hv => hv) h
theorem Uat {P : Program} {f : FuncId} {d : Dat} {ds : List Dat} {Q : Prop} {cap : List Arg} {r : RT} {D : Bool} (h : Spec.ok P f ⟨.r (.g (d :: ds)) :: cap, r, Q⟩ D) : Spec.ok P f ⟨.r (.g (pxH (d :: ds) Q)) :: cap, r, True⟩ D :=
 Qyh (fun S w v hv => by
  obtain ⟨vs, e, u, us, rfl, h1, h2⟩ := hv
  exact ⟨⟨_, e, u, us, rfl, h1.1, h2⟩, h1.2⟩) h
def toSV : Value → SV
 | .slice a n c => ⟨a, n, c⟩
 | _ => default
theorem RdV.at_sv {S : Nat → Prop} {w : World} {d : Dat} {v : Value} {x : SV} (e : v = sv x) (h : RdV S w d v) : RdV S w d (sv x) := e ▸ h
theorem row3 {S : Nat → Prop} {w : World} {a b c : Value} {d : Dat} (h : RdV S w d c) : ∀ cs, RdVs S w [.v a, .v b, .v c] cs → RdVs S w [.v a, .v b, d] cs := fun cs hc => by
 obtain ⟨u, us, rfl, h1, v, vs, rfl, h2, x, xs, rfl, h3, rfl⟩ := hc
 obtain ⟨rfl, _⟩ := h3
 exact ⟨u, _, rfl, h1, v, _, rfl, h2, _, _, rfl, h, rfl⟩
section
variable {P : Program} {N : Nat} {fs fs' : Nat → Option Fact} {β : Nat → Nat → Value} {φ φ' : Nat → List Nat} {dom ψ IN : Nat → Prop} {w0 w : World}
theorem Rel.pack (R : Rel P fs β φ dom ψ IN w0 w) (src : Nat → List Nat)
  (hok : ∀ X f, fs' X = some f → dom X ∧ Kw P fs' β φ' dom ψ w X f)
  (hsrc : ∀ X f, fs' X = some f → f.mod = true → ∀ b ∈ φ' X, ∃ Y ∈ src X, (∃ g, fs Y = some g ∧ g.mod = true) ∧ b ∈ φ Y)
  (hd : ∀ X X', X ≠ X' → (∃ f, fs' X = some f) → (∃ f, fs' X' = some f) → ∀ Y ∈ src X, Y ∉ src X') : Rel P fs' β φ' dom ψ IN w0 w where
 ok := hok
 dis i j f g hi hj mi mj hne b hb hb' := by
  obtain ⟨Y, h1, ⟨g1, h2, h3⟩, h4⟩ := hsrc i f hi mi b hb
  obtain ⟨Y', k1, ⟨g2, k2, k3⟩, k4⟩ := hsrc j g hj mj b hb'
  have hne' : Y ≠ Y' := fun e => hd i j hne ⟨_, hi⟩ ⟨_, hj⟩ Y h1 (e ▸ k1)
  exact R.dis Y Y' g1 g2 h2 k2 h3 k3 hne' b h4 k4
 lt id f hf hm b hb := by
  obtain ⟨Y, h1, ⟨g1, h2, h3⟩, h4⟩ := hsrc id f hf hm b hb
  exact R.lt Y g1 h2 h3 b h4
 psi := R.psi
 all1 := R.all1
 chg := R.chg
 glo := R.glo
theorem Rel.fpnd (R : Rel P fs β φ dom ψ IN w0 w) {id : Nat} {g : Fact} (h : fs id = some g) (hm : g.mod = true) : (φ id).Nodup := by
 have h2 := (R.ok id g h).2
 cases g <;> simp only [Fact.mod] at hm <;> first | cases hm | skip
 case box T cs => obtain ⟨_, b, _, _, e⟩ := h2; rw [e]; exact (List.nodup_cons.2 ⟨List.not_mem_nil, List.nodup_nil⟩)
 case own V d => exact (h2.2 : OwV w d _ _).nd
 case arr n cs => obtain ⟨_, b, T, _, _, e⟩ := h2; rw [e]; exact (List.nodup_cons.2 ⟨List.not_mem_nil, List.nodup_nil⟩)
def Qju (fs : Nat → Option Fact) (ids : List Nat) : Bool := ids.all fun id => match fs id with | some g => g.mod | none => false
theorem Qem {ids : List Nat} (h : Qju fs ids = true) : ∀ id ∈ ids, ∃ g, fs id = some g ∧ g.mod = true := fun id hid => by
 have := List.all_eq_true.1 h id hid
 split at this
 ·rename_i g e; exact ⟨g, e, this⟩
 ·cases this
theorem Rel.flat_nd (R : Rel P fs β φ dom ψ IN w0 w) : ∀ {ids : List Nat}, ids.Nodup → (∀ id ∈ ids, ∃ g, fs id = some g ∧ g.mod = true) → (ids.flatMap φ).Nodup
 | [], _, _ => List.nodup_nil
 | id :: ids, hn, hm => by
  obtain ⟨n1, n2⟩ := List.nodup_cons.1 hn
  obtain ⟨g, h1, h2⟩ := hm id List.mem_cons_self
  simp only [List.flatMap_cons]
  refine List.nodup_append.2 ⟨R.fpnd h1 h2, R.flat_nd n2 fun x hx => hm x (List.mem_cons_of_mem _ hx), fun b hb b' hb' e => ?_⟩
  subst e
  obtain ⟨Y, hY, hbY⟩ := List.mem_flatMap.1 hb'
  obtain ⟨g', h3, h4⟩ := hm Y (List.mem_cons_of_mem _ hY)
  exact R.dis id Y g g' h1 h3 h2 h4 (fun e => n1 (e ▸ hY)) b hb hbY
theorem Rel.flat_lt (R : Rel P fs β φ dom ψ IN w0 w) {ids : List Nat} (hm : ∀ id ∈ ids, ∃ g, fs id = some g ∧ g.mod = true) : ∀ b ∈ ids.flatMap φ, b < w.heap.size := fun b hb => by
 obtain ⟨Y, hY, hbY⟩ := List.mem_flatMap.1 hb
 obtain ⟨g, h1, h2⟩ := hm Y hY
 exact (R.lt Y g h1 h2 b hbY).1
theorem Yj (h : FnH P) (hcap : h.cap = []) (hp : h.pre) {S : Nat → Prop} (hlt : ∀ b, S b → b < w.heap.size) (hcl : Qw P h.f = true) {F : Uv} (hF : h.F = F) : FnOK false P S w F (val β (.cl h.f [])) :=
 hF ▸ FnOK.weak (h.fnOK hp hlt (cap := []) (by rw [hcap]; exact ⟨rfl, rfl⟩) hcl)
theorem Qgh (R : Rel P fs β φ dom ψ IN w0 w) {a : Nat} {T : TypeId} {cs : List AV} (ha : fs a = some (.box T cs)) : ∃ b, val β (.p a 0) = .pointer (some ⟨b, 0, none⟩) ∧ Box w b T (vals β cs) ∧ φ a = [b] := by
 obtain ⟨_, _, b, e1, e2, e3⟩ := R.ok a _ ha
 exact ⟨b, by simp only [val, e1, padd, Nat.add_zero], e2, e3⟩
theorem Wr (R : Rel P fs β φ dom ψ IN w0 w) (h : FnH P) {a c : Nat} {T U : TypeId} {x y : Value} (ha : fs a = some (.box T [.v x])) (hc : fs c = some (.box U [.v y])) (hcap : h.cap = [.rp [.v x], .rp [.v y]]) (hp : h.pre)
  {S : Nat → Prop} (h1 : ∀ b ∈ φ a, S b) (h2 : ∀ b ∈ φ c, S b) (hlt : ∀ b, S b → b < w.heap.size) (hcl : Qw P h.f = true) (hx : x.oneCell' = true) (hy : y.oneCell' = true) {F : Uv} (hF : h.F = F) : FnOK false P S w F (val β (.cl h.f [.p a 0, .p c 0])) := by
 obtain ⟨b, e1, e2, e3⟩ := Qgh R ha
 obtain ⟨b', k1, k2, k3⟩ := Qgh R hc
 have := FnOK.weak (h.fnOK hp hlt (cap := [val β (.p a 0), val β (.p c 0)]) (by
  rw [hcap]
  refine ⟨_, _, [], [], rfl, ⟨⟨b, 0, [x], e1, h1 b (by rw [e3]; exact List.mem_singleton.2 rfl), e2.has 0 [x] rfl, x, [], rfl, ⟨rfl, hx⟩, rfl⟩, rfl⟩, ?_, rfl, List.nodup_nil⟩
  exact ⟨_, _, [], [], rfl, ⟨⟨b', 0, [y], k1, h2 b' (by rw [k3]; exact List.mem_singleton.2 rfl), k2.has 0 [y] rfl, y, [], rfl, ⟨rfl, hy⟩, rfl⟩, rfl⟩, ⟨rfl, rfl⟩, rfl, List.nodup_nil⟩) hcl)
 rw [← hF]
 exact this
theorem Qws (R : Rel P fs β φ dom ψ IN w0 w) (h : FnH P) {a o V : Nat} {T : TypeId} {d : Dat} (ha : fs a = some (.box T [.h o 0])) (ho : fs o = some (.own V d)) (hcap : h.cap = [.rp [d]]) (hp : h.pre)
  {S : Nat → Prop} (h1 : ∀ b ∈ φ a, S b) (h2 : ∀ b ∈ φ o, S b) (hlt : ∀ b, S b → b < w.heap.size) (hcl : Qw P h.f = true) {F : Uv} (hF : h.F = F) : FnOK false P S w F (val β (.cl h.f [.p a 0])) := by
 obtain ⟨b, e1, e2, e3⟩ := Qgh R ha
 obtain ⟨_, _, k1⟩ := R.ok o _ ho
 have := FnOK.weak (h.fnOK hp hlt (cap := [val β (.p a 0)]) (by
  rw [hcap]
  exact ⟨_, _, [], [], rfl, ⟨⟨b, 0, [β o 0], e1, h1 b (by rw [e3]; exact List.mem_singleton.2 rfl), e2.has 0 [β o 0] rfl, β o 0, [], rfl, RdV.mono (fun b hb => ⟨h2 b hb, rfl⟩) _ _ (OwV.rd _ _ _ k1), rfl⟩, rfl⟩, ⟨rfl, rfl⟩, rfl, List.nodup_nil⟩) hcl)
 rw [← hF]
 exact this
def FnsOK (P : Program) (S : Nat → Prop) (w : World) {α : Type} (F : α → Uv) : List α → List Value → Prop
 | [], vs => vs = []
 | p :: ps, vs => ∃ u us, vs = u :: us ∧ FnOK false P S w (F p) u ∧ FnsOK P S w F ps us
theorem FnsOK.at {S : Nat → Prop} {α : Type} {F : α → Uv} : ∀ {ps : List α} {vs : List Value}, FnsOK P S w F ps vs → vs.length = ps.length ∧ ∀ (i : Nat) (p : α), ps[i]? = some p → ∃ u, vs[i]? = some u ∧ FnOK false P S w (F p) u
 | [], vs, h => by rw [h]; exact ⟨rfl, fun i p hp => by simp at hp⟩
 | p :: ps, vs, h => by
  obtain ⟨u, us, rfl, h1, h2⟩ := h
  obtain ⟨e, h3⟩ := FnsOK.at h2
  refine ⟨by simp [e], fun i q hq => ?_⟩
  cases i with
  | zero => simp only [List.getElem?_cons_zero, Option.some.injEq] at hq; subst hq; exact ⟨u, rfl, h1⟩
  | succ i => simpa using h3 i q (by simpa using hq)
theorem We (R : Rel P fs β φ dom ψ IN w0 w) {α : Type} [Inhabited α] {o n : Nat} {cs : List AV} {ps : List α} {F : α → Uv} {enc : α → List Dat} (ho : fs o = some (.arr n cs)) (hn : n = ps.length) (hm : n ≤ 9223372036854775807) (he : ∀ p, enc p = [.x (FnX P (F p))])
  {S : Nat → Prop} (h1 : ∀ b ∈ φ o, S b) (hF : FnsOK P S w F ps (vals β cs)) : RdV S w (.l 1 enc ps) (β o 0) := by
 obtain ⟨_, _, b, T, e1, e2, e3⟩ := R.ok o _ ho
 obtain ⟨_, hF⟩ := hF.at
 subst hn
 refine ⟨some ⟨b, 0, none⟩, ps.length, e1, Nat.le_refl _, hm, fun i p hp => ⟨rfl, h1 b (by rw [e3]; exact List.mem_singleton.2 rfl), ?_⟩⟩
 obtain ⟨u, hu, hf⟩ := hF i p hp
 refine ⟨[u], rfl, ?_, ?_⟩
 ·refine e2.has _ _ ?_
  simp only [ao, Option.getD_some, Nat.zero_add, Nat.mul_one, List.length_singleton]
  apply List.ext_getElem?
  intro j
  rw [List.getElem?_take]
  cases j with
  | zero => simpa using hu
  | succ j => simp
 ·rw [he]
  exact ⟨u, [], rfl, hf, rfl⟩
theorem Vg (R : Rel P fs β φ dom ψ IN w0 w) {o n : Nat} {cs : List AV} (ho : fs o = some (.arr n cs)) : β o 0 = sv (toSV (β o 0)) := by
 obtain ⟨_, _, b, T, e1, _⟩ := R.ok o _ ho
 rw [e1]; rfl
theorem Ubr (R : Rel P fs β φ dom ψ IN w0 w) {α : Type} [Inhabited α] {o n sz : Nat} {cs : List AV} {ys : List α} {enc : α → List Dat} (ho : fs o = some (.arr n cs)) (hn : n = ys.length) (hm : n ≤ 9223372036854775807) (hl : ∀ y, (enc y).length = sz)
  (he : (ys.map enc).flatten = (vals β cs).map .v) : OwV w (.l sz enc ys) (β o 0) (φ o) := by
 obtain ⟨_, ⟨hw, hone⟩, b, T, e1, e2, e3⟩ := R.ok o _ ho
 have h1 : OwVs w (ys.map enc).flatten (vals β cs) [] := by
  rw [he]; exact OwVs.flat (Tr R.one hone hw)
 obtain ⟨gs, g1, g2, g3, g4⟩ := h1.split (sz := sz) (fun y _ => hl y)
 subst hn
 have hlen : (vals β cs).length = ys.length * sz := g2
 refine ⟨some ⟨b, 0, none⟩, ys.length, e1, Nat.le_refl _, hm, .inr ⟨b, 0, T, vals β cs, gs, rfl, e2, by omega, g1, fun i y g hy hg => ?_, by rw [e3, ← g3], ?_⟩⟩
 ·obtain ⟨k1, k2⟩ := g4 i y g hy hg
  have hi : i < ys.length := (List.getElem?_eq_some_iff.1 hy).1
  have hfit : i * sz + sz ≤ (vals β cs).length := by
   rw [hlen]
   calc i * sz + sz = (i + 1) * sz := by rw [Nat.succ_mul]
    _ ≤ ys.length * sz := Nat.mul_le_mul_right _ hi
  refine ⟨by simp; omega, ?_⟩
  simpa using k2
 ·rw [e3]; exact (List.nodup_cons.2 ⟨List.not_mem_nil, List.nodup_nil⟩)
def Rel2 {α γ : Type} (Q : α → γ → Prop) : List α → List γ → Prop
 | [], [] => True
 | a :: azz, c :: cs => Q a c ∧ Rel2 Q azz cs
 | _, _ => False
theorem Rel2.filter {α γ : Type} {Q : α → γ → Prop} {p : α → Bool} {q : γ → Bool} (hpq : ∀ a c, Q a c → p a = q c) : ∀ {azz : List α} {cs : List γ}, Rel2 Q azz cs → Rel2 Q (azz.filter p) (cs.filter q)
 | [], [], _ => trivial
 | a :: azz, c :: cs, h => by
  have e := hpq a c h.1
  cases hp : p a with
  | true => rw [List.filter_cons_of_pos hp, List.filter_cons_of_pos (e ▸ hp)]; exact ⟨h.1, Rel2.filter hpq h.2⟩
  | false => rw [List.filter_cons_of_neg (by simp [hp]), List.filter_cons_of_neg (by simp [← e, hp])]; exact Rel2.filter hpq h.2
 | [], _ :: _, h => h.elim
 | _ :: _, [], h => h.elim
theorem Rel2.at {α γ : Type} {Q : α → γ → Prop} : ∀ {azz : List α} {cs : List γ}, Rel2 Q azz cs → azz.length = cs.length ∧ ∀ (i : Nat) (c : γ), cs[i]? = some c → ∃ a, azz[i]? = some a ∧ Q a c
 | [], [], _ => ⟨rfl, fun i c h => by simp at h⟩
 | a :: azz, c :: cs, h => by
  obtain ⟨e, k⟩ := Rel2.at h.2
  refine ⟨by simp [e], fun i x hx => ?_⟩
  cases i with
  | zero => simp only [List.getElem?_cons_zero, Option.some.injEq] at hx; subst hx; exact ⟨a, rfl, h.1⟩
  | succ i => simpa using k i x (by simpa using hx)
 | [], _ :: _, h => h.elim
 | _ :: _, [], h => h.elim
theorem Rel2.mono {α γ : Type} {Q Q' : α → γ → Prop} (hq : ∀ a c, Q a c → Q' a c) : ∀ {azz : List α} {cs : List γ}, Rel2 Q azz cs → Rel2 Q' azz cs
 | [], [], _ => trivial
 | a :: azz, c :: cs, h => ⟨hq _ _ h.1, Rel2.mono hq h.2⟩
 | [], _ :: _, h => h.elim
 | _ :: _, [], h => h.elim
theorem Qrc {α γ : Type} [Inhabited α] [Inhabited γ] {sz : Nat} {enc : α → List Dat} {enc' : γ → List Dat} {ys : List α} {zs : List γ} {v : Value} {fp : List Nat} {S : Nat → Prop} (h : OwV w (.l sz enc ys) v fp) (hS : ∀ b ∈ fp, S b)
  (hr : Rel2 (fun y z => ∀ cs, RdVs S w (enc y) cs → RdVs S w (enc' z) cs) ys zs) : RdV S w (.l sz enc' zs) v := by
 obtain ⟨a, c, e1, e2, e3, e4⟩ := RdV.mono (fun b hb => ⟨hS b hb, rfl⟩) _ _ (OwV.rd _ _ _ h)
 obtain ⟨hl, hr⟩ := hr.at
 refine ⟨a, c, by rw [← hl]; exact e1, by omega, by omega, fun i z hz => ?_⟩
 obtain ⟨y, hy, hq⟩ := hr i z hz
 obtain ⟨g1, g2, cs, g3, g4, g5⟩ := e4 i y hy
 exact ⟨g1, g2, cs, g3, g4, hq cs g5⟩
end
theorem fsG1 {a : Fact} {X : Nat} {f : Fact} (h : fsG [(0, some a)] X = some f) : X = 0 ∧ f = a := by
 simp only [fsG] at h
 cases hb : Nat.beq 0 X with
 | true => rw [hb] at h; cases h; exact ⟨(Nat.eq_of_beq_eq_true hb).symm, rfl⟩
 | false => rw [hb] at h; cases h
theorem fsG3 {a b c : Fact} {X : Nat} {f : Fact} (h : fsG [(0, some a), (1, some b), (2, some c)] X = some f) : (X = 0 ∧ f = a) ∨ (X = 1 ∧ f = b) ∨ (X = 2 ∧ f = c) := by
 simp only [fsG] at h
 cases h0 : Nat.beq 0 X with
 | true => rw [h0] at h; cases h; exact .inl ⟨(Nat.eq_of_beq_eq_true h0).symm, rfl⟩
 | false =>
  rw [h0] at h
  cases h1 : Nat.beq 1 X with
  | true => rw [h1] at h; cases h; exact .inr (.inl ⟨(Nat.eq_of_beq_eq_true h1).symm, rfl⟩)
  | false =>
   rw [h1] at h
   cases h2 : Nat.beq 2 X with
   | true => rw [h2] at h; cases h; exact .inr (.inr ⟨(Nat.eq_of_beq_eq_true h2).symm, rfl⟩)
   | false => rw [h2] at h; cases h
section
variable {P : Program} {N : Nat} {ψ IN : Nat → Prop} {w0 w : World} {a : Act}
theorem pack3 {s : St} {T : TypeId} {bx : List Value} {α : Type} [Inhabited α] {sz : Nat} {enc : α → List Dat} {ys : List α} {X : FX} {rest : List Nat} {β : Nat → Nat → Value} {φ : Nat → List Nat} {dom : Nat → Prop} (V : StOK P N ψ IN w0 s a w β φ dom)
  (h0 : fsG s.fs 0 = some (.box T (bx.map .v))) (h1 : ∃ g, fsG s.fs 1 = some g ∧ g.mod = true) (hr : Qju (fsG s.fs) rest = true) (hnd : Kx (0 :: 1 :: rest) = true) (hd2 : dom 2)
  (ho : OwV w (.l sz enc ys) (β 1 0) (φ 1)) (hx : (rest.flatMap φ).Nodup → (∀ b ∈ rest.flatMap φ, b < w.heap.size) → X.ow w (β 2 0) (rest.flatMap φ)) :
  Holds P N ψ IN w0 ⟨s.sl, [(0, some (.box T (bx.map .v))), (1, some (.own 1 (.l sz enc ys))), (2, some (.own 2 (.x X)))], s.nx⟩ a w := by
 have R := V.rel
 have hnn := Wg hnd
 have hm := Qem hr
 obtain ⟨n1, n2⟩ := List.nodup_cons.1 hnn
 obtain ⟨n3, n4⟩ := List.nodup_cons.1 n2
 obtain ⟨g1, h1, h1m⟩ := h1
 refine ⟨β, fun X => if X = 2 then rest.flatMap φ else φ X, dom, V.size, V.defers, V.has, ?_, V.bound⟩
 refine R.pack (fun X => if X = 2 then rest else [X]) (fun Y f hY => ?_) (fun Y f hY hmod b hb => ?_) (fun Y Y' hne hY hY' Z hZ hZ' => ?_)
 ·rcases fsG3 hY with ⟨rfl, rfl⟩ | ⟨rfl, rfl⟩ | ⟨rfl, rfl⟩
  ·exact ⟨(R.ok 0 _ h0).1, (R.ok 0 _ h0).2⟩
  ·exact ⟨(R.ok 1 _ h1).1, (R.ok 1 _ h1).1, ho⟩
  ·exact ⟨hd2, hd2, by simp only [if_true]; exact hx (R.flat_nd n4 hm) (R.flat_lt hm)⟩
 ·rcases fsG3 hY with ⟨rfl, rfl⟩ | ⟨rfl, rfl⟩ | ⟨rfl, rfl⟩
  ·exact ⟨0, List.mem_singleton.2 rfl, ⟨_, h0, rfl⟩, hb⟩
  ·exact ⟨1, List.mem_singleton.2 rfl, ⟨_, h1, h1m⟩, hb⟩
  ·simp only [if_true] at hb ⊢
   obtain ⟨Z, k1, k2⟩ := List.mem_flatMap.1 hb
   exact ⟨Z, k1, hm Z k1, k2⟩
 ·obtain ⟨f, hf⟩ := hY
  obtain ⟨f', hf'⟩ := hY'
  have n1' : (0 : Nat) ∉ rest := fun h => n1 (List.mem_cons_of_mem _ h)
  rcases fsG3 hf with ⟨rfl, _⟩ | ⟨rfl, _⟩ | ⟨rfl, _⟩ <;> rcases fsG3 hf' with ⟨rfl, _⟩ | ⟨rfl, _⟩ | ⟨rfl, _⟩ <;> simp only [if_true, if_neg (show ¬ (0 : Nat) = 2 by decide), if_neg (show ¬ (1 : Nat) = 2 by decide), List.mem_singleton] at hZ hZ'
  all_goals first | exact hne rfl | (subst hZ; exact n1' hZ') | (subst hZ; exact n3 hZ') | (subst hZ'; exact n1' hZ) | (subst hZ'; exact n3 hZ) | (subst hZ; cases hZ')
theorem pack1 {s : St} {t : Nat} {d : Dat} {X : FX} {e : Dat} {nx : Nat} (hfs : s.fs = [(0, some (.own 0 d)), (1, some (.own 1 (.x X)))]) (hnx : s.nx = nx) (hsl : slG s.sl t = some (.h 0 0))
  (hr : ∀ (v y : Value) (f g : List Nat), OwV w d v f → X.ow w y g → RdV (fun b => b ∈ f ++ g) w e v) (H : Holds P N ψ IN w0 s a w) :
  Holds P N ψ IN w0 ⟨[(t, some (.h 0 0))], [(0, some (.own 0 (.b e)))], nx⟩ a w := by
 obtain ⟨β, φ, dom, V⟩ := H
 have R := V.rel
 have h0 : fsG s.fs 0 = some (.own 0 d) := by rw [hfs]; rfl
 have h1 : fsG s.fs 1 = some (.own 1 (.x X)) := by rw [hfs]; rfl
 obtain ⟨k1, _, k2⟩ := R.ok 0 _ h0
 obtain ⟨q1, _, q2⟩ := R.ok 1 _ h1
 have hm : ∀ id ∈ [0, 1], ∃ g, fsG s.fs id = some g ∧ g.mod = true := fun id hid => by
  rcases List.mem_cons.1 hid with rfl | hid
  ·exact ⟨_, h0, rfl⟩
  ·obtain rfl := List.mem_singleton.1 hid; exact ⟨_, h1, rfl⟩
 have hfm : [0, 1].flatMap φ = φ 0 ++ φ 1 := by simp
 have hnd := R.flat_nd (ids := [0, 1]) (by decide) hm
 have hlt := R.flat_lt (ids := [0, 1]) hm
 rw [hfm] at hnd hlt
 refine ⟨β, fun X => if X = 0 then φ 0 ++ φ 1 else φ X, dom, V.size, V.defers, fun t' av ht => ?_, ?_, fun id hid => hnx ▸ V.bound id hid⟩
 ·simp only [slG] at ht
  cases hb : Nat.beq t t' with
  | true =>
   rw [hb] at ht
   cases ht
   have e := Nat.eq_of_beq_eq_true hb
   subst e
   exact V.has t _ hsl
  | false => rw [hb] at ht; cases ht
 ·refine R.pack (fun X => if X = 0 then [0, 1] else [X]) (fun Y f hY => ?_) (fun Y f hY hmod b hb => ?_) (fun Y Y' hne hY hY' Z hZ hZ' => ?_)
  ·obtain ⟨rfl, rfl⟩ := fsG1 hY
   exact ⟨k1, k1, by simp only [if_true]; exact ⟨hr _ _ _ _ k2 q2, hnd, hlt⟩⟩
  ·obtain ⟨rfl, rfl⟩ := fsG1 hY
   simp only [if_true] at hb ⊢
   rcases List.mem_append.1 hb with hb | hb
   ·exact ⟨0, by simp, hm 0 (by simp), hb⟩
   ·exact ⟨1, by simp, hm 1 (by simp), hb⟩
  ·obtain ⟨f, hf⟩ := hY
   obtain ⟨f', hf'⟩ := hY'
   exact hne ((fsG1 hf).1.trans (fsG1 hf').1.symm)
end
theorem ifb (c : Bool) {A B : Prop} (a : c = true → A) (b : c = false → B) : (c = true → A) ∧ (c = false → B) := ⟨a, b⟩
theorem ifd (p : Prop) [Decidable p] {A B : Prop} (a : decide p = true → p → A) (b : decide p = false → ¬ p → B) : (decide p = true → A) ∧ (decide p = false → B) :=
 ⟨fun h => a h (of_decide_eq_true h), fun h => b h (of_decide_eq_false h)⟩
theorem ife (x y : Int) {A B : Prop} (a : (x == y) = true → x = y → A) (b : (x == y) = false → ¬ x = y → B) : ((x == y) = true → A) ∧ ((x == y) = false → B) :=
 ⟨fun h => a h (eq_of_beq h), fun h => b h (beqF h)⟩
theorem ifn (x y : Int) {A B : Prop} (a : (x != y) = true → ¬ x = y → A) (b : (x != y) = false → x = y → B) : ((x != y) = true → A) ∧ ((x != y) = false → B) :=
 ⟨fun h => a h (bneT h), fun h => b h (bneF h)⟩
theorem kn {α : Type} (xs : List α) {K : Prop} (k : xs.length ≤ 9223372036854775807 → K) : xs.length ≤ 9223372036854775807 → K := k
abbrev ib (k : Int) {α : Type} (l : List α) : Prop := 0 ≤ k ∧ k < (l.length : Int)
theorem fiB (r c : Bool) (h : r = c) : (.bool r : Value) = .bool c ∧ True := ⟨h ▸ rfl, trivial⟩
theorem fiS (r c : ByteArray) (h : r = c) : (.string r : Value) = .string c ∧ True := ⟨h ▸ rfl, trivial⟩
theorem fiI (r c : Int) (h : r = c) : (.int .i64 r : Value) = .int .i64 c ∧ True := ⟨h ▸ rfl, trivial⟩
abbrev Rf (x : Value) : Prop := x = x
abbrev Im (x : Dat) : Prop := Imp x x
abbrev Ims (x : List Dat) : Prop := Imps x x
abbrev LpX {σ ρ : Type} (step : σ → Lp σ ρ) (N : Nat × σ) : Lp σ ρ := runL step N.1 N.2
abbrev LpJ {σ ρ : Type} (step : σ → Lp σ ρ) (N i : Nat × σ) (I : Prop) : Prop := runL step i.1 i.2 = runL step N.1 N.2 ∧ I
abbrev LpH {σ ρ : Type} (step : σ → Lp σ ρ) (N i : Nat × σ) (m : Nat) (v : σ) (I : Prop) : Prop := runL step (m + 1) v = runL step N.1 N.2 ∧ m < i.1 ∧ I
theorem iok (x : Int) (h : -9223372036854775808 ≤ x ∧ x ≤ 9223372036854775807) : i64ok x := h
theorem bokr {α : Type} [Inhabited α] (sz : Nat) (enc : α → List Dat) (ys : List α) (hl : ∀ y, (enc y).length = sz) : BuildOK ys.length sz (ys.map enc).flatten (.l sz enc ys) := BuildOK.mk enc ys rfl (Imps.refl _) hl
theorem appr {α : Type} [Inhabited α] (sz : Nat) (enc : α → List Dat) (xs ys : List α) (hl : ∀ y, (enc y).length = sz) : AppA (.l sz enc xs) ys.length sz (ys.map enc).flatten (.l sz enc (xs ++ ys)) := AppA.mk enc xs ys (Imp.refl _) rfl (Imps.refl _) hl
theorem setr {α : Type} [Inhabited α] (sz : Nat) (enc : α → List Dat) (xs : List α) (k : Nat) (x : α) : SetOK (.l sz enc xs) k (enc (xs.getD k default)) (enc x) (.l sz enc (xs.set k x)) := SetOK.mk enc xs x rfl (Imps.refl _)
def datV : Dat → Value
 | .v x => x
 | _ => default
def Plain {α : Type} (k : Nat) (e : α → List Dat) : Prop := ∀ x, (e x).length = k ∧ ∀ d ∈ e x, ∃ v, d = .v v ∧ v.oneCell' = true
def encV {α : Type} (e : α → List Dat) (x : α) : List Value := (e x).map datV
theorem Plain.len {α : Type} {k : Nat} {e : α → List Dat} (h : Plain k e) (x : α) : (encV e x).length = k := by rw [encV, List.length_map, (h x).1]
theorem Plain.one {α : Type} {k : Nat} {e : α → List Dat} (h : Plain k e) (x : α) : ∀ v ∈ encV e x, v.oneCell' = true := fun v hv => by
 obtain ⟨d, hd, rfl⟩ := List.mem_map.1 hv
 obtain ⟨v, rfl, h1⟩ := (h x).2 d hd
 exact h1
end Go.Proofs.YtbaholefcgacpaaGreatDoor
namespace Go.Proofs.YtbaholefcgacpaaGreatDoor
open Go.RowKit Go.Shelf
set_option linter.unusedVariables false
set_option linter.unusedSimpArgs false
section
variable {P : Program} {ρ : Go.Shelf.Ren}
theorem Qqp (SS : Nat → Prop) (w : World) (n : Nat) : Chg SS w (w.drewN n) := ⟨rfl, rfl, rfl, Nat.le_refl _, fun _ _ _ => rfl, Nat.le_add_right _ _⟩
theorem Qri (SS : Nat → Prop) (w : World) (o : Obj) : Chg SS w (w.alloc o) := Chg.of_below (Qdm w o)
def cut3 (s sep : ByteArray) : ByteArray × ByteArray × Bool := (⟨(Lib.cut s.data.toList sep.data.toList).1.toArray⟩, ⟨(Lib.cut s.data.toList sep.data.toList).2.1.toArray⟩, (Lib.cut s.data.toList sep.data.toList).2.2)
theorem cut_ok (L : Lays.n145 P ρ) (hg : ρ.g 1 ∈ GBi) (s sep : ByteArray) : Spec.ok P (ρ.f 145) ⟨[.r (.c (.v (.string s))), .r (.c (.v (.string sep)))], .tu [.v (.string (cut3 s sep).1), .v (.string (cut3 s sep).2.1), .v (.bool (cut3 s sep).2.2)], s.size ≤ 4294967280⟩ := by
 intro hs S w vs fp hS hG hA
 obtain ⟨u, us, f, g, rfl, ⟨⟨rfl, _⟩, rfl⟩, ⟨u2, us2, f2, g2, rfl, ⟨⟨rfl, _⟩, rfl⟩, ⟨rfl, rfl⟩, rfl, _⟩, rfl, _⟩ := hA
 obtain ⟨m, hm⟩ := hG.1.2.1 _ hg
 have hs : s.size ≤ 4294967280 := hs
 refine (Any.strings_Cut L s sep m w (by omega) hm).mono fun e w' ⟨h1, n, h2⟩ => ?_
 subst h2
 exact ⟨_, [], [], h1, ⟨[_, _, _], rfl, _, _, [], [], rfl, ⟨rfl, rfl, rfl⟩, ⟨_, _, [], [], rfl, ⟨rfl, rfl, rfl⟩, ⟨_, _, [], [], rfl, ⟨rfl, rfl, rfl⟩, ⟨rfl, rfl⟩, rfl⟩, rfl⟩, rfl⟩,
  ⟨_, _, [], [], rfl, rfl, ⟨_, _, [], [], rfl, rfl, rfl, rfl⟩, rfl⟩, List.nodup_nil, fun b hb => by simp at hb, Qqp _ w n⟩
def Qq (s sep : ByteArray) : List ByteArray := Lib.splitB sep 0 (Lib.countB s sep) s
theorem Qov (w : World) : ∀ ys : List ByteArray, OwVs w (ys.map eStr).flatten (ys.map Value.string) []
 | [] => ⟨rfl, rfl⟩
 | y :: ys => ⟨.string y, ys.map Value.string, [], [], rfl, ⟨rfl, rfl, rfl⟩, Qov w ys, rfl, List.nodup_nil⟩
theorem Gz (s sep : ByteArray) (h1 : 1 ≤ sep.size) : (Qq s sep).length = Lib.countB s sep + 1 := Lib.splitB_all sep h1 0 _ s rfl
theorem Qwp (L : Lays.n146 P ρ) (hi9 : (P.info? (ρ.t 9)).map (fun i => (i.zero, i.size, i.bytes)) = some (some (.string ByteArray.empty), 1, 16)) (hg : ρ.g 1 ∈ GBi) (s sep : ByteArray) :
  Spec.ok P (ρ.f 146) ⟨[.r (.c (.v (.string s))), .r (.c (.v (.string sep)))], .ow (.l 1 eStr (Qq s sep)), s.size ≤ 4294967280 ∧ 1 ≤ sep.size⟩ := by
 intro ⟨hs, h1⟩ S w vs fp hS hG hA
 obtain ⟨u, us, f, g, rfl, ⟨⟨rfl, _⟩, rfl⟩, ⟨u2, us2, f2, g2, rfl, ⟨⟨rfl, _⟩, rfl⟩, ⟨rfl, rfl⟩, rfl, _⟩, rfl, _⟩ := hA
 obtain ⟨m, hm⟩ := hG.1.2.1 _ hg
 have hle := Lib.countB_le sep h1 s.size s (Nat.le_refl _)
 have hlen := Gz s sep h1
 refine (Any.strings_Split L hi9 s sep m w (by omega) hm h1).mono fun e w' ⟨h2, h3⟩ => ?_
 subst h3
 refine ⟨_, [w.heap.size], [], h2, ?_, ⟨_, _, [], [], rfl, rfl, ⟨_, _, [], [], rfl, rfl, rfl, rfl⟩, rfl⟩, by simp, fun b hb => ?_, (Qri _ w _).toD _⟩
 ·rw [← hlen]
  refine Lo (ys := Qq s sep) (vs := (Qq s sep).map Value.string) (rest := []) (c := (Qq s sep).length) (T := ρ.t 9) (Qov _ _) (fun y _ => rfl) (Qdm w _) (by simp) ?_ (by simp) (Nat.le_refl _) (by omega)
  simp only [List.append_nil]
  exact heap_alloc_new w _
 ·have hb : b = w.heap.size := by simpa using hb
  subst hb
  exact ⟨by simp, .inr (Nat.le_refl _)⟩
theorem Hh (s sep : ByteArray) (h1 : 1 ≤ sep.size) : 1 ≤ (Qq s sep).length := (Gz s sep h1).symm ▸ Nat.le_add_left 1 _
theorem Bs (s sep : ByteArray) (h1 : 1 ≤ sep.size) : (Qq s sep).length ≤ s.size + 1 := by
 rw [Gz s sep h1]
 have := Lib.countB_le sep h1 s.size s (Nat.le_refl _)
 omega
theorem Qaj (s sep : ByteArray) : ((cut3 s sep).1.size : Int) ≤ (s.size : Int) := by
 have : (cut3 s sep).1.size ≤ s.size := by
  show (Lib.cut s.data.toList sep.data.toList).1.toArray.size ≤ s.data.size
  unfold Lib.cut
  split
  ·simp only [List.size_toArray, List.length_take, List.length_drop]
   have : s.data.toList.length = s.data.size := by simp
   omega
  ·simp
 omega
theorem Qvt (s sep : ByteArray) : ((cut3 s sep).2.1.size : Int) ≤ (s.size : Int) := by
 have : (cut3 s sep).2.1.size ≤ s.size := by
  show (Lib.cut s.data.toList sep.data.toList).2.1.toArray.size ≤ s.data.size
  unfold Lib.cut
  split
  ·simp only [List.size_toArray, List.length_take, List.length_drop]
   have : s.data.toList.length = s.data.size := by simp
   omega
  ·simp
 omega
def Ye (xs : List ByteArray) (sep : ByteArray) : ByteArray := ⟨(Lib.join (xs.map (·.data.toList)) sep.data.toList).toArray⟩
theorem Udj (L : Lays.n156 P ρ) (X : Builder.Extra P ρ) (xs : List ByteArray) (sep : ByteArray) :
  Spec.ok P (ρ.f 156) ⟨[.r (.c (.l 1 eStr xs)), .r (.c (.v (.string sep)))], .v (.string (Ye xs sep)), xs.length ≤ 140737488355328 ∧ (Ye xs sep).size ≤ 140737488355328⟩ false := by
 intro ⟨hl, hj⟩ S w vs fp hS hG hA
 obtain ⟨u, us, f, g, rfl, ⟨⟨a, c, rfl, hc, h63, hx⟩, rfl⟩, ⟨u2, us2, f2, g2, rfl, ⟨⟨rfl, _⟩, rfl⟩, ⟨rfl, rfl⟩, rfl, _⟩, rfl, _⟩ := hA
 have fin : ∀ (e : Ending) (w' : World), e = .returned (.string (Ye xs sep)) → Below w.heap.size w w' → ∃ rv fr fb, e = .returned rv ∧ RTOK w' (.v (.string (Ye xs sep))) rv fr ∧ Mf w' [.r (.c (.l 1 eStr xs)), .r (.c (.v (.string sep)))] [.slice a xs.length c, .string sep] fb ∧ (fr ++ fb).Nodup ∧ (∀ b ∈ fr ++ fb, b < w'.heap.size ∧ (b ∈ ([] ++ ([] ++ []) : List Nat) ∨ w.heap.size ≤ b)) ∧ Chg (· ∈ ([] ++ ([] ++ []) : List Nat)) (atD false w) w' :=
  fun e w' h1 h2 => ⟨_, [], [], h1, ⟨rfl, rfl, rfl⟩, ⟨_, _, [], [], rfl, rfl, ⟨_, _, [], [], rfl, rfl, rfl, rfl⟩, rfl⟩, List.nodup_nil, fun b hb => by simp at hb, ⟨h2.os, h2.tape, h2.output, h2.size, fun k hk _ => h2.block k hk, Nat.zero_le _⟩⟩
 cases xs with
 | nil =>
  refine (Any.strings_Join_none L X a c sep w).mono fun e w' ⟨h1, h2⟩ => fin e w' ?_ (h2 ▸ Below.refl _ _)
  rw [h1]; rfl
 | cons x xs =>
  obtain ⟨ha, hSb, _⟩ := hx 0 x rfl
  rw [ha]
  refine (Any.strings_Join L X (ab a) (ao a) c (x :: xs) sep w (fun j y hy => ?_) (hS _ hSb).1 hl hc (by simpa [Ye, ByteArray.size] using hj)).mono fun e w' ⟨h1, h2⟩ => ?_
  ·obtain ⟨_, _, cs, h1, h2, h3⟩ := hx j y hy
   obtain ⟨u, us, rfl, ⟨rfl, _⟩, _⟩ := h3
   have := h2 0 _ rfl
   simpa using this
  ·have := fin e w' h1 h2
   rw [ha] at this
   exact this
def Ka (xs : List ByteArray) : List ByteArray := ((xs.map (·.data.toList)).mergeSort fun x y => decide (x ≤ y)).map fun l => ⟨l.toArray⟩
theorem Zm (xs : List ByteArray) : (Ka xs).length = xs.length := by simp [Ka, List.length_mergeSort]
open Go.Sort in
theorem Qte (L : Lays.n190 P ρ) (xs : List ByteArray) :
  Spec.ok P (ρ.f 190) ⟨[.ow (.l 1 eStr xs) (some (.l 1 eStr (Ka xs)))], .tu [], xs.length ≤ 4000000000000000000⟩ := by
 intro hl S w vs fp hS hG hA
 have hl : xs.length ≤ 4000000000000000000 := hl
 obtain ⟨u, us, f, g, rfl, hO, ⟨rfl, rfl⟩, rfl, hnd⟩ := hA
 simp only [List.append_nil] at hnd hS ⊢
 obtain ⟨a, c, rfl, hc, h63, hO⟩ := hO
 by_cases hx : xs = []
 ·subst hx
  refine (calls_of_every_depth fun D => AnyS.slices_Sort_string_none_in L D a c w).mono fun e' w' ⟨h1, h2⟩ => ?_
  subst h2
  have hs : Ka [] = [] := by simp [Ka]
  refine ⟨_, [], f, h1, ⟨[], rfl, rfl, rfl⟩, ⟨_, _, f, [], rfl, ?_, rfl, by simp⟩, by simpa using hnd, fun b hb => ?_, (Chg.of_below (Bel.refl _ _)).toD _⟩
  ·show OwV w' (.l 1 eStr (Ka [])) _ f
   rw [hs]; exact ⟨a, c, rfl, hc, h63, hO⟩
  ·have hb : b ∈ f := by simpa using hb
   exact ⟨OwV.lt (.l 1 eStr ([] : List ByteArray)) _ f ⟨a, c, rfl, hc, h63, hO⟩ b hb, .inl hb⟩
 rcases hO with ⟨_, rfl, _⟩ | ⟨b, o, T, cells, fps, rfl, hbox, hlen, hfl, hel, rfl, hnd'⟩
 ·exact absurd rfl hx
 let zs : List (List UInt8) := xs.map (·.data.toList)
 have hzl : zs.length = xs.length := by simp [zs]
 let ss : List (List UInt8) := zs.mergeSort fun x y => decide (x ≤ y)
 have hsl : ss.length = xs.length := by simp [ss, List.length_mergeSort, hzl]
 have hcell : ∀ i (hi : i < xs.length), cells[o + i]? = some (.string xs[i]) ∧ fps[i]'(by omega) = [] := fun i hi => by
  obtain ⟨h1, h2⟩ := hel i xs[i] (fps[i]'(by omega)) (List.getElem?_eq_getElem hi) (List.getElem?_eq_getElem _)
  obtain ⟨v, vs', f1, f2, h3, ⟨rfl, _, rfl⟩, ⟨rfl, rfl⟩, h4, _⟩ := h2
  refine ⟨?_, by rw [h4]; rfl⟩
  have := congrArg (fun l : List Value => l[0]?) h3
  simpa [List.getElem?_take, List.getElem?_drop] using this
 have hH : Go.Sort.Holds encStr w b o zs.toArray := by
  intro j hj
  have hj' : j < xs.length := by simpa [zs] using hj
  have hb' : w.heap[b]? = some (.cells cells.toArray T (0, 0)) := hbox
  refine ⟨?_, by simp [World.frozen?, hb']⟩
  rw [getElem!_pos zs.toArray j hj]
  simp only [World.cell?, hb']
  simp only [Option.isSome_none, Bool.false_eq_true, if_false, List.getElem?_toArray]
  rw [(hcell j hj').1]
  simp [zs, encStr]
 have hcall := calls_of_every_depth fun D => AnyS.slices_Sort_string_alone L D b o c zs w hH hbox.lt (by omega)
 rw [hzl] at hcall
 refine hcall.mono fun e' w' ⟨h1, n, os, hw'⟩ => ?_
 have hsz : (putRow encStr (Sort.ahead w n) b o ss.toArray).heap.size = w.heap.size := by simp [putRow, mapBlock, Sort.ahead]
 have s1 : ∀ b', b' < w.heap.size → b' ≠ b → w'.heap[b']? = w.heap[b']? := fun b' hb' hne => by
  rw [hw']
  show ((putRow encStr (Sort.ahead w n) b o ss.toArray).heap ++ os)[b']? = _
  rw [Array.getElem?_append_left (by rw [hsz]; exact hb')]
  simp only [putRow, mapBlock, Sort.ahead, Array.getElem?_modify]
  rw [if_neg (Ne.symm hne)]
 have s2 : w.heap.size ≤ w'.heap.size := by
  rw [hw']
  show _ ≤ ((putRow encStr (Sort.ahead w n) b o ss.toArray).heap ++ os).size
  rw [Array.size_append, hsz]; omega
 let cells' : List Value := (putCells encStr o ss.toArray cells.toArray).toList
 have hcl : cells'.length = cells.length := by simp [cells', putCells]
 have hbox' : Box w' b T cells' := by
  show w'.heap[b]? = _
  rw [hw']
  show ((putRow encStr (Sort.ahead w n) b o ss.toArray).heap ++ os)[b]? = _
  have hb' : w.heap[b]? = some (.cells cells.toArray T (0, 0)) := hbox
  rw [Array.getElem?_append_left (by rw [hsz]; exact hbox.lt)]
  simp only [putRow, mapBlock, Sort.ahead, Array.getElem?_modify, if_true, hb', Option.map_some, onCells]
  simp [cells']
 have hc' : ∀ i (hi : i < xs.length), cells'[o + i]? = some (.string ((Ka xs)[i]'(by rw [Zm]; exact hi))) := fun i hi => by
  have hin : o + i < cells.length := by omega
  simp only [cells', putCells, Array.getElem?_toList, Array.getElem?_mapIdx]
  rw [Array.getElem?_eq_getElem (by simp; omega)]
  simp only [Option.map_some]
  rw [if_pos ⟨by omega, by simp only [List.size_toArray]; omega⟩]
  have e1 : o + i - o = i := by omega
  rw [e1, getElem!_pos ss.toArray i (by simp only [List.size_toArray]; omega)]
  simp [encStr, Ka, ss, zs]
 refine ⟨_, [], b :: fps.flatten, h1, ⟨[], rfl, rfl, rfl⟩, ⟨_, _, b :: fps.flatten, [], rfl, ?_, rfl, by simp⟩, by simpa using hnd', fun b' hb' => ?_, Chg.toD _ ?_⟩
 ·have hflat : fps.flatten = [] := by
   rw [List.flatten_eq_nil_iff]
   intro f hf
   obtain ⟨i, hi, rfl⟩ := List.getElem_of_mem hf
   exact (hcell i (by omega)).2
  show OwV w' (.l 1 eStr (Ka xs)) _ _
  refine ⟨_, c, by rw [Zm], by rw [Zm]; exact hc, by rw [Zm]; exact h63, .inr ⟨b, o, T, cells', List.replicate xs.length [], rfl, hbox', by rw [hcl, hlen], by simp [Zm], fun i x f hx hf => ?_, by rw [hflat]; simp, hnd'⟩⟩
  have hi : i < xs.length := by have := (List.getElem?_eq_some_iff.1 hx).1; rwa [Zm] at this
  have hf' : f = [] := by
   rw [List.getElem?_replicate, if_pos hi] at hf
   exact (Option.some.inj hf).symm
  have hxe : (Ka xs)[i]'(by rw [Zm]; exact hi) = x := (List.getElem?_eq_some_iff.1 hx).2
  have htk : (cells'.drop (o + i * 1)).take 1 = [.string x] := by
   have h2 := hc' i hi
   rw [hxe] at h2
   refine List.ext_getElem? fun j => ?_
   rw [List.getElem?_take, Nat.mul_one]
   cases j with
   | zero => simp [List.getElem?_drop, h2]
   | succ j => simp
  rw [htk, hf']
  exact ⟨rfl, _, _, [], [], rfl, ⟨rfl, rfl, rfl⟩, ⟨rfl, rfl⟩, rfl, List.nodup_nil⟩
 ·have hb2 : b' ∈ b :: fps.flatten := by simpa using hb'
  refine ⟨Nat.lt_of_lt_of_le ?_ s2, .inl hb2⟩
  rcases List.mem_cons.1 hb2 with rfl | h
  ·exact hbox.lt
  ·exact OwV.lt (.l 1 eStr xs) _ _ ⟨_, c, rfl, hc, h63, .inr ⟨b, o, T, cells, fps, rfl, hbox, hlen, hfl, hel, rfl, hnd'⟩⟩ b' (List.mem_cons_of_mem _ h)
 ·refine ⟨by rw [hw']; rfl, by rw [hw']; rfl, by rw [hw']; rfl, s2, fun k' hk' hn => s1 k' hk' fun e => hn (by rw [e]; exact List.mem_cons_self), ?_⟩
  rw [hw']
  show w.drawn ≤ w.drawn + n
  omega
end
end Go.Proofs.YtbaholefcgacpaaGreatDoor
namespace Go.Proofs.YtbaholefcgacpaaGreatDoor
open Go.Shelf Go.RowKit
def Qfs : Go.Shelf.Ren := ⟨fun | 146 => 13 | 221 => 32 | 268 => 64 | 138 => 65 | 143 => 66 | 195 => 104 | 197 => 105 | 218 => 106 | 219 => 107 | 260 => 125 | 217 => 126 | 225 => 127 | 224 => 128 | 267 => 129 | 266 => 144 | 314 => 145 | n => n, fun | 9 => 9 | 31 => 22 | 3 => 3 | 4 => 4 | 0 => 0 | 105 => 110 | 21 => 21 | 5 => 5 | 46 => 58 | 119 => 141 | 139 => 144 | 138 => 143 | 146 => 145 | 51 => 92 | n => n, fun | 1 => 0 | 3 => 1 | 4 => 2 | n => n⟩
theorem Qvc : Go.Proofs.Lays.n146 Tryz.prog Qfs := {
 mixed := by kernel_rfl
 f138 := Tryz.func65.trans (congrArg some (by kernel_rfl))
 f143 := Tryz.func66.trans (congrArg some (by kernel_rfl))
 f146 := Tryz.func13.trans (congrArg some (by kernel_rfl))
 f195 := Tryz.func104.trans (congrArg some (by kernel_rfl))
 f197 := Tryz.func105.trans (congrArg some (by kernel_rfl))
 f217 := Tryz.func126.trans (congrArg some (by kernel_rfl))
 f218 := Tryz.func106.trans (congrArg some (by kernel_rfl))
 f219 := Tryz.func107.trans (congrArg some (by kernel_rfl))
 f221 := Tryz.func32.trans (congrArg some (by kernel_rfl))
 f224 := Tryz.func128.trans (congrArg some (by kernel_rfl))
 f225 := Tryz.func127.trans (congrArg some (by kernel_rfl))
 f260 := Tryz.func125.trans (congrArg some (by kernel_rfl))
 f266 := Tryz.func144.trans (congrArg some (by kernel_rfl))
 f267 := Tryz.func129.trans (congrArg some (by kernel_rfl))
 f268 := Tryz.func64.trans (congrArg some (by kernel_rfl))
 f314 := Tryz.func145.trans (congrArg some (by kernel_rfl))
 t0 := Tryz.underlying0
 a0 := Tryz.isAgg0
 z0 := Tryz.sizeOf0
 v0 := Tryz.zeroValue0
 t3 := Tryz.underlying3
 a3 := Tryz.isAgg3
 z3 := Tryz.sizeOf3
 v3 := Tryz.zeroValue3
 t4 := Tryz.underlying4
 a4 := Tryz.isAgg4
 z4 := Tryz.sizeOf4
 v4 := Tryz.zeroValue4
 t5 := Tryz.underlying5
 a5 := Tryz.isAgg5
 z5 := Tryz.sizeOf5
 v5 := Tryz.zeroValue5
 t9 := Tryz.underlying9
 a9 := Tryz.isAgg9
 z9 := Tryz.sizeOf9
 v9 := Tryz.zeroValue9
 t21 := Tryz.underlying21
 a21 := Tryz.isAgg21
 z21 := Tryz.sizeOf21
 v21 := Tryz.zeroValue21
 t31 := Tryz.underlying22
 a31 := Tryz.isAgg22
 z31 := Tryz.sizeOf22
 v31 := Tryz.zeroValue22
 t46 := Tryz.underlying58
 a46 := Tryz.isAgg58
 z46 := Tryz.sizeOf58
 v46 := Tryz.zeroValue58
 t51 := Tryz.underlying92
 a51 := Tryz.isAgg92
 z51 := Tryz.sizeOf92
 v51 := Tryz.zeroValue92
 t105 := Tryz.underlying110
 a105 := Tryz.isAgg110
 z105 := Tryz.sizeOf110
 v105 := Tryz.zeroValue110
 t119 := Tryz.underlying141
 a119 := Tryz.isAgg141
 z119 := Tryz.sizeOf141
 t138 := Tryz.underlying143
 a138 := Tryz.isAgg143
 z138 := Tryz.sizeOf143
 v138 := Tryz.zeroValue143
 t139 := Tryz.underlying144
 a139 := Tryz.isAgg144
 z139 := Tryz.sizeOf144
 v139 := Tryz.zeroValue144
 t146 := Tryz.underlying145
 a146 := Tryz.isAgg145
 z146 := Tryz.sizeOf145
 v146 := Tryz.zeroValue145
 g1 := by kernel_rfl
 g3 := by kernel_rfl
 g4 := by kernel_rfl }
def Qfb : Go.Shelf.Ren := ⟨fun | 190 => 16 | 125 => 43 | 258 => 42 | 128 => 81 | 129 => 82 | 302 => 72 | 303 => 73 | 304 => 74 | 305 => 75 | 306 => 76 | 307 => 77 | 308 => 78 | 309 => 79 | 310 => 80 | 333 => 113 | 329 => 114 | 330 => 115 | 334 => 116 | 335 => 117 | 336 => 118 | 344 => 140 | n => n, fun | 31 => 22 | 9 => 9 | 3 => 3 | 46 => 58 | 0 => 0 | 51 => 92 | 53 => 94 | 4 => 4 | 183 => 84 | 182 => 83 | 131 => 89 | 5 => 5 | 218 => 124 | 222 => 128 | 228 => 139 | 229 => 68 | n => n, fun | n => n⟩
theorem Quj : Go.Proofs.Lays.n190 Tryz.prog Qfb := {
 mixed := by kernel_rfl
 f125 := Tryz.func43.trans (congrArg some (by kernel_rfl))
 f128 := Tryz.func81.trans (congrArg some (by kernel_rfl))
 f129 := Tryz.func82.trans (congrArg some (by kernel_rfl))
 f190 := Tryz.func16.trans (congrArg some (by kernel_rfl))
 f258 := Tryz.func42.trans (congrArg some (by kernel_rfl))
 f302 := Tryz.func72.trans (congrArg some (by kernel_rfl))
 f303 := Tryz.func73.trans (congrArg some (by kernel_rfl))
 f304 := Tryz.func74.trans (congrArg some (by kernel_rfl))
 f305 := Tryz.func75.trans (congrArg some (by kernel_rfl))
 f306 := Tryz.func76.trans (congrArg some (by kernel_rfl))
 f307 := Tryz.func77.trans (congrArg some (by kernel_rfl))
 f308 := Tryz.func78.trans (congrArg some (by kernel_rfl))
 f309 := Tryz.func79.trans (congrArg some (by kernel_rfl))
 f310 := Tryz.func80.trans (congrArg some (by kernel_rfl))
 f329 := Tryz.func114.trans (congrArg some (by kernel_rfl))
 f330 := Tryz.func115.trans (congrArg some (by kernel_rfl))
 f333 := Tryz.func113.trans (congrArg some (by kernel_rfl))
 f334 := Tryz.func116.trans (congrArg some (by kernel_rfl))
 f335 := Tryz.func117.trans (congrArg some (by kernel_rfl))
 f336 := Tryz.func118.trans (congrArg some (by kernel_rfl))
 f344 := Tryz.func140.trans (congrArg some (by kernel_rfl))
 t0 := Tryz.underlying0
 a0 := Tryz.isAgg0
 z0 := Tryz.sizeOf0
 v0 := Tryz.zeroValue0
 t3 := Tryz.underlying3
 a3 := Tryz.isAgg3
 z3 := Tryz.sizeOf3
 v3 := Tryz.zeroValue3
 t4 := Tryz.underlying4
 a4 := Tryz.isAgg4
 z4 := Tryz.sizeOf4
 v4 := Tryz.zeroValue4
 t5 := Tryz.underlying5
 a5 := Tryz.isAgg5
 z5 := Tryz.sizeOf5
 v5 := Tryz.zeroValue5
 t9 := Tryz.underlying9
 a9 := Tryz.isAgg9
 z9 := Tryz.sizeOf9
 v9 := Tryz.zeroValue9
 t31 := Tryz.underlying22
 a31 := Tryz.isAgg22
 z31 := Tryz.sizeOf22
 v31 := Tryz.zeroValue22
 t46 := Tryz.underlying58
 a46 := Tryz.isAgg58
 z46 := Tryz.sizeOf58
 v46 := Tryz.zeroValue58
 t51 := Tryz.underlying92
 a51 := Tryz.isAgg92
 z51 := Tryz.sizeOf92
 v51 := Tryz.zeroValue92
 t53 := Tryz.underlying94
 a53 := Tryz.isAgg94
 z53 := Tryz.sizeOf94
 v53 := Tryz.zeroValue94
 t131 := Tryz.underlying89
 a131 := Tryz.isAgg89
 z131 := Tryz.sizeOf89
 v131 := Tryz.zeroValue89
 t182 := Tryz.underlying83
 a182 := Tryz.isAgg83
 z182 := Tryz.sizeOf83
 v182 := Tryz.zeroValue83
 t183 := Tryz.underlying84
 a183 := Tryz.isAgg84
 z183 := Tryz.sizeOf84
 v183 := Tryz.zeroValue84
 t218 := Tryz.underlying124
 a218 := Tryz.isAgg124
 z218 := Tryz.sizeOf124
 v218 := Tryz.zeroValue124
 t222 := Tryz.underlying128
 a222 := Tryz.isAgg128
 z222 := Tryz.sizeOf128
 v222 := Tryz.zeroValue128
 t228 := Tryz.underlying139
 a228 := Tryz.isAgg139
 z228 := Tryz.sizeOf139
 v228 := Tryz.zeroValue139
 t229 := Tryz.underlying68
 a229 := Tryz.isAgg68
 z229 := Tryz.sizeOf68
 v229 := Tryz.zeroValue68 }
def Qlg : Go.Shelf.Ren := ⟨fun | 145 => 33 | 220 => 67 | 219 => 107 | 217 => 126 | 225 => 127 | 224 => 128 | 267 => 129 | 266 => 144 | 314 => 145 | n => n, fun | 9 => 9 | 4 => 4 | 59 => 51 | 3 => 3 | 5 => 5 | 46 => 58 | 146 => 145 | 51 => 92 | n => n, fun | 1 => 0 | n => n⟩
theorem layCut : Go.Proofs.Lays.n145 Tryz.prog Qlg := {
 mixed := by kernel_rfl
 f145 := Tryz.func33.trans (congrArg some (by kernel_rfl))
 f217 := Tryz.func126.trans (congrArg some (by kernel_rfl))
 f219 := Tryz.func107.trans (congrArg some (by kernel_rfl))
 f220 := Tryz.func67.trans (congrArg some (by kernel_rfl))
 f224 := Tryz.func128.trans (congrArg some (by kernel_rfl))
 f225 := Tryz.func127.trans (congrArg some (by kernel_rfl))
 f266 := Tryz.func144.trans (congrArg some (by kernel_rfl))
 f267 := Tryz.func129.trans (congrArg some (by kernel_rfl))
 f314 := Tryz.func145.trans (congrArg some (by kernel_rfl))
 t3 := Tryz.underlying3
 a3 := Tryz.isAgg3
 z3 := Tryz.sizeOf3
 v3 := Tryz.zeroValue3
 t4 := Tryz.underlying4
 a4 := Tryz.isAgg4
 z4 := Tryz.sizeOf4
 v4 := Tryz.zeroValue4
 t5 := Tryz.underlying5
 a5 := Tryz.isAgg5
 z5 := Tryz.sizeOf5
 v5 := Tryz.zeroValue5
 t9 := Tryz.underlying9
 a9 := Tryz.isAgg9
 z9 := Tryz.sizeOf9
 v9 := Tryz.zeroValue9
 t46 := Tryz.underlying58
 a46 := Tryz.isAgg58
 z46 := Tryz.sizeOf58
 v46 := Tryz.zeroValue58
 t51 := Tryz.underlying92
 a51 := Tryz.isAgg92
 z51 := Tryz.sizeOf92
 v51 := Tryz.zeroValue92
 t59 := Tryz.underlying51
 a59 := Tryz.isAgg51
 z59 := Tryz.sizeOf51
 v59 := Tryz.zeroValue51
 t146 := Tryz.underlying145
 a146 := Tryz.isAgg145
 z146 := Tryz.sizeOf145
 v146 := Tryz.zeroValue145
 g1 := by kernel_rfl }
def Qgx : Go.Shelf.Ren := ⟨fun | 145 => 33 | 220 => 67 | 219 => 107 | 217 => 126 | 225 => 127 | 224 => 128 | 267 => 129 | 266 => 144 | 314 => 145 | n => n, fun | 9 => 9 | 4 => 4 | 59 => 51 | 3 => 3 | 5 => 5 | 46 => 58 | 146 => 145 | 51 => 92 | n => n, fun | 1 => 0 | n => n⟩
theorem layCutM : Go.Proofs.LaysM.n145 Tryz.prog Qgx := {
 mixed := by kernel_rfl
 f145 := Tryz.func33.trans (congrArg some (by kernel_rfl))
 f217 := Tryz.func126.trans (congrArg some (by kernel_rfl))
 f219 := Tryz.func107.trans (congrArg some (by kernel_rfl))
 f220 := Tryz.func67.trans (congrArg some (by kernel_rfl))
 f224 := Tryz.func128.trans (congrArg some (by kernel_rfl))
 f225 := Tryz.func127.trans (congrArg some (by kernel_rfl))
 f266 := Tryz.func144.trans (congrArg some (by kernel_rfl))
 f267 := Tryz.func129.trans (congrArg some (by kernel_rfl))
 f314 := Tryz.func145.trans (congrArg some (by kernel_rfl))
 t3 := Tryz.underlying3
 a3 := Tryz.isAgg3
 z3 := Tryz.sizeOf3
 v3 := Tryz.zeroValue3
 t4 := Tryz.underlying4
 a4 := Tryz.isAgg4
 z4 := Tryz.sizeOf4
 v4 := Tryz.zeroValue4
 t5 := Tryz.underlying5
 a5 := Tryz.isAgg5
 z5 := Tryz.sizeOf5
 v5 := Tryz.zeroValue5
 t9 := Tryz.underlying9
 a9 := Tryz.isAgg9
 z9 := Tryz.sizeOf9
 v9 := Tryz.zeroValue9
 t46 := Tryz.underlying58
 a46 := Tryz.isAgg58
 z46 := Tryz.sizeOf58
 v46 := Tryz.zeroValue58
 t51 := Tryz.underlying92
 a51 := Tryz.isAgg92
 z51 := Tryz.sizeOf92
 v51 := Tryz.zeroValue92
 t59 := Tryz.underlying51
 a59 := Tryz.isAgg51
 z59 := Tryz.sizeOf51
 v59 := Tryz.zeroValue51
 t146 := Tryz.underlying145
 a146 := Tryz.isAgg145
 z146 := Tryz.sizeOf145
 v146 := Tryz.zeroValue145
 g1 := by kernel_rfl
 i3 := by kernel_rfl
 i4 := by kernel_rfl
 i5 := by kernel_rfl
 i9 := by kernel_rfl
 i46 := by kernel_rfl
 i51 := by kernel_rfl
 i59 := by kernel_rfl
 i146 := by kernel_rfl
 m1 := by kernel_rfl
 s1_3 := fun w h => Go.Proofs.cell_of_shapedOpen_int (zero := #[.int .i64 0]) (t := 3) h (of_decide_eq_true (by kernel_rfl)) (by kernel_rfl) rfl (by kernel_rfl) (by kernel_rfl) Tryz.underlying3 }
def Nv : Go.Shelf.Ren := ⟨fun | 156 => 70 | 165 => 110 | 166 => 111 | 169 => 112 | 240 => 138 | 241 => 139 | 276 => 151 | 277 => 152 | n => n, fun | 31 => 22 | 9 => 9 | 3 => 3 | 4 => 4 | 0 => 0 | 20 => 20 | 72 => 117 | 76 => 121 | 70 => 115 | 37 => 61 | 75 => 120 | 127 => 138 | 164 => 148 | 5 => 5 | 80 => 123 | n => n, fun | n => n⟩
theorem Ucc : Go.Proofs.Lays.n156 Tryz.prog Nv := {
 mixed := by kernel_rfl
 f156 := Tryz.func70.trans (congrArg some (by kernel_rfl))
 f165 := Tryz.func110.trans (congrArg some (by kernel_rfl))
 f166 := Tryz.func111.trans (congrArg some (by kernel_rfl))
 f169 := Tryz.func112.trans (congrArg some (by kernel_rfl))
 f240 := Tryz.func138.trans (congrArg some (by kernel_rfl))
 f241 := Tryz.func139.trans (congrArg some (by kernel_rfl))
 f276 := Tryz.func151.trans (congrArg some (by kernel_rfl))
 f277 := Tryz.func152.trans (congrArg some (by kernel_rfl))
 t0 := Tryz.underlying0
 a0 := Tryz.isAgg0
 z0 := Tryz.sizeOf0
 v0 := Tryz.zeroValue0
 t3 := Tryz.underlying3
 a3 := Tryz.isAgg3
 z3 := Tryz.sizeOf3
 v3 := Tryz.zeroValue3
 t4 := Tryz.underlying4
 a4 := Tryz.isAgg4
 z4 := Tryz.sizeOf4
 v4 := Tryz.zeroValue4
 t9 := Tryz.underlying9
 a9 := Tryz.isAgg9
 z9 := Tryz.sizeOf9
 v9 := Tryz.zeroValue9
 t20 := Tryz.underlying20
 a20 := Tryz.isAgg20
 z20 := Tryz.sizeOf20
 v20 := Tryz.zeroValue20
 t31 := Tryz.underlying22
 a31 := Tryz.isAgg22
 z31 := Tryz.sizeOf22
 v31 := Tryz.zeroValue22
 t37 := Tryz.underlying61
 a37 := Tryz.isAgg61
 z37 := Tryz.sizeOf61
 v37 := Tryz.zeroValue61
 t70 := Tryz.underlying115
 a70 := Tryz.isAgg115
 z70 := Tryz.sizeOf115
 v70 := Tryz.zeroValue115
 t72 := Tryz.underlying117
 a72 := Tryz.isAgg117
 z72 := Tryz.sizeOf117
 v72 := Tryz.zeroValue117
 t75 := Tryz.underlying120
 a75 := Tryz.isAgg120
 z75 := Tryz.sizeOf120
 v75 := Tryz.zeroValue120
 t76 := Tryz.underlying121
 a76 := Tryz.isAgg121
 z76 := Tryz.sizeOf121
 v76 := Tryz.zeroValue121
 t127 := Tryz.underlying138
 a127 := Tryz.isAgg138
 z127 := Tryz.sizeOf138
 v127 := Tryz.zeroValue138
 t164 := Tryz.underlying148
 a164 := Tryz.isAgg148
 z164 := Tryz.sizeOf148
 v164 := Tryz.zeroValue148 }
def layAtoi_ren : Go.Shelf.Ren := ⟨fun | 172 => 141 | 244 => 153 | 245 => 154 | 247 => 157 | 279 => 158 | 280 => 159 | 281 => 160 | 282 => 161 | 287 => 163 | 316 => 164 | 171 => 142 | 205 => 165 | 321 => 170 | 322 => 171 | 243 => 155 | 246 => 162 | 283 => 166 | 284 => 167 | 285 => 168 | 286 => 169 | 129 => 82 | 317 => 172 | 318 => 173 | 319 => 174 | 320 => 175 | 337 => 176 | 338 => 177 | n => n, fun | 9 => 9 | 3 => 3 | 75 => 120 | 76 => 121 | 4 => 4 | 5 => 5 | 167 => 152 | 37 => 61 | 0 => 0 | 85 => 153 | 2 => 2 | 168 => 155 | 53 => 94 | 175 => 159 | 46 => 58 | 210 => 162 | 127 => 138 | 145 => 171 | 143 => 169 | 21 => 21 | 171 => 164 | 173 => 166 | 212 => 173 | 51 => 92 | 20 => 20 | 213 => 174 | 232 => 175 | 233 => 176 | 80 => 123 | n => n, fun | 15 => 3 | 16 => 4 | 17 => 5 | 18 => 6 | 19 => 7 | n => n⟩
theorem Qfq : Go.Proofs.LaysC.n172 Tryz.prog layAtoi_ren := {
 mixed := by kernel_rfl
 f129 := Tryz.func82.trans (congrArg some (by kernel_rfl))
 f171 := Tryz.func142.trans (congrArg some (by kernel_rfl))
 f172 := Tryz.func141.trans (congrArg some (by kernel_rfl))
 f205 := Tryz.func165.trans (congrArg some (by kernel_rfl))
 f243 := Tryz.func155.trans (congrArg some (by kernel_rfl))
 f244 := Tryz.func153.trans (congrArg some (by kernel_rfl))
 f245 := Tryz.func154.trans (congrArg some (by kernel_rfl))
 f246 := Tryz.func162.trans (congrArg some (by kernel_rfl))
 f247 := Tryz.func157.trans (congrArg some (by kernel_rfl))
 f279 := Tryz.func158.trans (congrArg some (by kernel_rfl))
 f280 := Tryz.func159.trans (congrArg some (by kernel_rfl))
 f281 := Tryz.func160.trans (congrArg some (by kernel_rfl))
 f282 := Tryz.func161.trans (congrArg some (by kernel_rfl))
 f283 := Tryz.func166.trans (congrArg some (by kernel_rfl))
 f284 := Tryz.func167.trans (congrArg some (by kernel_rfl))
 f285 := Tryz.func168.trans (congrArg some (by kernel_rfl))
 f286 := Tryz.func169.trans (congrArg some (by kernel_rfl))
 f287 := Tryz.func163.trans (congrArg some (by kernel_rfl))
 f316 := Tryz.func164.trans (congrArg some (by kernel_rfl))
 f317 := Tryz.func172.trans (congrArg some (by kernel_rfl))
 f318 := Tryz.func173.trans (congrArg some (by kernel_rfl))
 f319 := Tryz.func174.trans (congrArg some (by kernel_rfl))
 f320 := Tryz.func175.trans (congrArg some (by kernel_rfl))
 f321 := Tryz.func170.trans (congrArg some (by kernel_rfl))
 f322 := Tryz.func171.trans (congrArg some (by kernel_rfl))
 f337 := Tryz.func176.trans (congrArg some (by kernel_rfl))
 f338 := Tryz.func177.trans (congrArg some (by kernel_rfl))
 t0 := Tryz.underlying0
 a0 := Tryz.isAgg0
 z0 := Tryz.sizeOf0
 v0 := Tryz.zeroValue0
 t2 := Tryz.underlying2
 a2 := Tryz.isAgg2
 z2 := Tryz.sizeOf2
 v2 := Tryz.zeroValue2
 t3 := Tryz.underlying3
 a3 := Tryz.isAgg3
 z3 := Tryz.sizeOf3
 v3 := Tryz.zeroValue3
 t4 := Tryz.underlying4
 a4 := Tryz.isAgg4
 z4 := Tryz.sizeOf4
 v4 := Tryz.zeroValue4
 t5 := Tryz.underlying5
 a5 := Tryz.isAgg5
 z5 := Tryz.sizeOf5
 v5 := Tryz.zeroValue5
 t9 := Tryz.underlying9
 a9 := Tryz.isAgg9
 z9 := Tryz.sizeOf9
 v9 := Tryz.zeroValue9
 t20 := Tryz.underlying20
 a20 := Tryz.isAgg20
 z20 := Tryz.sizeOf20
 v20 := Tryz.zeroValue20
 t21 := Tryz.underlying21
 a21 := Tryz.isAgg21
 z21 := Tryz.sizeOf21
 v21 := Tryz.zeroValue21
 t37 := Tryz.underlying61
 a37 := Tryz.isAgg61
 z37 := Tryz.sizeOf61
 v37 := Tryz.zeroValue61
 t46 := Tryz.underlying58
 a46 := Tryz.isAgg58
 z46 := Tryz.sizeOf58
 v46 := Tryz.zeroValue58
 t51 := Tryz.underlying92
 a51 := Tryz.isAgg92
 z51 := Tryz.sizeOf92
 v51 := Tryz.zeroValue92
 t53 := Tryz.underlying94
 a53 := Tryz.isAgg94
 z53 := Tryz.sizeOf94
 v53 := Tryz.zeroValue94
 t75 := Tryz.underlying120
 a75 := Tryz.isAgg120
 z75 := Tryz.sizeOf120
 v75 := Tryz.zeroValue120
 t76 := Tryz.underlying121
 a76 := Tryz.isAgg121
 z76 := Tryz.sizeOf121
 v76 := Tryz.zeroValue121
 t85 := Tryz.underlying153
 a85 := Tryz.isAgg153
 z85 := Tryz.sizeOf153
 v85 := Tryz.zeroValue153
 t127 := Tryz.underlying138
 a127 := Tryz.isAgg138
 z127 := Tryz.sizeOf138
 v127 := Tryz.zeroValue138
 t143 := Tryz.underlying169
 a143 := Tryz.isAgg169
 z143 := Tryz.sizeOf169
 v143 := Tryz.zeroValue169
 t145 := Tryz.underlying171
 a145 := Tryz.isAgg171
 z145 := Tryz.sizeOf171
 v145 := Tryz.zeroValue171
 t167 := Tryz.underlying152
 a167 := Tryz.isAgg152
 z167 := Tryz.sizeOf152
 v167 := Tryz.zeroValue152
 t168 := Tryz.underlying155
 a168 := Tryz.isAgg155
 z168 := Tryz.sizeOf155
 v168 := Tryz.zeroValue155
 t171 := Tryz.underlying164
 a171 := Tryz.isAgg164
 z171 := Tryz.sizeOf164
 v171 := Tryz.zeroValue164
 t173 := Tryz.underlying166
 a173 := Tryz.isAgg166
 z173 := Tryz.sizeOf166
 v173 := Tryz.zeroValue166
 t175 := Tryz.underlying159
 a175 := Tryz.isAgg159
 z175 := Tryz.sizeOf159
 v175 := Tryz.zeroValue159
 t210 := Tryz.underlying162
 a210 := Tryz.isAgg162
 z210 := Tryz.sizeOf162
 v210 := Tryz.zeroValue162
 t212 := Tryz.underlying173
 a212 := Tryz.isAgg173
 z212 := Tryz.sizeOf173
 v212 := Tryz.zeroValue173
 t213 := Tryz.underlying174
 a213 := Tryz.isAgg174
 z213 := Tryz.sizeOf174
 t232 := Tryz.underlying175
 a232 := Tryz.isAgg175
 z232 := Tryz.sizeOf175
 v232 := Tryz.zeroValue175
 t233 := Tryz.underlying176
 a233 := Tryz.isAgg176
 z233 := Tryz.sizeOf176
 v233 := Tryz.zeroValue176
 g15 := by kernel_rfl
 g16 := by kernel_rfl
 g17 := by kernel_rfl
 g18 := by kernel_rfl
 g19 := by kernel_rfl
 t80 := Tryz.underlying123
 a80 := Tryz.isAgg123
 z80 := Tryz.sizeOf123
 v80 := Tryz.zeroValue123
 i0 := by kernel_rfl
 i2 := by kernel_rfl
 i3 := by kernel_rfl
 i4 := by kernel_rfl
 i5 := by kernel_rfl
 i9 := by kernel_rfl
 i20 := by kernel_rfl
 i21 := by kernel_rfl
 i37 := by kernel_rfl
 i46 := by kernel_rfl
 i51 := by kernel_rfl
 i53 := by kernel_rfl
 i75 := by kernel_rfl
 i76 := by kernel_rfl
 i80 := by kernel_rfl
 i85 := by kernel_rfl
 i127 := by kernel_rfl
 i143 := by kernel_rfl
 i145 := by kernel_rfl
 i167 := by kernel_rfl
 i168 := by kernel_rfl
 i171 := by kernel_rfl
 i173 := by kernel_rfl
 i175 := by kernel_rfl
 i210 := by kernel_rfl
 i212 := by kernel_rfl
 i232 := by kernel_rfl
 i233 := by kernel_rfl
 m15 := by kernel_rfl
 m16 := by kernel_rfl
 m17 := by kernel_rfl
 m18 := by kernel_rfl
 m19 := by kernel_rfl
 c0 := by kernel_rfl
 c2 := by kernel_rfl
 c3 := by kernel_rfl
 c4 := by kernel_rfl
 c5 := by kernel_rfl
 c9 := by kernel_rfl
 c20 := by kernel_rfl
 c21 := by kernel_rfl
 c37 := by kernel_rfl
 c46 := by kernel_rfl
 c51 := by kernel_rfl
 c53 := by kernel_rfl
 c75 := by kernel_rfl
 c76 := by kernel_rfl
 c80 := by kernel_rfl
 c85 := by kernel_rfl
 c127 := by kernel_rfl
 c143 := by kernel_rfl
 c145 := by kernel_rfl
 c167 := by kernel_rfl
 c168 := by kernel_rfl
 c171 := by kernel_rfl
 c173 := by kernel_rfl
 c175 := by kernel_rfl
 c210 := by kernel_rfl
 c212 := by kernel_rfl
 c213 := by kernel_rfl
 c232 := by kernel_rfl
 c233 := by kernel_rfl }
def layItoa_ren : Go.Shelf.Ren := ⟨fun | 171 => 142 | 243 => 155 | 246 => 162 | 283 => 166 | 284 => 167 | 285 => 168 | 286 => 169 | 129 => 82 | 317 => 172 | 318 => 173 | 319 => 174 | 320 => 175 | 337 => 176 | 338 => 177 | n => n, fun | 3 => 3 | 9 => 9 | 2 => 2 | 4 => 4 | 171 => 164 | 0 => 0 | 53 => 94 | 37 => 61 | 5 => 5 | 173 => 166 | 212 => 173 | 51 => 92 | 20 => 20 | 213 => 174 | 46 => 58 | 232 => 175 | 233 => 176 | n => n, fun | 17 => 5 | 18 => 6 | 19 => 7 | n => n⟩
theorem layItoa : Go.Proofs.LaysM.n171 Tryz.prog layItoa_ren := {
 mixed := by kernel_rfl
 f129 := Tryz.func82.trans (congrArg some (by kernel_rfl))
 f171 := Tryz.func142.trans (congrArg some (by kernel_rfl))
 f243 := Tryz.func155.trans (congrArg some (by kernel_rfl))
 f246 := Tryz.func162.trans (congrArg some (by kernel_rfl))
 f283 := Tryz.func166.trans (congrArg some (by kernel_rfl))
 f284 := Tryz.func167.trans (congrArg some (by kernel_rfl))
 f285 := Tryz.func168.trans (congrArg some (by kernel_rfl))
 f286 := Tryz.func169.trans (congrArg some (by kernel_rfl))
 f317 := Tryz.func172.trans (congrArg some (by kernel_rfl))
 f318 := Tryz.func173.trans (congrArg some (by kernel_rfl))
 f319 := Tryz.func174.trans (congrArg some (by kernel_rfl))
 f320 := Tryz.func175.trans (congrArg some (by kernel_rfl))
 f337 := Tryz.func176.trans (congrArg some (by kernel_rfl))
 f338 := Tryz.func177.trans (congrArg some (by kernel_rfl))
 t0 := Tryz.underlying0
 a0 := Tryz.isAgg0
 z0 := Tryz.sizeOf0
 v0 := Tryz.zeroValue0
 t2 := Tryz.underlying2
 a2 := Tryz.isAgg2
 z2 := Tryz.sizeOf2
 v2 := Tryz.zeroValue2
 t3 := Tryz.underlying3
 a3 := Tryz.isAgg3
 z3 := Tryz.sizeOf3
 v3 := Tryz.zeroValue3
 t4 := Tryz.underlying4
 a4 := Tryz.isAgg4
 z4 := Tryz.sizeOf4
 v4 := Tryz.zeroValue4
 t5 := Tryz.underlying5
 a5 := Tryz.isAgg5
 z5 := Tryz.sizeOf5
 v5 := Tryz.zeroValue5
 t9 := Tryz.underlying9
 a9 := Tryz.isAgg9
 z9 := Tryz.sizeOf9
 v9 := Tryz.zeroValue9
 t20 := Tryz.underlying20
 a20 := Tryz.isAgg20
 z20 := Tryz.sizeOf20
 v20 := Tryz.zeroValue20
 t37 := Tryz.underlying61
 a37 := Tryz.isAgg61
 z37 := Tryz.sizeOf61
 v37 := Tryz.zeroValue61
 t46 := Tryz.underlying58
 a46 := Tryz.isAgg58
 z46 := Tryz.sizeOf58
 v46 := Tryz.zeroValue58
 t51 := Tryz.underlying92
 a51 := Tryz.isAgg92
 z51 := Tryz.sizeOf92
 v51 := Tryz.zeroValue92
 t53 := Tryz.underlying94
 a53 := Tryz.isAgg94
 z53 := Tryz.sizeOf94
 v53 := Tryz.zeroValue94
 t171 := Tryz.underlying164
 a171 := Tryz.isAgg164
 z171 := Tryz.sizeOf164
 v171 := Tryz.zeroValue164
 t173 := Tryz.underlying166
 a173 := Tryz.isAgg166
 z173 := Tryz.sizeOf166
 v173 := Tryz.zeroValue166
 t212 := Tryz.underlying173
 a212 := Tryz.isAgg173
 z212 := Tryz.sizeOf173
 v212 := Tryz.zeroValue173
 t213 := Tryz.underlying174
 a213 := Tryz.isAgg174
 z213 := Tryz.sizeOf174
 t232 := Tryz.underlying175
 a232 := Tryz.isAgg175
 z232 := Tryz.sizeOf175
 v232 := Tryz.zeroValue175
 t233 := Tryz.underlying176
 a233 := Tryz.isAgg176
 z233 := Tryz.sizeOf176
 v233 := Tryz.zeroValue176
 g17 := by kernel_rfl
 g18 := by kernel_rfl
 g19 := by kernel_rfl
 i0 := by kernel_rfl
 i2 := by kernel_rfl
 i3 := by kernel_rfl
 i4 := by kernel_rfl
 i5 := by kernel_rfl
 i9 := by kernel_rfl
 i20 := by kernel_rfl
 i37 := by kernel_rfl
 i46 := by kernel_rfl
 i51 := by kernel_rfl
 i53 := by kernel_rfl
 i171 := by kernel_rfl
 i173 := by kernel_rfl
 i212 := by kernel_rfl
 i232 := by kernel_rfl
 i233 := by kernel_rfl
 m17 := by kernel_rfl
 m18 := by kernel_rfl
 m19 := by kernel_rfl }
theorem Qwc : Builder.Extra Tryz.prog Nv where
 sizeBuilder := by kernel_rfl
 liesBuilder := by kernel_rfl
 t5 := Tryz.underlying5
 a5 := Tryz.isAgg5
 z5 := Tryz.sizeOf5
 v5 := Tryz.zeroValue5
 infoByte := by kernel_rfl
 cellsByte := by kernel_rfl
 sizeByte := by kernel_rfl
 neB5 := by decide
end Go.Proofs.YtbaholefcgacpaaGreatDoor
namespace Go.Proofs.YtbaholefcgacpaaGreatDoor
open Go.RowKit
set_option maxRecDepth 100000
set_option linter.unusedVariables false
set_option linter.unusedSimpArgs false
open Go.Shelf
def decN (s : ByteArray) : Int := match Lib.atoiAll s.data.toList with
 | .ok v => bif decide (0 ≤ v) && (Lib.itoa v == s.data.toList) then v else -1
 | _ => -1
theorem GP.tab {w : World} (h : GP w) : Lib.TabIs Tryz.prog w "internal/strconv.uint64pow10" .u64 Lib.pow10Tab := by
 obtain ⟨T, fz, h1⟩ := h.2.2 _ (List.mem_append_right _ (List.mem_singleton.2 rfl))
 have hg := layItoa.m17
 unfold Lib.TabIs World.var?
 rw [hg]
 simp only [Option.bind_some]
 exact (congrArg (fun o => match o with | some (Obj.cells cs _ _) => some cs | _ => none) h1)
theorem GP.err1 {w : World} (h : GP w) : ∃ e, w.cell? ⟨layAtoi_ren.g 15, 0, none⟩ = some e ∧ (e = .nilIface ∨ ∃ te pe, e = .iface te pe) := h.1 _ (by decide)
theorem GP.err2 {w : World} (h : GP w) : ∃ e, w.cell? ⟨layAtoi_ren.g 16, 0, none⟩ = some e ∧ (e = .nilIface ∨ ∃ te pe, e = .iface te pe) := h.1 _ (by decide)
theorem Qrt {w w' : World} (h : Lib.TabIs Tryz.prog w "internal/strconv.uint64pow10" .u64 Lib.pow10Tab) (hb : Below w.heap.size w w') : Lib.TabIs Tryz.prog w' "internal/strconv.uint64pow10" .u64 Lib.pow10Tab := by
 unfold Lib.TabIs World.var? at h ⊢
 rw [layItoa.m17] at h ⊢
 simp only [Option.bind_some] at h ⊢
 have hlt : layItoa_ren.g 17 < w.heap.size := by
  rcases Nat.lt_or_ge (layItoa_ren.g 17) w.heap.size with h1 | h1
  ·exact h1
  ·rw [Array.getElem?_eq_none h1] at h; cases h
 rw [hb.block _ hlt]
 exact h
set_option maxHeartbeats 1000000 in
theorem Qjf (s : ByteArray) (w : World) (v0 : Int) (R : World → Prop) (hI : Calls Tryz.prog 141 #[.string s] w fun e w' => (∃ N, e = .returned (.tuple #[.int .i64 v0, .iface (layAtoi_ren.t 168) (.pointer (some ⟨N, 0, none⟩))])) ∧ Below w.heap.size w w') :
  Calls Tryz.prog 120 #[.string s] w fun e w' => e = .returned (.int .i64 (-1)) ∧ Below w.heap.size w w' := by
 go_enter Tryz.func120, Tryz.ntmps120
 go_wp2_with (go_at_call 141; refine hI.mono ?_; rintro e W1 ⟨⟨N, rfl⟩, hW⟩)
 go_ret
 exact ⟨rfl, hW⟩
set_option maxHeartbeats 1000000 in
theorem Ucn (s : ByteArray) (w : World) (v : Int) (hv : decide (v < 0) = true) (hI : Calls Tryz.prog 141 #[.string s] w fun e w' => e = .returned (.tuple #[.int .i64 v, .nilIface]) ∧ Below w.heap.size w w') :
  Calls Tryz.prog 120 #[.string s] w fun e w' => e = .returned (.int .i64 (-1)) ∧ Below w.heap.size w w' := by
 go_enter Tryz.func120, Tryz.ntmps120
 go_wp2_with (go_at_call 141; refine hI.mono ?_; rintro e W1 ⟨rfl, hW⟩)
 go_ret
 exact ⟨rfl, hW⟩
set_option maxHeartbeats 1000000 in
theorem Ubu (s : ByteArray) (w : World) (v : Int) (hv : decide (v < 0) = false) (hv2 : v ≤ 9223372036854775807) (ht : Lib.TabIs Tryz.prog w "internal/strconv.uint64pow10" .u64 Lib.pow10Tab)
  (hI : Calls Tryz.prog 141 #[.string s] w fun e w' => e = .returned (.tuple #[.int .i64 v, .nilIface]) ∧ Below w.heap.size w w') :
  Calls Tryz.prog 120 #[.string s] w fun e w' => e = .returned (.int .i64 (bif Lib.itoa v == s.data.toList then v else -1)) ∧ Below w.heap.size w w' := by
 have hv0 : 0 ≤ v := by simpa using hv
 have hT : ∀ W1, Below w.heap.size w W1 → Calls Tryz.prog 142 #[.int .i64 v] W1 fun e w' => e = .returned (.string ⟨(Lib.itoa v).toArray⟩) ∧ Below W1.heap.size W1 w' := fun W1 hW => by
  refine (Any.strconv_Itoa layItoa v (by omega) hv2 W1 (Qrt ht hW)).mono ?_
  rintro e w' ⟨rfl, k, os, rfl⟩
  exact ⟨rfl, ⟨rfl, rfl, rfl, by simp [Go.Sort.grow], fun b hb => by simp [Go.Sort.grow, Array.getElem?_append_left hb]⟩⟩
 have H := Lib.hid hT
 clear hT
 have key : (bif Lib.itoa v == s.data.toList then v else -1) = (bif (!(Lib.itoa v == s.toList)) then -1 else v) := by
  have e : s.toList = s.data.toList := Qu s
  rw [e]
  cases (Lib.itoa v == s.data.toList) <;> rfl
 rw [key]
 clear key
 go_enter Tryz.func120, Tryz.ntmps120
 go_wp2_with (first | (go_at_call 141; refine hI.mono ?_; rintro e W1 ⟨rfl, hW⟩) | (go_at_call 142; refine (H.out _ hW).mono ?_; rintro e W2 ⟨rfl, hW2⟩))
 all_goals
  rename_i hq
  rw [hq]
  go_ret
  exact ⟨rfl, hW.trans (hW2.mono hW.size)⟩
theorem dec_ok (s : ByteArray) (hs : s.size ≤ 281474976710656) (w : World) (hG : GP w) :
  Calls Tryz.prog 120 #[.string s] w fun e w' => e = .returned (.int .i64 (decN s)) ∧ Below w.heap.size w w' := by
 unfold decN
 cases h : Lib.atoiAll s.data.toList with
 | ok v =>
  obtain ⟨b0, b1⟩ := Lib.atoiAll_bounds h
  have hI : Calls Tryz.prog 141 #[.string s] w fun e w' => e = .returned (.tuple #[.int .i64 v, .nilIface]) ∧ Below w.heap.size w w' := by
   refine (Any.strconv_Atoi_ok Qfq s (by omega) v h w).mono ?_
   rintro e w' ⟨rfl, hw⟩
   refine ⟨rfl, ?_⟩
   rcases hw with rfl | ⟨t, rfl⟩
   ·exact Below.refl _ _
   ·exact Lib.bytesWorld_below _ _ _
  by_cases hv : v < 0
  ·have e1 : (bif decide (0 ≤ v) && (Lib.itoa v == s.data.toList) then v else -1) = -1 := by
    rw [decide_eq_false (by omega)]; rfl
   simp only [e1]
   exact Ucn s w v (decide_eq_true hv) hI
  ·have e1 : (bif decide (0 ≤ v) && (Lib.itoa v == s.data.toList) then v else -1) = (bif Lib.itoa v == s.data.toList then v else -1) := by
    rw [decide_eq_true (by omega), Bool.true_and]
   simp only [e1]
   exact Ubu s w v (decide_eq_false hv) (by omega) hG.tab hI
 | range =>
  obtain ⟨ev, h1, h2⟩ := hG.err2
  refine Qjf s w (Lib.atoiSat s.data.toList) (fun _ => True) ((Any.strconv_Atoi_range Qfq s hs h ev w h1 h2).mono ?_)
  rintro e w' ⟨N, rfl, _, _, hb⟩
  exact ⟨⟨N, rfl⟩, hb⟩
 | _ =>
  obtain ⟨ev, h1, h2⟩ := hG.err1
  refine Qjf s w 0 (fun _ => True) ((Any.strconv_Atoi_syntax Qfq s hs h ev w h1 h2).mono ?_)
  rintro e w' ⟨N, rfl, _, _, hb⟩
  exact ⟨⟨N, rfl⟩, hb⟩
theorem Qmy (s : ByteArray) : Spec.ok Tryz.prog 120 ⟨[.r (.c (.v (.string s)))], .v (.int .i64 (decN s)), s.size ≤ 281474976710656⟩ false := by
 intro hs S w vs fp hS hG hA
 obtain ⟨u, us, f, g, rfl, ⟨⟨rfl, _⟩, rfl⟩, ⟨rfl, rfl⟩, rfl, _⟩ := hA
 refine (dec_ok s hs w hG.1).mono fun e w' ⟨h1, h2⟩ => ?_
 exact ⟨_, [], [], h1, ⟨rfl, rfl, rfl⟩, ⟨_, _, [], [], rfl, rfl, rfl, rfl⟩, List.nodup_nil, fun b hb => by simp at hb, ⟨h2.os, h2.tape, h2.output, h2.size, fun k hk _ => h2.block k hk, Nat.zero_le _⟩⟩
end Go.Proofs.YtbaholefcgacpaaGreatDoor
namespace Go.Proofs.YtbaholefcgacpaaGreatDoor
theorem ai {a b : Prop} (h : a) (k : b) : a ∧ b := ⟨h, k⟩
theorem ir {d:Dat}:Imp d d := Imp.refl d
abbrev vI (x : Int) : Value := .int .i64 x
open Go.RowKit
set_option maxRecDepth 100000
set_option linter.unusedVariables false
set_option linter.unusedSimpArgs false
theorem mixed : Tryz.prog.follows .mixedOrders = true := Checked.mixed Tryz.checked
def F33 (s : ByteArray) (sep : ByteArray) : ByteArray × ByteArray × Bool :=
 cut3 s sep
def S33 (s : ByteArray) (sep : ByteArray) : Spec := ⟨[.r (.c (.v (.string s))), .r (.c (.v (.string sep)))], .tu [.v (.string ((F33 s sep).1)), .v (.string ((F33 s sep).2.1)), .v (.bool ((F33 s sep).2.2))], s.size ≤ 4294967280⟩
theorem ok33 (s : ByteArray) (sep : ByteArray) : (S33 s sep).ok Tryz.prog 33 :=
 cut_ok layCut (by decide) s sep
theorem g33_0 (s : ByteArray) (sep : ByteArray) : (F33 s sep).1.size ≤ (s.size : Int) := by
 exact Qaj s sep
theorem g33_1 (s : ByteArray) (sep : ByteArray) : (F33 s sep).2.1.size ≤ (s.size : Int) := by
 exact Qvt s sep
def F120 (text : ByteArray) : Int :=
 decN text
def S120 (text : ByteArray) : Spec := ⟨[.r (.c (.v (.string text)))], .v (vI (F120 text)), text.size ≤ 281474976710656⟩
theorem ok120 (text : ByteArray) : (S120 text).ok Tryz.prog 120 false :=
 Qmy text
def F34 (n : Int) (low : Int) (high : Int) : Bool :=
 (bif decide (low ≤ n) then decide (n ≤ high) else false)
def S34 (R : Bool) (n : Int) (low : Int) (high : Int) : Spec := ⟨[.r (.c (.v (vI n))), .r (.c (.v (vI low))), .r (.c (.v (vI high)))], .v (.bool R), True⟩
theorem ok34 (n : Int) (low : Int) (high : Int) : (S34 (F34 n low high) n low high).ok Tryz.prog 34 :=
 Qj mixed (fn := Tryz.f34) (ct := .seq .no (.seq .no .no)) Tryz.func34 (fun (_ : True) => fiB (bif decide (low ≤ n) then decide (n ≤ high) else false) (F34 n low high) rfl) (by kernel_rfl)
theorem as34 (n : Int) (low : Int) (high : Int) : F34 n low high = (decide (low ≤ n ∧ n ≤ high)) := by
 simp only [F34, Bool.decide_and, bandd]
theorem oa34 (n : Int) (low : Int) (high : Int) : (S34 (decide (low ≤ n ∧ n ≤ high)) n low high).ok Tryz.prog 34 := by
 intro hp; have h := ok34 n low high hp; rw [as34 n low high] at h; exact h
theorem kc33 (s : ByteArray) (sep : ByteArray) {K_ : Prop} (p0_ : s.size ≤ 4294967280) (k_ : ((F33 s sep).1.size ≤ (s.size : Int)) → ((F33 s sep).2.1.size ≤ (s.size : Int)) → K_) : (s.size ≤ 4294967280) ∧ (Imp (.v (.string s)) (.v (.string s))) ∧ (Imp (.v (.string sep)) (.v (.string sep))) ∧ K_ := ⟨p0_, Imp.refl _, Imp.refl _, k_ (g33_0 s sep) (g33_1 s sep)⟩
theorem Qpr (text : ByteArray) {K_ : Prop} (p0_ : text.size ≤ 281474976710656) (k_ : K_) : (text.size ≤ 281474976710656) ∧ (Imp (.v (.string text)) (.v (.string text))) ∧ K_ := ⟨p0_, Imp.refl _, k_⟩
abbrev Qtu (s : ByteArray) (sep : ByteArray) : Hint false Tryz.prog := .call 33 (S33 s sep) ((ok33 s sep).to false) none
abbrev Qod (text : ByteArray) : Hint false Tryz.prog := .call 120 (S120 text) (ok120 text) none
theorem Qhg (n : Int) (low : Int) (high : Int) {K_ : Prop} (k_ : K_) : (True) ∧ (Imp (.v (vI n)) (.v (vI n))) ∧ (Imp (.v (vI low)) (.v (vI low))) ∧ (Imp (.v (vI high)) (.v (vI high))) ∧ K_ := ⟨trivial, Imp.refl _, Imp.refl _, Imp.refl _, k_⟩
theorem Qoe {K_ : Prop} (c_ b_ : Bool) (n : Int) (low : Int) (high : Int) (k_ : K_) : (c_ = b_ → True) ∧ (c_ = b_ → Imp (.v (vI n)) (.v (vI n))) ∧ (c_ = b_ → Imp (.v (vI low)) (.v (vI low))) ∧ (c_ = b_ → Imp (.v (vI high)) (.v (vI high))) ∧ K_ := ⟨fun _ => trivial, fun _ => Imp.refl _, fun _ => Imp.refl _, fun _ => Imp.refl _, k_⟩
abbrev Ej (n : Int) (low : Int) (high : Int) : Hint false Tryz.prog := .call 34 (S34 (decide (low ≤ n ∧ n ≤ high)) n low high) ((oa34 n low high).to false) none
abbrev w0_ : ByteArray := ⟨#[46]⟩
def F92 (text : ByteArray) : Int :=
 bif (bif (bif (!((F33 text (⟨#[46]⟩ : ByteArray)).2.2)) then true else (!(decide (0 ≤ (F120 ((F33 text (⟨#[46]⟩ : ByteArray)).1)) ∧ (F120 ((F33 text (⟨#[46]⟩ : ByteArray)).1)) ≤ 255)))) then true else (!(decide (0 ≤ (F120 ((F33 text (⟨#[46]⟩ : ByteArray)).2.1)) ∧ (F120 ((F33 text (⟨#[46]⟩ : ByteArray)).2.1)) ≤ 255)))) then (-1) else (IntKind.i64.wrap ((IntKind.i64.wrap (256 * (F120 ((F33 text (⟨#[46]⟩ : ByteArray)).1)))) + (F120 ((F33 text (⟨#[46]⟩ : ByteArray)).2.1))))
def S92 (text : ByteArray) : Spec := ⟨[.r (.c (.v (.string text)))], .v (vI (F92 text)), text.size ≤ 1048576⟩
theorem ok92 (text : ByteArray) : (S92 text).ok Tryz.prog 92 false :=
 Qj mixed (fn := Tryz.f92) (ct := .seq .no (.seq (.reg [(1, Qtu text w0_)]) (.seq (.reg [(1, Qod ((F33 text w0_).1)), (3, Qod ((F33 text w0_).2.1))]) (.seq (.seq (.reg [(4, Ej (F120 ((F33 text w0_).1)) 0 255), (9, Ej (F120 ((F33 text w0_).2.1)) 0 255)]) (.cond (.seq .no .no) .no)) (.seq .no .no))))) Tryz.func92 (fun (hpre0 : text.size ≤ 1048576) => kc33 text w0_ (by omega) (fun gv1 gv2 => Qpr ((F33 text w0_).1) (by omega) (Qpr ((F33 text w0_).2.1) (by omega) (Qoe (!((F33 text w0_).2.2)) false (F120 ((F33 text w0_).1)) 0 255 (Qoe (bif (!((F33 text w0_).2.2)) then true else (!(decide (0 ≤ (F120 ((F33 text w0_).1)) ∧ (F120 ((F33 text w0_).1)) ≤ 255)))) false (F120 ((F33 text w0_).2.1)) 0 255 (ifb (bif (bif (!((F33 text w0_).2.2)) then true else (!(decide (0 ≤ (F120 ((F33 text w0_).1)) ∧ (F120 ((F33 text w0_).1)) ≤ 255)))) then true else (!(decide (0 ≤ (F120 ((F33 text w0_).2.1)) ∧ (F120 ((F33 text w0_).2.1)) ≤ 255)))) (fun h5 => fiI (-1) (F92 text) (condT h5 rfl)) (fun h5 => have _ : (F33 text w0_).2.2 = true := (Uw (orF1 (orF1 h5))); have _ : 0 ≤ (F120 ((F33 text w0_).1)) ∧ (F120 ((F33 text w0_).1)) ≤ 255 := of_decide_eq_true (Uw (orF2 (orF1 h5))); have _ : 0 ≤ (F120 ((F33 text w0_).2.1)) ∧ (F120 ((F33 text w0_).2.1)) ≤ 255 := of_decide_eq_true (Uw (orF2 h5)); fiI (IntKind.i64.wrap ((IntKind.i64.wrap (256 * (F120 ((F33 text w0_).1)))) + (F120 ((F33 text w0_).2.1)))) (F92 text) (condF h5 rfl)))))))) (by kernel_rfl)
structure Qb where
 Addr : Int
 Len : Int
 deriving DecidableEq, Inhabited
def Qg (x : Qb) : List Dat := [.v (vI x.Addr), .v (vI x.Len)]
def F143 (p : Qb) : Int :=
 (IntKind.i64.wrap (1 * 2 ^ (min (16 - p.Len).toNat IntKind.i64.bits)))
def S143 (p : Qb) : Spec := ⟨[.r (.g (Qg p))], .v (vI (F143 p)), 0 ≤ p.Len ∧ p.Len ≤ 16⟩
theorem ok143 (p : Qb) : (S143 p).ok Tryz.prog 143 :=
 Qj mixed (fn := Tryz.f143) (ct := .seq .no (.seq (.reg [(2, .bnd)]) .no)) Tryz.func143 (fun (hp : 0 ≤ p.Len ∧ p.Len ≤ 16) => have hpre0 := hp.1; have hpre1 := hp.2; ai (iok (16 - p.Len) (by omega)) (ai (by omega : 0 ≤ (16 - p.Len)) (fiI (IntKind.i64.wrap (1 * 2 ^ (min (16 - p.Len).toNat IntKind.i64.bits))) (F143 p) rfl))) (by kernel_rfl)
theorem Qlm (p : Qb) : 0 ≤ p.Len → p.Len ≤ 16 → 1 ≤ (F143 p) ∧ (F143 p) ≤ 65536 := by
 obtain ⟨a, l⟩ := p; intro h1 h2; simp only at h1 h2; have h3 : l = 0 ∨ l = 1 ∨ l = 2 ∨ l = 3 ∨ l = 4 ∨ l = 5 ∨ l = 6 ∨ l = 7 ∨ l = 8 ∨ l = 9 ∨ l = 10 ∨ l = 11 ∨ l = 12 ∨ l = 13 ∨ l = 14 ∨ l = 15 ∨ l = 16 := by omega
 rcases h3 with rfl | rfl | rfl | rfl | rfl | rfl | rfl | rfl | rfl | rfl | rfl | rfl | rfl | rfl | rfl | rfl | rfl <;> exact of_decide_eq_true rfl
abbrev Qoh (n : Int) (low : Int) (high : Int) : Hint true Tryz.prog := .call 34 (S34 (decide (low ≤ n ∧ n ≤ high)) n low high) (oa34 n low high) none
theorem kc143 (p : Qb) {K_ : Prop} (p0_ : 0 ≤ p.Len) (p1_ : p.Len ≤ 16) (q0_ : 0 ≤ p.Len) (q1_ : p.Len ≤ 16) (k_ : (1 ≤ (F143 p) ∧ (F143 p) ≤ 65536) → (0 ≤ p.Len → p.Len ≤ 16 → 1 ≤ (F143 p) ∧ (F143 p) ≤ 65536) → K_) : (0 ≤ p.Len ∧ p.Len ≤ 16) ∧ (Imps (Qg p) (Qg p)) ∧ K_ := ⟨⟨p0_, p1_⟩, Imps.refl _, k_ (Qlm p q0_ q1_) (Qlm p)⟩
theorem kg143 {K_ : Prop} (c_ b_ : Bool) (p : Qb) (p_ : c_ = b_ → 0 ≤ p.Len ∧ p.Len ≤ 16) (k_ : K_) : (c_ = b_ → 0 ≤ p.Len ∧ p.Len ≤ 16) ∧ (c_ = b_ → Imps (Qg p) (Qg p)) ∧ K_ := ⟨p_, fun _ => Imps.refl _, k_⟩
abbrev kh143 (p : Qb) : Hint true Tryz.prog := .call 143 (S143 p) (ok143 p) none
def F123 (p : Qb) : Bool :=
 (bif (bif (decide (0 ≤ p.Len ∧ p.Len ≤ 16)) then (decide (0 ≤ p.Addr ∧ p.Addr ≤ 65535)) else false) then ((p.Addr.tmod (F143 p)) == 0) else false)
def S123 (p : Qb) : Spec := ⟨[.r (.g (Qg p))], .v (.bool (F123 p)), True⟩
theorem ok123 (p : Qb) : (S123 p).ok Tryz.prog 123 :=
 Qj mixed (fn := Tryz.f123) (ct := .seq .no (.seq (.reg [(2, Qoh p.Len 0 16), (6, Qoh p.Addr 0 65535), (12, kh143 p)]) .no)) Tryz.func123 (fun (_ : True) => Qhg p.Len 0 16 (Qoe (decide (0 ≤ p.Len ∧ p.Len ≤ 16)) true p.Addr 0 65535 (kg143 (bif (decide (0 ≤ p.Len ∧ p.Len ≤ 16)) then (decide (0 ≤ p.Addr ∧ p.Addr ≤ 65535)) else false) true p (fun k4 => have _ := of_decide_eq_true (Qi k4); have _ := of_decide_eq_true (Qt k4); ⟨(by omega), (by omega)⟩) (ai (fun k5 : (bif (decide (0 ≤ p.Len ∧ p.Len ≤ 16)) then (decide (0 ≤ p.Addr ∧ p.Addr ≤ 65535)) else false) = true => have _ := of_decide_eq_true (Qi k5); have _ := of_decide_eq_true (Qt k5); (by have h9 := Qlm p (by omega) (by omega); omega : ¬ (F143 p) = 0)) (fiB (bif (bif (decide (0 ≤ p.Len ∧ p.Len ≤ 16)) then (decide (0 ≤ p.Addr ∧ p.Addr ≤ 65535)) else false) then ((p.Addr.tmod (F143 p)) == 0) else false) (F123 p) rfl))))) (by kernel_rfl)
theorem kc92 (text : ByteArray) {K_ : Prop} (p0_ : text.size ≤ 1048576) (k_ : K_) : (text.size ≤ 1048576) ∧ (Imp (.v (.string text)) (.v (.string text))) ∧ K_ := ⟨p0_, Imp.refl _, k_⟩
abbrev kh92 (text : ByteArray) : Hint false Tryz.prog := .call 92 (S92 text) (ok92 text) none
abbrev w1_ : ByteArray := ⟨#[47]⟩
def F96 (text : ByteArray) : Qb × Bool :=
 bif (bif (!((F33 text (⟨#[47]⟩ : ByteArray)).2.2)) then true else (!(F123 (⟨(F92 ((F33 text (⟨#[47]⟩ : ByteArray)).1)), (F120 ((F33 text (⟨#[47]⟩ : ByteArray)).2.1))⟩ : Qb)))) then ((⟨0, 0⟩ : Qb), false) else ((⟨(F92 ((F33 text (⟨#[47]⟩ : ByteArray)).1)), (F120 ((F33 text (⟨#[47]⟩ : ByteArray)).2.1))⟩ : Qb), true)
theorem fi96 (text : ByteArray) (r : Qb × Bool) (hF : r = (F96 text)) : ((.int .i64 r.1.Addr : Value) = .int .i64 (((F96 text).1).Addr)) ∧ ((.int .i64 r.1.Len : Value) = .int .i64 (((F96 text).1).Len)) ∧ ((.bool r.2 : Value) = .bool ((F96 text).2)) ∧ True := by cases hF; exact ⟨rfl, rfl, rfl, trivial⟩
def S96 (text : ByteArray) : Spec := ⟨[.r (.c (.v (.string text)))], .tu [.ag [.v (vI (((F96 text).1).Addr)), .v (vI (((F96 text).1).Len))], .v (.bool ((F96 text).2))], text.size ≤ 1048576⟩
theorem ok96 (text : ByteArray) : (S96 text).ok Tryz.prog 96 false :=
 Qj mixed (fn := Tryz.f96) (ct := .seq .no (.seq (.reg [(1, Qtu text w1_)]) (.seq (.reg [(1, kh92 ((F33 text w1_).1)), (3, Qod ((F33 text w1_).2.1))]) (.seq (.seq (.reg [(4, .call 123 (S123 (⟨(F92 ((F33 text w1_).1)), (F120 ((F33 text w1_).2.1))⟩ : Qb)) ((ok123 (⟨(F92 ((F33 text w1_).1)), (F120 ((F33 text w1_).2.1))⟩ : Qb)).to false) none)]) (.cond (.seq .no .no) .no)) (.seq .no .no))))) Tryz.func96 (fun (hpre0 : text.size ≤ 1048576) => kc33 text w1_ (by omega) (fun gv1 gv2 => kc92 ((F33 text w1_).1) (by omega) (Qpr ((F33 text w1_).2.1) (by omega) (ai (fun k3 : (!((F33 text w1_).2.2)) = false => have _ : (F33 text w1_).2.2 = true := (Uw k3); trivial) (ai (fun k4 : (!((F33 text w1_).2.2)) = false => have _ : (F33 text w1_).2.2 = true := (Uw k4); (Imps.refl (Qg (⟨(F92 ((F33 text w1_).1)), (F120 ((F33 text w1_).2.1))⟩ : Qb)))) (ifb (bif (!((F33 text w1_).2.2)) then true else (!(F123 (⟨(F92 ((F33 text w1_).1)), (F120 ((F33 text w1_).2.1))⟩ : Qb)))) (fun h5 => fi96 text ((⟨0, 0⟩ : Qb), false) (condT h5 rfl)) (fun h5 => have _ : (F33 text w1_).2.2 = true := (Uw (orF1 h5)); fi96 text ((⟨(F92 ((F33 text w1_).1)), (F120 ((F33 text w1_).2.1))⟩ : Qb), true) (condF h5 rfl)))))))) (by kernel_rfl)
def F13 (s : ByteArray) (sep : ByteArray) : List ByteArray :=
 Qq s sep
def S13 (s : ByteArray) (sep : ByteArray) : Spec := ⟨[.r (.c (.v (.string s))), .r (.c (.v (.string sep)))], .ow (.l 1 eStr (F13 s sep)), s.size ≤ 4294967280 ∧ 1 ≤ sep.size⟩
theorem ok13 (s : ByteArray) (sep : ByteArray) : (S13 s sep).ok Tryz.prog 13 :=
 Qwp Qvc (by kernel_rfl) (by decide) s sep
def Gc (s : List ByteArray) (v1 : ByteArray) : Int → Lp Int Int := fun v8 =>
 bif (decide (v8 < (s.length : Int))) then (bif (v1.toList == (s.getD (Int.toNat v8) default).toList) then (.ret v8) else (.next (v8 + 1))) else (.done v8)
def F156 (s : List ByteArray) (v1 : ByteArray) : Int :=
 (runL (Gc s v1) ((Int.toNat ((s.length : Int) - 0)) + 1) 0).fin (fun r => r) (fun v8 => (-1))
abbrev Lk (s : List ByteArray) : Nat × Int := (((Int.toNat ((s.length : Int) - 0)) + 1), 0)
abbrev Qex (s : List ByteArray) (m39 : Nat) (v8 : Int) : Prop := Int.toNat ((s.length : Int) - v8) < m39 ∧ (0 : Int) ≤ v8
abbrev Qpf (s : List ByteArray) (v1 : ByteArray) : Lp Int Int := LpX (Gc s v1) (Lk s)
abbrev Lq (s : List ByteArray) (v1 : ByteArray) (i : Nat × Int) : Prop := LpJ (Gc s v1) (Lk s) i (Qex s i.1 i.2)
abbrev Qqd (s : List ByteArray) (v1 : ByteArray) (i : Nat × Int) (m39 : Nat) (v8 : Int) : Prop := LpH (Gc s v1) (Lk s) i m39 v8 (Qex s (m39 + 1) v8)
abbrev Qnv (s : List ByteArray) (v1 : ByteArray) (v8 : Int) (v8_ : Int) (K39 : Prop) : Prop := (Rf (.string v1)) ∧ (Rf (.int .i64 (s.length : Int))) ∧ ((.int .i64 v8 : Value) = .int .i64 v8_) ∧ (Im (.l 1 eStr s)) ∧ K39
theorem Udd (s : List ByteArray) (v1 : ByteArray) (i : Nat × Int) (h : Lq s v1 i) : Qqd s v1 i (i.1 - 1) i.2 := ⟨hd1 h.1 h.2.1, hd3 h.2.1, hd2 h.2.1, h.2.2⟩
theorem Ubg (s : List ByteArray) (v1 : ByteArray) (i : Nat × Int) (m39 : Nat) (v8 : Int) (hl : m39 < i.1) (e : runL (Gc s v1) m39 v8 = Qpf s v1) (h : Qex s m39 v8) : ∃ j : Nat × Int, Qnv s v1 v8 j.2 (Lq s v1 j ∧ j.1 < i.1) := ⟨(m39, v8), rfl, rfl, rfl, Imp.refl _, ⟨e, h⟩, hl⟩
theorem Ubz (s : List ByteArray) (v1 : ByteArray) (h : (0 : Int) ≤ 0) : Qnv s v1 0 0 (Lq s v1 (Lk s)) := ⟨rfl, rfl, rfl, Imp.refl _, rfl, Nat.lt_succ_self _, h⟩
def S156 (s : List ByteArray) (v1 : ByteArray) : Spec := ⟨[.r (.c (.l 1 eStr s)), .r (.c (.v (.string v1)))], .v (vI (F156 s v1)), True⟩
theorem ok156 (s : List ByteArray) (v1 : ByteArray) : (S156 s v1).ok Tryz.prog 156 :=
 Qj mixed (fn := Tryz.f156) (ct := .seqk [(0, 0)] .no (.seq (.seqk [(0, 0)] .no (.blk (.loop (ι := Nat × Int) (fun i => (fun (v8 : Int) => (⟨[(0, some (.h 0 0)), (1, some (.v (.string v1))), (7, some (.v (vI (s.length : Int)))), (8, some (.v (vI v8)))], [(0, some (.shr none (.l 1 eStr s)))], 1⟩ : St)) i.2) (Lq s v1) (fun i => i.1) (Lk s) (fun i => (fun (v8 : Int) => (.seq .no (.seq (.cond .no .no) (.seq (.blk (.seq .no (.seq .no (.cond (.seq .no .no) .no)))) (.reg [(0, .bnd)]))))) i.2)))) (.seq .no .no))) Tryz.func156 (fun (_ : True) => kn s fun _ => kn s fun _ => ai (Ubz s v1 (by omega)) (fun (i0 : Nat × Int) (hi0 : Lq s v1 i0) => (fun (m0 : Nat) (v8 : Int) (hh0 : Qqd s v1 i0 m0 v8) => have hI0 := hh0.1; have hl0 := hh0.2.1; have _ := hh0.2.2.1; have _ := hh0.2.2.2; ifd (v8 < (s.length : Int)) (fun h2 _ => ai (by omega : ib v8 s) (ifb (v1.toList == (s.getD (Int.toNat v8) default).toList) (fun h3 => fiI v8 (F156 s v1) (finR (Qr hI0 (condT h2 (condT h3 rfl))) rfl)) (fun h3 => ai (iok (v8 + 1) (by omega)) (Ubg s v1 i0 m0 (v8 + 1) hl0 (Qd hI0 (condT h2 (condF h3 rfl))) (by refine ⟨?_, ?_⟩ <;> omega))))) (fun h2 _ => have hD0_4 : Qpf s v1 = Lp.done v8 := Qk hI0 (condF h2 rfl); fiI (-1) (F156 s v1) (finD hD0_4 rfl))) (i0.1 - 1) i0.2 (Udd s v1 i0 hi0))) (by kernel_rfl)
theorem kc156 (s : List ByteArray) (v1 : ByteArray) {K_ : Prop} (k_ : K_) : (True) ∧ (Imp (.l 1 eStr s) (.l 1 eStr s)) ∧ (Imp (.v (.string v1)) (.v (.string v1))) ∧ K_ := ⟨trivial, Imp.refl _, Imp.refl _, k_⟩
abbrev kh156 (s : List ByteArray) (v1 : ByteArray) : Hint true Tryz.prog := .call 156 (S156 s v1) (ok156 s v1) none
def F149 (s : List ByteArray) (v1 : ByteArray) : Bool :=
 decide ((F156 s v1) ≥ 0)
def S149 (s : List ByteArray) (v1 : ByteArray) : Spec := ⟨[.r (.c (.l 1 eStr s)), .r (.c (.v (.string v1)))], .v (.bool (F149 s v1)), True⟩
theorem ok149 (s : List ByteArray) (v1 : ByteArray) : (S149 s v1).ok Tryz.prog 149 :=
 Qj mixed (fn := Tryz.f149) (ct := .seqk [(0, 0)] .no (.seq (.reg [(2, kh156 s v1)]) .no)) Tryz.func149 (fun (_ : True) => kn s fun _ => kc156 s v1 (fiB (decide ((F156 s v1) ≥ 0)) (F149 s v1) rfl)) (by kernel_rfl)
theorem kc13 (s : ByteArray) (sep : ByteArray) {K_ : Prop} (p0_ : s.size ≤ 4294967280) (p1_ : 1 ≤ sep.size) (q0_ : 1 ≤ sep.size) (q1_ : 1 ≤ sep.size) (k_ : ((F13 s sep).length ≤ s.size + 1) → (1 ≤ (F13 s sep).length) → K_) : (s.size ≤ 4294967280 ∧ 1 ≤ sep.size) ∧ (Imp (.v (.string s)) (.v (.string s))) ∧ (Imp (.v (.string sep)) (.v (.string sep))) ∧ K_ := ⟨⟨p0_, p1_⟩, Imp.refl _, Imp.refl _, k_ (Bs s sep q0_) (Hh s sep q1_)⟩
abbrev kh13 (s : ByteArray) (sep : ByteArray) : Hint true Tryz.prog := .call 13 (S13 s sep) (ok13 s sep) none
theorem kc149 (s : List ByteArray) (v1 : ByteArray) {K_ : Prop} (k_ : K_) : (True) ∧ (Imp (.l 1 eStr s) (.l 1 eStr s)) ∧ (Imp (.v (.string v1)) (.v (.string v1))) ∧ K_ := ⟨trivial, Imp.refl _, Imp.refl _, k_⟩
abbrev kh149 (s : List ByteArray) (v1 : ByteArray) : Hint true Tryz.prog := .call 149 (S149 s v1) (ok149 s v1) none
abbrev w2_ : ByteArray := ⟨#[44]⟩
abbrev w3_ : ByteArray := ⟨#[100, 111, 111, 114]⟩
abbrev w4_ : ByteArray := ⟨#[104, 111, 115, 116]⟩
abbrev w5_ : ByteArray := ⟨#[110, 97, 116]⟩
abbrev w6_ : ByteArray := ⟨#[112, 101, 101, 114]⟩
abbrev w7_ : ByteArray := ⟨#[112, 111, 114, 116]⟩
abbrev w8_ : ByteArray := ⟨#[114, 111, 117, 116, 101]⟩
abbrev w9_ : ByteArray := ⟨#[114, 117, 108, 101]⟩
abbrev w10_ : ByteArray := ⟨#[117, 115, 101, 114]⟩
abbrev w11_ : ByteArray := ⟨#[97, 108, 108]⟩
abbrev w12_ : ByteArray := ⟨#[110, 111, 110, 101]⟩
def Wy (word : ByteArray) : Int → Lp Int (List ByteArray × Bool) := fun v19 =>
 bif (decide (v19 < ((F13 word (⟨#[44]⟩ : ByteArray)).length : Int))) then (bif (bif (!(F149 ([(⟨#[100, 111, 111, 114]⟩ : ByteArray), (⟨#[104, 111, 115, 116]⟩ : ByteArray), (⟨#[110, 97, 116]⟩ : ByteArray), (⟨#[112, 101, 101, 114]⟩ : ByteArray), (⟨#[112, 111, 114, 116]⟩ : ByteArray), (⟨#[114, 111, 117, 116, 101]⟩ : ByteArray), (⟨#[114, 117, 108, 101]⟩ : ByteArray), (⟨#[117, 115, 101, 114]⟩ : ByteArray)] : List ByteArray) ((F13 word (⟨#[44]⟩ : ByteArray)).getD (Int.toNat v19) default))) then true else (bif decide (v19 > 0) then (!(Op.bytesLess ((F13 word (⟨#[44]⟩ : ByteArray)).getD (Int.toNat (v19 - 1)) default).toList ((F13 word (⟨#[44]⟩ : ByteArray)).getD (Int.toNat v19) default).toList)) else false)) then (.ret (([] : List ByteArray), false)) else (.next (v19 + 1))) else (.done v19)
def F147 (word : ByteArray) : List ByteArray × Bool :=
 bif (bif (word.toList == (⟨#[97, 108, 108]⟩ : ByteArray).toList) then true else (word.toList == (⟨#[110, 111, 110, 101]⟩ : ByteArray).toList)) then (([word] : List ByteArray), true) else ((runL (Wy word) ((Int.toNat (((F13 word (⟨#[44]⟩ : ByteArray)).length : Int) - 0)) + 1) 0).fin (fun r => r) (fun v19 => ((F13 word (⟨#[44]⟩ : ByteArray)), true)))
abbrev Hi (word : ByteArray) : Nat × Int := (((Int.toNat (((F13 word w2_).length : Int) - 0)) + 1), 0)
abbrev Qfx (word : ByteArray) (m39 : Nat) (v19 : Int) : Prop := Int.toNat (((F13 word w2_).length : Int) - v19) < m39 ∧ (0 : Int) ≤ v19
abbrev Qok (word : ByteArray) : Lp Int (List ByteArray × Bool) := LpX (Wy word) (Hi word)
abbrev Ld (word : ByteArray) (i : Nat × Int) : Prop := LpJ (Wy word) (Hi word) i (Qfx word i.1 i.2)
abbrev Qnr (word : ByteArray) (i : Nat × Int) (m39 : Nat) (v19 : Int) : Prop := LpH (Wy word) (Hi word) i m39 v19 (Qfx word (m39 + 1) v19)
abbrev Qnq (word : ByteArray) (v19 : Int) (v19_ : Int) (K39 : Prop) : Prop := (Rf (.int .i64 ((F13 word w2_).length : Int))) ∧ ((.int .i64 v19 : Value) = .int .i64 v19_) ∧ (Im (.l 1 eStr (F13 word w2_))) ∧ K39
theorem Ucm (word : ByteArray) (i : Nat × Int) (h : Ld word i) : Qnr word i (i.1 - 1) i.2 := ⟨hd1 h.1 h.2.1, hd3 h.2.1, hd2 h.2.1, h.2.2⟩
theorem Udc (word : ByteArray) (i : Nat × Int) (m39 : Nat) (v19 : Int) (hl : m39 < i.1) (e : runL (Wy word) m39 v19 = Qok word) (h : Qfx word m39 v19) : ∃ j : Nat × Int, Qnq word v19 j.2 (Ld word j ∧ j.1 < i.1) := ⟨(m39, v19), rfl, rfl, Imp.refl _, ⟨e, h⟩, hl⟩
theorem Udg (word : ByteArray) (h : (0 : Int) ≤ 0) : Qnq word 0 0 (Ld word (Hi word)) := ⟨rfl, rfl, Imp.refl _, rfl, Nat.lt_succ_self _, h⟩
theorem fi147 (word : ByteArray) (r : List ByteArray × Bool) (hF : r = (F147 word)) : (Imp (.l 1 eStr r.1) (.l 1 eStr ((F147 word).1))) ∧ ((.bool r.2 : Value) = .bool ((F147 word).2)) ∧ True := by cases hF; exact ⟨Imp.refl _, rfl, trivial⟩
def S147 (word : ByteArray) : Spec := ⟨[.r (.c (.v (.string word)))], .tu [.ow (.l 1 eStr ((F147 word).1)), .v (.bool ((F147 word).2))], word.size ≤ 1048576⟩
theorem ok147 (word : ByteArray) : (S147 word).ok Tryz.prog 147 :=
 Qj mixed (fn := Tryz.f147) (ct := .seq .no (.seq (.seq .no (.cond (.seq (.reg [(1, .dat (.l 1 eStr ([word] : List ByteArray)))]) .no) .no)) (.seq (.reg [(1, kh13 word w2_)]) (.seq (.seqk [(4, 0), (17, 0)] .no (.blk (.loop (ι := Nat × Int) (fun i => (fun (v19 : Int) => (⟨[(4, some (.h 0 0)), (17, some (.h 0 0)), (18, some (.v (vI ((F13 word w2_).length : Int)))), (19, some (.v (vI v19)))], [(0, some (.own 0 (.l 1 eStr (F13 word w2_))))], 1⟩ : St)) i.2) (Ld word) (fun i => i.1) (Hi word) (fun i => (fun (v19 : Int) => (.seq .no (.seq (.cond .no .no) (.seq (.blk (.seq .no (.seq (.reg [(0, .dat (.l 1 eStr ([w3_, w4_, w5_, w6_, w7_, w8_, w9_, w10_] : List ByteArray))), (2, kh149 ([w3_, w4_, w5_, w6_, w7_, w8_, w9_, w10_] : List ByteArray) ((F13 word w2_).getD (Int.toNat v19) default)), (10, .bnd)]) (.cond (.seq .no .no) .no)))) (.reg [(0, .bnd)]))))) i.2)))) (.seq .no .no))))) Tryz.func147 (fun (hpre0 : word.size ≤ 1048576) => ifb (bif (word.toList == w11_.toList) then true else (word.toList == w12_.toList)) (fun h1 => ai (bokr 1 eStr ([word] : List ByteArray) fun _ => rfl) (fi147 word (([word] : List ByteArray), true) (condT h1 rfl))) (fun h1 => have _ : (word.toList == w11_.toList) = false := (orF1 h1); have _ : (word.toList == w12_.toList) = false := (orF2 h1); kc13 word w2_ (by omega) (by decide) (by decide) (by decide) (fun gv2 gv3 => kn (F13 word w2_) fun _ => kn (F13 word w2_) fun _ => ai (Udg word (by omega)) (fun (i0 : Nat × Int) (hi0 : Ld word i0) => (fun (m0 : Nat) (v19 : Int) (hh0 : Qnr word i0 m0 v19) => have hI0 := hh0.1; have hl0 := hh0.2.1; have _ := hh0.2.2.1; have _ := hh0.2.2.2; ifd (v19 < ((F13 word w2_).length : Int)) (fun h5 _ => ai (by omega : ib v19 (F13 word w2_)) (ai (bokr 1 eStr ([w3_, w4_, w5_, w6_, w7_, w8_, w9_, w10_] : List ByteArray) fun _ => rfl) (kc149 ([w3_, w4_, w5_, w6_, w7_, w8_, w9_, w10_] : List ByteArray) ((F13 word w2_).getD (Int.toNat v19) default) (ai (fun k7 : (decide (v19 > 0)) = true => have _ := of_decide_eq_true k7; (fun k6 : (!(F149 ([w3_, w4_, w5_, w6_, w7_, w8_, w9_, w10_] : List ByteArray) ((F13 word w2_).getD (Int.toNat v19) default))) = false => iok (v19 - 1) (by omega))) (ai (fun k9 : (decide (v19 > 0)) = true => have _ := of_decide_eq_true k9; (fun k8 : (!(F149 ([w3_, w4_, w5_, w6_, w7_, w8_, w9_, w10_] : List ByteArray) ((F13 word w2_).getD (Int.toNat v19) default))) = false => (by omega : ib (v19 - 1) (F13 word w2_)))) (ifb (bif (!(F149 ([w3_, w4_, w5_, w6_, w7_, w8_, w9_, w10_] : List ByteArray) ((F13 word w2_).getD (Int.toNat v19) default))) then true else (bif decide (v19 > 0) then (!(Op.bytesLess ((F13 word w2_).getD (Int.toNat (v19 - 1)) default).toList ((F13 word w2_).getD (Int.toNat v19) default).toList)) else false)) (fun h10 => (fun hF : (([] : List ByteArray), false) = (F147 word) => ai ((Imp.nil 1 eStr).trans (Imp.of_eq (congrArg (fun r : List ByteArray × Bool => Dat.l 1 eStr r.1) hF))) (ai (congrArg (fun r : List ByteArray × Bool => (.bool r.2 : Value)) hF) trivial)) (condF h1 (finR (Qr hI0 (condT h5 (condT h10 rfl))) rfl))) (fun h10 => ai (iok (v19 + 1) (by omega)) (Udc word i0 m0 (v19 + 1) hl0 (Qd hI0 (condT h5 (condF h10 rfl))) (by refine ⟨?_, ?_⟩ <;> omega))))))))) (fun h5 _ => have hD0_11 : Qok word = Lp.done v19 := Qk hI0 (condF h5 rfl); fi147 word ((F13 word w2_), true) (condF h1 (finD hD0_11 rfl)))) (i0.1 - 1) i0.2 (Ucm word i0 hi0))))) (by kernel_rfl)
abbrev w13_ : ByteArray := ⟨#[]⟩
def F36 (w1 : ByteArray) : Bool :=
 (w1.toList == (⟨#[]⟩ : ByteArray).toList)
def S36 (w1 : ByteArray) : Spec := ⟨[.r (.c (.v (.string w1)))], .v (.bool (F36 w1)), True⟩
theorem ok36 (w1 : ByteArray) : (S36 w1).ok Tryz.prog 36 :=
 Qj mixed (fn := Tryz.f36) (ct := .seq .no (.seq .no .no)) Tryz.func36 (fun (_ : True) => fiB (w1.toList == w13_.toList) (F36 w1) rfl) (by kernel_rfl)
def Ym (Q : ByteArray → Prop) (p : ByteArray → Bool) : Uv := ⟨ByteArray, fun i => [.c (.x (PX (.v (.string i)) (Q i)))], fun i => .bool (p i)⟩
def Nc (s : List ByteArray) (f : ByteArray → Bool) : Int → Lp Int Int := fun v8 =>
 bif (decide (v8 < (s.length : Int))) then (bif (f (s.getD (Int.toNat v8) default)) then (.ret v8) else (.next (v8 + 1))) else (.done v8)
def F68 (s : List ByteArray) (f : ByteArray → Bool) : Int :=
 (runL (Nc s f) ((Int.toNat ((s.length : Int) - 0)) + 1) 0).fin (fun r => r) (fun v8 => (-1))
abbrev Qaz (s : List ByteArray) : Nat × Int := (((Int.toNat ((s.length : Int) - 0)) + 1), 0)
abbrev Qjl (s : List ByteArray) (m39 : Nat) (v8 : Int) : Prop := Int.toNat ((s.length : Int) - v8) < m39 ∧ (0 : Int) ≤ v8
abbrev Qyf (s : List ByteArray) (f : ByteArray → Bool) : Lp Int Int := LpX (Nc s f) (Qaz s)
abbrev Tb (s : List ByteArray) (f : ByteArray → Bool) (i : Nat × Int) : Prop := LpJ (Nc s f) (Qaz s) i (Qjl s i.1 i.2)
abbrev Uau (s : List ByteArray) (f : ByteArray → Bool) (i : Nat × Int) (m39 : Nat) (v8 : Int) : Prop := LpH (Nc s f) (Qaz s) i m39 v8 (Qjl s (m39 + 1) v8)
abbrev Qsh (Qf : ByteArray → Prop) (s : List ByteArray) (f : ByteArray → Bool) (v8 : Int) (v8_ : Int) (K39 : Prop) : Prop := (Rf (.int .i64 (s.length : Int))) ∧ ((.int .i64 v8 : Value) = .int .i64 v8_) ∧ (Im (.l 1 eStr s)) ∧ (Ym Qf f = Ym Qf f) ∧ K39
theorem un68_0 (s : List ByteArray) (f : ByteArray → Bool) (i : Nat × Int) (h : Tb s f i) : Uau s f i (i.1 - 1) i.2 := ⟨hd1 h.1 h.2.1, hd3 h.2.1, hd2 h.2.1, h.2.2⟩
theorem bk68_0 (Qf : ByteArray → Prop) (s : List ByteArray) (f : ByteArray → Bool) (i : Nat × Int) (m39 : Nat) (v8 : Int) (hl : m39 < i.1) (e : runL (Nc s f) m39 v8 = Qyf s f) (h : Qjl s m39 v8) : ∃ j : Nat × Int, Qsh Qf s f v8 j.2 (Tb s f j ∧ j.1 < i.1) := ⟨(m39, v8), rfl, rfl, Imp.refl _, rfl, ⟨e, h⟩, hl⟩
theorem en68_0 (Qf : ByteArray → Prop) (s : List ByteArray) (f : ByteArray → Bool) (h : (0 : Int) ≤ 0) : Qsh Qf s f 0 0 (Tb s f (Qaz s)) := ⟨rfl, rfl, Imp.refl _, rfl, rfl, Nat.lt_succ_self _, h⟩
def S68 (R : Int) (s : List ByteArray) (f : ByteArray → Bool) (Qf : ByteArray → Prop) : Spec := ⟨[.r (.c (.l 1 eStr s)), .fn (Ym Qf f)], .v (vI R), (∀ k : Nat, k < s.length → Qf (s.getD k default))⟩
theorem ok68 (s : List ByteArray) (f : ByteArray → Bool) (Qf : ByteArray → Prop) : (S68 (F68 s f) s f Qf).ok Tryz.prog 68 false :=
 Qj mixed (fn := Tryz.f68) (ct := .seqk [(0, 0)] .no (.seq (.seqk [(0, 0)] .no (.blk (.loop (ι := Nat × Int) (fun i => (fun (v8 : Int) => (⟨[(0, some (.h 0 0)), (1, some (.h 1 0)), (7, some (.v (vI (s.length : Int)))), (8, some (.v (vI v8)))], [(0, some (.shr none (.l 1 eStr s))), (1, some (.fn (Ym Qf f)))], 2⟩ : St)) i.2) (Tb s f) (fun i => i.1) (Qaz s) (fun i => (fun (v8 : Int) => (.seq .no (.seq (.cond .no .no) (.seq (.blk (.seq .no (.seq (.reg [(5, .fnv (Ym Qf f) (s.getD (Int.toNat v8) default))]) (.cond (.seq .no .no) .no)))) (.reg [(0, .bnd)]))))) i.2)))) (.seq .no .no))) Tryz.func68 (fun (hpre0 : ∀ k : Nat, k < s.length → Qf (s.getD k default)) => kn s fun _ => kn s fun _ => ai (en68_0 Qf s f (by omega)) (fun (i0 : Nat × Int) (hi0 : Tb s f i0) => (fun (m0 : Nat) (v8 : Int) (hh0 : Uau s f i0 m0 v8) => have hI0 := hh0.1; have hl0 := hh0.2.1; have _ := hh0.2.2.1; have _ := hh0.2.2.2; ifd (v8 < (s.length : Int)) (fun h2 _ => ai (by omega : ib v8 s) (ai (Eq.refl (Ym Qf f)) (ai (Imp.px (d := .v (.string (s.getD (Int.toNat v8) default))) (hpre0 (Int.toNat v8) (by omega))) (ifb (f (s.getD (Int.toNat v8) default)) (fun h3 => fiI v8 (F68 s f) (finR (Qr hI0 (condT h2 (condT h3 rfl))) rfl)) (fun h3 => ai (iok (v8 + 1) (by omega)) (bk68_0 Qf s f i0 m0 (v8 + 1) hl0 (Qd hI0 (condT h2 (condF h3 rfl))) (by refine ⟨?_, ?_⟩ <;> omega))))))) (fun h2 _ => have hD0_4 : Qyf s f = Lp.done v8 := Qk hI0 (condF h2 rfl); fiI (-1) (F68 s f) (finD hD0_4 rfl))) (i0.1 - 1) i0.2 (un68_0 s f i0 hi0))) (by kernel_rfl)
theorem as68 (s : List ByteArray) (f : ByteArray → Bool) : F68 s f = (idxI f s) := by
 exact Wl f s (Nc s f) (fun i => rfl)
theorem oa68 (s : List ByteArray) (f : ByteArray → Bool) (Qf : ByteArray → Prop) : (S68 (idxI f s) s f Qf).ok Tryz.prog 68 false := by
 intro hp; have h := ok68 s f Qf hp; rw [as68 s f] at h; exact h
theorem g68_0 (s : List ByteArray) (f : ByteArray → Bool) : (idxI f s) < (s.length : Int) := by
 exact Li f s
theorem g68_1 (s : List ByteArray) (f : ByteArray → Bool) : -1 ≤ (idxI f s) := by
 (show -1 ≤ idxI f s; unfold idxI; cases first (fun k => f (s.getD k default)) s.length <;> simp only [oix] <;> omega)
theorem kc68a (s : List ByteArray) (f : ByteArray → Bool) (Qf : ByteArray → Prop) {K_ : Prop} (p0_ : ∀ k : Nat, k < s.length → Qf (s.getD k default)) (k_ : ((idxI f s) < (s.length : Int)) → (-1 ≤ (idxI f s)) → K_) : (∀ k : Nat, k < s.length → Qf (s.getD k default)) ∧ (Imp (.l 1 eStr s) (.l 1 eStr s)) ∧ (Ym Qf f = Ym Qf f) ∧ K_ := ⟨p0_, Imp.refl _, rfl, k_ (g68_0 s f) (g68_1 s f)⟩
abbrev kh68a (s : List ByteArray) (f : ByteArray → Bool) (Qf : ByteArray → Prop) : Hint false Tryz.prog := .call 68 (S68 (idxI f s) s f Qf) (oa68 s f Qf) none
def Ms (s : List ByteArray) (del : ByteArray → Bool) : (Int × Int × List ByteArray) → Lp (Int × Int × List ByteArray) (List ByteArray) := fun (i41, j1, xs) =>
 bif (decide (j1 < (xs.length : Int))) then (bif (!(del (xs.getD (Int.toNat j1) default))) then (.next ((i41 + 1), (j1 + 1), (xs.set (i41).toNat (xs.getD (Int.toNat j1) default)))) else (.next (i41, (j1 + 1), xs))) else (.done (i41, j1, xs))
def Qfy (s : List ByteArray) (del : ByteArray → Bool) : Lp (List ByteArray × Int) (List ByteArray) :=
 (runL (Ms s del) ((Int.toNat ((s.length : Int) - ((idxI del s) + 1))) + 1) ((idxI del s), ((idxI del s) + 1), s)).fin Lp.ret (fun (i41, j1, xs) => .done (xs, i41))
def F35 (s : List ByteArray) (del : ByteArray → Bool) : List ByteArray :=
 bif ((idxI del s) == (-1)) then s else ((Qfy s del).fin (fun r => r) (fun (s1, i40) => ((s1.take (Int.toNat i40) ++ List.replicate (s1.drop (Int.toNat i40)).length ((⟨#[]⟩ : ByteArray) : ByteArray) ++ s1.drop ((Int.toNat i40) + (s1.drop (Int.toNat i40)).length)).take (Int.toNat i40))))
abbrev Ty (s : List ByteArray) (del : ByteArray → Bool) : Nat × (Int × Int × List ByteArray) := (((Int.toNat ((s.length : Int) - ((idxI del s) + 1))) + 1), ((idxI del s), ((idxI del s) + 1), s))
abbrev Qlp (Qdel : ByteArray → Prop) (s : List ByteArray) (m39 : Nat) (i41 : Int) (j1 : Int) (xs : List ByteArray) : Prop := Int.toNat ((xs.length : Int) - j1) < m39 ∧ (0 ≤ i41 ∧ i41 < j1) ∧ j1 ≤ (xs.length : Int) ∧ xs.length ≤ 1000000000 ∧ (∀ k : Nat, j1 ≤ (k : Int) → k < xs.length → Qdel (xs.getD k default)) ∧ xs.length = s.length
abbrev Qxq (s : List ByteArray) (del : ByteArray → Bool) : Lp (Int × Int × List ByteArray) (List ByteArray) := LpX (Ms s del) (Ty s del)
abbrev Qbe (Qdel : ByteArray → Prop) (s : List ByteArray) (del : ByteArray → Bool) (i : Nat × (Int × Int × List ByteArray)) : Prop := LpJ (Ms s del) (Ty s del) i (Qlp Qdel s i.1 i.2.1 i.2.2.1 i.2.2.2)
abbrev Qvw (Qdel : ByteArray → Prop) (s : List ByteArray) (del : ByteArray → Bool) (i : Nat × (Int × Int × List ByteArray)) (m39 : Nat) (i41 : Int) (j1 : Int) (xs : List ByteArray) : Prop := LpH (Ms s del) (Ty s del) i m39 (i41, j1, xs) (Qlp Qdel s (m39 + 1) i41 j1 xs)
abbrev Qwl (Qdel : ByteArray → Prop) (del : ByteArray → Bool) (i41 : Int) (j1 : Int) (xs : List ByteArray) (i41_ : Int) (j1_ : Int) (xs_ : List ByteArray) (K39 : Prop) : Prop := ((.int .i64 i41 : Value) = .int .i64 i41_) ∧ ((.int .i64 j1 : Value) = .int .i64 j1_) ∧ (Imp (.l 1 eStr xs) (.l 1 eStr xs_)) ∧ (Ym Qdel del = Ym Qdel del) ∧ K39
theorem un35_0 (Qdel : ByteArray → Prop) (s : List ByteArray) (del : ByteArray → Bool) (i : Nat × (Int × Int × List ByteArray)) (h : Qbe Qdel s del i) : Qvw Qdel s del i (i.1 - 1) i.2.1 i.2.2.1 i.2.2.2 := ⟨hd1 h.1 h.2.1, hd3 h.2.1, hd2 h.2.1, h.2.2⟩
theorem Uan (Qdel : ByteArray → Prop) (s : List ByteArray) (del : ByteArray → Bool) (i : Nat × (Int × Int × List ByteArray)) (m39 : Nat) (i41 : Int) (j1 : Int) (xs : List ByteArray) (hl : m39 < i.1) (e : runL (Ms s del) m39 (i41, j1, xs) = Qxq s del) (h : Qlp Qdel s m39 i41 j1 xs) : ∃ j : Nat × (Int × Int × List ByteArray), Qwl Qdel del i41 j1 xs j.2.1 j.2.2.1 j.2.2.2 (Qbe Qdel s del j ∧ j.1 < i.1) := ⟨(m39, (i41, j1, xs)), rfl, rfl, Imp.refl _, rfl, ⟨e, h⟩, hl⟩
theorem en35_0 (Qdel : ByteArray → Prop) (s : List ByteArray) (del : ByteArray → Bool) (h : (0 ≤ (idxI del s) ∧ (idxI del s) < ((idxI del s) + 1)) ∧ ((idxI del s) + 1) ≤ (s.length : Int) ∧ s.length ≤ 1000000000 ∧ (∀ k : Nat, ((idxI del s) + 1) ≤ (k : Int) → k < s.length → Qdel (s.getD k default)) ∧ s.length = s.length) : Qwl Qdel del (idxI del s) ((idxI del s) + 1) s (idxI del s) ((idxI del s) + 1) s (Qbe Qdel s del (Ty s del)) := ⟨rfl, rfl, Imp.refl _, rfl, rfl, Nat.lt_succ_self _, h⟩
abbrev Qmq (s : List ByteArray) (del : ByteArray → Bool) (s1 : List ByteArray) (i40 : Int) : Prop := (0 ≤ i40 ∧ i40 ≤ (s1.length : Int)) ∧ True
abbrev Qjm (s : List ByteArray) (del : ByteArray → Bool) (j : List ByteArray × Int) : Prop := (Qfy s del) = Lp.done j ∧ Qmq s del j.1 j.2
theorem jn35_0 (s : List ByteArray) (del : ByteArray → Bool) (s1 : List ByteArray) (i40 : Int) (e : (Qfy s del) = Lp.done (s1, i40)) (h : Qmq s del s1 i40) : ∃ j : List ByteArray × Int, ((.int .i64 i40 : Value) = .int .i64 j.2) ∧ (Imp (.l 1 eStr s1) (.l 1 eStr j.1)) ∧ Qjm s del j := ⟨(s1, i40), rfl, Imp.refl _, e, h⟩
theorem fi35 (s : List ByteArray) (del : ByteArray → Bool) (r : List ByteArray) (hF : r = (F35 s del)) : (Imp (.l 1 eStr r) (.l 1 eStr (F35 s del))) ∧ True := by cases hF; exact ⟨Imp.refl _, trivial⟩
def S35 (R : List ByteArray) (s : List ByteArray) (del : ByteArray → Bool) (Qdel : ByteArray → Prop) : Spec := ⟨[.ow (.l 1 eStr s) none, .fn (Ym Qdel del)], .ow (.l 1 eStr R), s.length ≤ 1000000000 ∧ (∀ k : Nat, k < s.length → Qdel (s.getD k default))⟩
theorem ok35 (s : List ByteArray) (del : ByteArray → Bool) (Qdel : ByteArray → Prop) : (S35 (F35 s del) s del Qdel).ok Tryz.prog 35 false :=
 Qj mixed (fn := Tryz.f35) (ct := .seqk [(0, 0)] .no (.seq (.reg [(2, kh68a s del Qdel)]) (.seq (.seq .no (.cond (.seq .no .no) .no)) (.cut (ι := List ByteArray × Int) (fun j => (fun (s1 : List ByteArray) (i40 : Int) => (⟨[(0, some (.h 0 0)), (5, some (.v (vI i40)))], [(0, some (.own 0 (.l 1 eStr s1)))], 1⟩ : St)) j.1 j.2) (Qjm s del) (.seqk [(0, 0)] (.reg [(1, .bnd)]) (.blk (.loop (ι := Nat × (Int × Int × List ByteArray)) (fun i => (fun (i41 : Int) (j1 : Int) (xs : List ByteArray) => (⟨[(0, some (.h 0 0)), (1, some (.h 1 0)), (5, some (.v (vI i41))), (6, some (.v (vI j1)))], [(0, some (.own 0 (.l 1 eStr xs))), (1, some (.fn (Ym Qdel del)))], 2⟩ : St)) i.2.1 i.2.2.1 i.2.2.2) (Qbe Qdel s del) (fun i => i.1) (Ty s del) (fun i => (fun (i41 : Int) (j1 : Int) (xs : List ByteArray) => (.seq (.seq .no (.cond .no .no)) (.seq (.blk (.seq .no (.seq (.reg [(2, .fnv (Ym Qdel del) (xs.getD (Int.toNat j1) default))]) (.cond (.seq (.reg [(4, .dat (.l 1 eStr (xs.set (i41).toNat (xs.getD (Int.toNat j1) default))))]) (.reg [(1, .bnd)])) .no)))) (.reg [(1, .bnd)])))) i.2.1 i.2.2.1 i.2.2.2)))) (fun j => (fun (s1 : List ByteArray) (i40 : Int) => (.seq (.reg [(2, .part), (3, .dat (.l 1 eStr (s1.take (Int.toNat i40) ++ List.replicate (s1.drop (Int.toNat i40)).length (w13_ : ByteArray) ++ s1.drop ((Int.toNat i40) + (s1.drop (Int.toNat i40)).length))))]) (.seq (.reg [(2, .own)]) .no))) j.1 j.2))))) Tryz.func35 (fun (hp : s.length ≤ 1000000000 ∧ (∀ k : Nat, k < s.length → Qdel (s.getD k default))) => have hpre0 := hp.1; have hpre1 := hp.2; kn s fun _ => kc68a s del Qdel (by first | assumption | exact hpre1 _ | exact fun k _ => hpre1 k | (intros; exact trivial) | (intros; exact Nat.zero_le _)) (fun gv1 gv2 => ife (idxI del s) (-1) (fun h3 _ => fi35 s del s (condT h3 rfl)) (fun h3 _ => ai (ai (iok ((idxI del s) + 1) (by first | omega | (simp only [lens, ib] at * <;> omega))) (kn s fun _ => ai (en35_0 Qdel s del (by refine ⟨?_, ?_, ?_, ?_, ?_⟩ <;> first | omega | (simp only [lens, ib] at * <;> omega) | (intro k hk hk2; first | exact (by assumption : ∀ k : Nat, k < s.length → Qdel (s.getD k default)) k hk2 | exact (by assumption : ∀ k : Nat, j1 ≤ (k : Int) → k < xs.length → Qdel (xs.getD k default)) k (by first | omega | (simp only [lens, ib] at * <;> omega)) hk2 | (rw [Yf _ _ _ _ (by first | omega | (simp only [lens, ib] at * <;> omega))]; exact (by assumption : ∀ k : Nat, j1 ≤ (k : Int) → k < xs.length → Qdel (xs.getD k default)) k (by first | omega | (simp only [lens, ib] at * <;> omega)) (by simpa using hk2))))) (fun (i0 : Nat × (Int × Int × List ByteArray)) (hi0 : Qbe Qdel s del i0) => (fun (m0 : Nat) (i41 : Int) (j1 : Int) (xs : List ByteArray) (hh0 : Qvw Qdel s del i0 m0 i41 j1 xs) => have hI0 := hh0.1; have hl0 := hh0.2.1; have _ := hh0.2.2.1; have _ := hh0.2.2.2.1; have _ := hh0.2.2.2.2.1; have _ := hh0.2.2.2.2.2.1; have _ := hh0.2.2.2.2.2.2.1; have _ := hh0.2.2.2.2.2.2.2; ifd (j1 < (xs.length : Int)) (fun h5 _ => ai (by first | omega | (simp only [lens, ib] at * <;> omega) : ib j1 xs) (ai (Eq.refl (Ym Qdel del)) (ai (Imp.px (d := .v (.string (xs.getD (Int.toNat j1) default))) ((by assumption : ∀ k : Nat, j1 ≤ (k : Int) → k < xs.length → Qdel (xs.getD k default)) (Int.toNat j1) (by first | omega | (simp only [lens, ib] at * <;> omega)) (by first | omega | (simp only [lens, ib] at * <;> omega)))) (ifb (!(del (xs.getD (Int.toNat j1) default))) (fun h6 => have _ := (Wo h6); ai (by first | omega | (simp only [lens, ib] at * <;> omega) : ib i41 xs) (ai (setr 1 eStr xs (i41).toNat (xs.getD (Int.toNat j1) default)) (ai (iok (i41 + 1) (by first | omega | (simp only [lens, ib] at * <;> omega))) (ai (iok (j1 + 1) (by first | omega | (simp only [lens, ib] at * <;> omega))) (Uan Qdel s del i0 m0 (i41 + 1) (j1 + 1) (xs.set (i41).toNat (xs.getD (Int.toNat j1) default)) hl0 (Qd hI0 (condT h5 (condT h6 rfl))) (by refine ⟨?_, ?_, ?_, ?_, ?_, ?_⟩ <;> first | omega | (simp only [lens, ib] at * <;> omega) | (intro k hk hk2; first | exact (by assumption : ∀ k : Nat, k < s.length → Qdel (s.getD k default)) k hk2 | exact (by assumption : ∀ k : Nat, j1 ≤ (k : Int) → k < xs.length → Qdel (xs.getD k default)) k (by first | omega | (simp only [lens, ib] at * <;> omega)) hk2 | (rw [Yf _ _ _ _ (by first | omega | (simp only [lens, ib] at * <;> omega))]; exact (by assumption : ∀ k : Nat, j1 ≤ (k : Int) → k < xs.length → Qdel (xs.getD k default)) k (by first | omega | (simp only [lens, ib] at * <;> omega)) (by simpa using hk2))))))))) (fun h6 => have _ := (Uw h6); ai (iok (j1 + 1) (by first | omega | (simp only [lens, ib] at * <;> omega))) (Uan Qdel s del i0 m0 i41 (j1 + 1) xs hl0 (Qd hI0 (condT h5 (condF h6 rfl))) (by refine ⟨?_, ?_, ?_, ?_, ?_, ?_⟩ <;> first | omega | (simp only [lens, ib] at * <;> omega) | (intro k hk hk2; first | exact (by assumption : ∀ k : Nat, k < s.length → Qdel (s.getD k default)) k hk2 | exact (by assumption : ∀ k : Nat, j1 ≤ (k : Int) → k < xs.length → Qdel (xs.getD k default)) k (by first | omega | (simp only [lens, ib] at * <;> omega)) hk2 | (rw [Yf _ _ _ _ (by first | omega | (simp only [lens, ib] at * <;> omega))]; exact (by assumption : ∀ k : Nat, j1 ≤ (k : Int) → k < xs.length → Qdel (xs.getD k default)) k (by first | omega | (simp only [lens, ib] at * <;> omega)) (by simpa using hk2)))))))))) (fun h5 _ => have hD0_7 : Qxq s del = Lp.done (i41, j1, xs) := Qk hI0 (condF h5 rfl); jn35_0 s del xs i41 (Eq.symm (finD hD0_7 rfl)) (by refine ⟨?_, ?_⟩ <;> first | exact trivial | first | omega | (simp only [lens, ib] at * <;> omega)))) (i0.1 - 1) i0.2.1 i0.2.2.1 i0.2.2.2 (un35_0 Qdel s del i0 hi0)))) (fun (j : List ByteArray × Int) (hj : Qjm s del j) => (fun (s1 : List ByteArray) (i40 : Int) (hJ0_8 : (Qfy s del) = Lp.done (s1, i40)) (hw : Qmq s del s1 i40) => have _ := hw.1; ai (by first | omega | (simp only [lens, ib] at * <;> omega) : 0 ≤ i40 ∧ i40 ≤ (s1.length : Int) ∧ (s1.length : Int) ≤ (s1.length : Int)) (ai (ClearOK.mk eStr s1 (w13_ : ByteArray) rfl (fun y e he => by simp only [eStr, List.mem_cons, List.not_mem_nil, or_false] at he; rcases he with rfl <;> exact ⟨_, rfl⟩) : ClearOK (.l 1 eStr s1) (Int.toNat i40) (s1.drop (Int.toNat i40)).length 1 [.string w13_] (.l 1 eStr (s1.take (Int.toNat i40) ++ List.replicate (s1.drop (Int.toNat i40)).length (w13_ : ByteArray) ++ s1.drop ((Int.toNat i40) + (s1.drop (Int.toNat i40)).length)))) (ai (by first | omega | (simp only [lens, ib] at * <;> omega) : 0 ≤ (0 : Int) ∧ (0 : Int) ≤ i40 ∧ i40 ≤ ((s1.take (Int.toNat i40) ++ List.replicate (s1.drop (Int.toNat i40)).length (w13_ : ByteArray) ++ s1.drop ((Int.toNat i40) + (s1.drop (Int.toNat i40)).length)).length : Int)) (fi35 s del ((s1.take (Int.toNat i40) ++ List.replicate (s1.drop (Int.toNat i40)).length (w13_ : ByteArray) ++ s1.drop ((Int.toNat i40) + (s1.drop (Int.toNat i40)).length)).take (Int.toNat i40)) (condF h3 (finD hJ0_8 rfl)))))) j.1 j.2 hj.1 hj.2)))) (by kernel_rfl)
theorem as35 (s : List ByteArray) (del : ByteArray → Bool) : F35 s del = (s.filter (fun x => !(del x))) := by
 exact Qgq del s _ (Ms s del) (fun i j xs => rfl)
theorem oa35 (s : List ByteArray) (del : ByteArray → Bool) (Qdel : ByteArray → Prop) : (S35 (s.filter (fun x => !(del x))) s del Qdel).ok Tryz.prog 35 false := by
 intro hp; have h := ok35 s del Qdel hp; rw [as35 s del] at h; exact h
def F38 (w1 : ByteArray) : Bool :=
 decide ((w1.size : Int) > 24)
def S38 (w1 : ByteArray) : Spec := ⟨[.r (.c (.v (.string w1)))], .v (.bool (F38 w1)), True⟩
theorem ok38 (w1 : ByteArray) : (S38 w1).ok Tryz.prog 38 :=
 Qj mixed (fn := Tryz.f38) (ct := .seq .no (.seq .no .no)) Tryz.func38 (fun (_ : True) => fiB (decide ((w1.size : Int) > 24)) (F38 w1) rfl) (by kernel_rfl)
def F37 (s : List ByteArray) (f : ByteArray → Bool) : Bool :=
 decide ((idxI f s) ≥ 0)
def S37 (R : Bool) (s : List ByteArray) (f : ByteArray → Bool) (Qf : ByteArray → Prop) : Spec := ⟨[.r (.c (.l 1 eStr s)), .fn (Ym Qf f)], .v (.bool R), (∀ k : Nat, k < s.length → Qf (s.getD k default))⟩
theorem ok37 (s : List ByteArray) (f : ByteArray → Bool) (Qf : ByteArray → Prop) : (S37 (F37 s f) s f Qf).ok Tryz.prog 37 false :=
 Qj mixed (fn := Tryz.f37) (ct := .seqk [(0, 0)] .no (.seq (.reg [(2, kh68a s f Qf)]) .no)) Tryz.func37 (fun (hpre0 : ∀ k : Nat, k < s.length → Qf (s.getD k default)) => kn s fun _ => kc68a s f Qf (by assumption) (fun gv1 gv2 => fiB (decide ((idxI f s) ≥ 0)) (F37 s f) rfl)) (by kernel_rfl)
theorem as37 (s : List ByteArray) (f : ByteArray → Bool) : F37 s f = (s.any f) := by
 exact Lg f s
theorem oa37 (s : List ByteArray) (f : ByteArray → Bool) (Qf : ByteArray → Prop) : (S37 (s.any f) s f Qf).ok Tryz.prog 37 false := by
 intro hp; have h := ok37 s f Qf hp; rw [as37 s f] at h; exact h
abbrev Qrv (s : ByteArray) (sep : ByteArray) : Hint false Tryz.prog := .call 13 (S13 s sep) ((ok13 s sep).to false) none
abbrev w14_ : ByteArray := ⟨#[35]⟩
abbrev w15_ : ByteArray := ⟨#[32]⟩
def Jo (line : ByteArray) : Int → Lp Int (List ByteArray × Bool) := fun i40 =>
 bif (decide (i40 < (((F33 line (⟨#[35]⟩ : ByteArray)).1).size : Int))) then (bif (!(decide (32 ≤ (IntKind.i64.wrap ((((F33 line (⟨#[35]⟩ : ByteArray)).1).data.getD (Int.toNat i40) 0).toNat : Int)) ∧ (IntKind.i64.wrap ((((F33 line (⟨#[35]⟩ : ByteArray)).1).data.getD (Int.toNat i40) 0).toNat : Int)) ≤ 126))) then (.ret (([] : List ByteArray), false)) else (.next (i40 + 1))) else (.done i40)
def F14 (line : ByteArray) : List ByteArray × Bool :=
 (runL (Jo line) ((Int.toNat ((((F33 line (⟨#[35]⟩ : ByteArray)).1).size : Int) - 0)) + 1) 0).fin (fun r => r) (fun i40 => bif (bif decide ((((F13 ((F33 line (⟨#[35]⟩ : ByteArray)).1) (⟨#[32]⟩ : ByteArray)).filter (fun x => !((fun (x0 : ByteArray) => F36 x0) x))).length : Int) > 8) then true else (((F13 ((F33 line (⟨#[35]⟩ : ByteArray)).1) (⟨#[32]⟩ : ByteArray)).filter (fun x => !((fun (x0 : ByteArray) => F36 x0) x))).any (fun (x0 : ByteArray) => F38 x0))) then (([] : List ByteArray), false) else (((F13 ((F33 line (⟨#[35]⟩ : ByteArray)).1) (⟨#[32]⟩ : ByteArray)).filter (fun x => !((fun (x0 : ByteArray) => F36 x0) x))), true))
abbrev Rg (line : ByteArray) : Nat × Int := (((Int.toNat ((((F33 line w14_).1).size : Int) - 0)) + 1), 0)
abbrev Qnn (line : ByteArray) (m39 : Nat) (i40 : Int) : Prop := Int.toNat ((((F33 line w14_).1).size : Int) - i40) < m39 ∧ (0 : Int) ≤ i40
abbrev Qub (line : ByteArray) : Lp Int (List ByteArray × Bool) := LpX (Jo line) (Rg line)
abbrev Pt (line : ByteArray) (i : Nat × Int) : Prop := LpJ (Jo line) (Rg line) i (Qnn line i.1 i.2)
abbrev Qzp (line : ByteArray) (i : Nat × Int) (m39 : Nat) (i40 : Int) : Prop := LpH (Jo line) (Rg line) i m39 i40 (Qnn line (m39 + 1) i40)
abbrev Qtq (line : ByteArray) (i40 : Int) (i40_ : Int) (K39 : Prop) : Prop := (Rf (.string ((F33 line w14_).1))) ∧ ((.int .i64 i40 : Value) = .int .i64 i40_) ∧ K39
theorem un14_0 (line : ByteArray) (i : Nat × Int) (h : Pt line i) : Qzp line i (i.1 - 1) i.2 := ⟨hd1 h.1 h.2.1, hd3 h.2.1, hd2 h.2.1, h.2.2⟩
theorem bk14_0 (line : ByteArray) (i : Nat × Int) (m39 : Nat) (i40 : Int) (hl : m39 < i.1) (e : runL (Jo line) m39 i40 = Qub line) (h : Qnn line m39 i40) : ∃ j : Nat × Int, Qtq line i40 j.2 (Pt line j ∧ j.1 < i.1) := ⟨(m39, i40), rfl, rfl, ⟨e, h⟩, hl⟩
theorem en14_0 (line : ByteArray) (h : (0 : Int) ≤ 0) : Qtq line 0 0 (Pt line (Rg line)) := ⟨rfl, rfl, rfl, Nat.lt_succ_self _, h⟩
theorem fi14 (line : ByteArray) (r : List ByteArray × Bool) (hF : r = (F14 line)) : (Imp (.l 1 eStr r.1) (.l 1 eStr ((F14 line).1))) ∧ ((.bool r.2 : Value) = .bool ((F14 line).2)) ∧ True := by cases hF; exact ⟨Imp.refl _, rfl, trivial⟩
def S14 (line : ByteArray) : Spec := ⟨[.r (.c (.v (.string line)))], .tu [.ow (.l 1 eStr ((F14 line).1)), .v (.bool ((F14 line).2))], line.size ≤ 1048576⟩
theorem ok14 (line : ByteArray) : (S14 line).ok Tryz.prog 14 false :=
 Qj mixed (fn := Tryz.f14) (ct := .seq .no (.seq (.reg [(1, Qtu line w14_)]) (.seq (.seq .no (.blk (.loop (ι := Nat × Int) (fun i => (fun (i40 : Int) => (⟨[(0, some (.v (.string ((F33 line w14_).1)))), (4, some (.v (vI i40)))], [], 0⟩ : St)) i.2) (Pt line) (fun i => i.1) (Rg line) (fun i => (fun (i40 : Int) => (.seq (.seq .no (.cond .no .no)) (.seq (.blk (.seq (.reg [(4, Ej (IntKind.i64.wrap ((((F33 line w14_).1).data.getD (Int.toNat i40) 0).toNat : Int)) 32 126)]) (.cond (.seq .no .no) .no))) (.reg [(1, .bnd)])))) i.2)))) (.seq (.reg [(1, Qrv ((F33 line w14_).1) w15_), (2, .call 35 (S35 ((F13 ((F33 line w14_).1) w15_).filter (fun x => !((fun (x0 : ByteArray) => F36 x0) x))) (F13 ((F33 line w14_).1) w15_) (fun (x0 : ByteArray) => F36 x0) (fun (x0 : ByteArray) => True)) (oa35 (F13 ((F33 line w14_).1) w15_) (fun (x0 : ByteArray) => F36 x0) (fun (x0 : ByteArray) => True)) (some ⟨true, 36, Ym (fun (x0 : ByteArray) => True) (fun (x0 : ByteArray) => F36 x0), [], rfl, True, fun i => Vk (ok36 i)⟩))]) (.seq (.seq (.reg [(5, .call 37 (S37 (((F13 ((F33 line w14_).1) w15_).filter (fun x => !((fun (x0 : ByteArray) => F36 x0) x))).any (fun (x0 : ByteArray) => F38 x0)) ((F13 ((F33 line w14_).1) w15_).filter (fun x => !((fun (x0 : ByteArray) => F36 x0) x))) (fun (x0 : ByteArray) => F38 x0) (fun (x0 : ByteArray) => True)) (oa37 ((F13 ((F33 line w14_).1) w15_).filter (fun x => !((fun (x0 : ByteArray) => F36 x0) x))) (fun (x0 : ByteArray) => F38 x0) (fun (x0 : ByteArray) => True)) (some ⟨true, 38, Ym (fun (x0 : ByteArray) => True) (fun (x0 : ByteArray) => F38 x0), [], rfl, True, fun i => Vk (ok38 i)⟩))]) (.cond (.seq .no .no) .no)) (.seq .no .no)))))) Tryz.func14 (fun (hpre0 : line.size ≤ 1048576) => kc33 line w14_ (by omega) (fun gv1 gv2 => ai (en14_0 line (by omega)) (fun (i0 : Nat × Int) (hi0 : Pt line i0) => (fun (m0 : Nat) (i40 : Int) (hh0 : Qzp line i0 m0 i40) => have hI0 := hh0.1; have hl0 := hh0.2.1; have _ := hh0.2.2.1; have _ := hh0.2.2.2; ifd (i40 < (((F33 line w14_).1).size : Int)) (fun h4 _ => ai (by omega : 0 ≤ i40 ∧ i40 < (((F33 line w14_).1).size : Int)) (Qhg (IntKind.i64.wrap ((((F33 line w14_).1).data.getD (Int.toNat i40) 0).toNat : Int)) 32 126 (ifb (!(decide (32 ≤ (IntKind.i64.wrap ((((F33 line w14_).1).data.getD (Int.toNat i40) 0).toNat : Int)) ∧ (IntKind.i64.wrap ((((F33 line w14_).1).data.getD (Int.toNat i40) 0).toNat : Int)) ≤ 126))) (fun h5 => have _ : ¬ (32 ≤ (IntKind.i64.wrap ((((F33 line w14_).1).data.getD (Int.toNat i40) 0).toNat : Int)) ∧ (IntKind.i64.wrap ((((F33 line w14_).1).data.getD (Int.toNat i40) 0).toNat : Int)) ≤ 126) := of_decide_eq_false (Wo h5); (fun hF : (([] : List ByteArray), false) = (F14 line) => ai ((Imp.nil 1 eStr).trans (Imp.of_eq (congrArg (fun r : List ByteArray × Bool => Dat.l 1 eStr r.1) hF))) (ai (congrArg (fun r : List ByteArray × Bool => (.bool r.2 : Value)) hF) trivial)) (finR (Qr hI0 (condT h4 (condT h5 rfl))) rfl)) (fun h5 => have _ : 32 ≤ (IntKind.i64.wrap ((((F33 line w14_).1).data.getD (Int.toNat i40) 0).toNat : Int)) ∧ (IntKind.i64.wrap ((((F33 line w14_).1).data.getD (Int.toNat i40) 0).toNat : Int)) ≤ 126 := of_decide_eq_true (Uw h5); ai (iok (i40 + 1) (by omega)) (bk14_0 line i0 m0 (i40 + 1) hl0 (Qd hI0 (condT h4 (condF h5 rfl))) (by refine ⟨?_, ?_⟩ <;> omega)))))) (fun h4 _ => have hD0_6 : Qub line = Lp.done i40 := Qk hI0 (condF h4 rfl); kc13 ((F33 line w14_).1) w15_ (by omega) (by decide) (by decide) (by decide) (fun gv7 gv8 => ai (ai (by omega : (F13 ((F33 line w14_).1) w15_).length ≤ 1000000000) (by (intros; exact trivial) : ∀ k : Nat, k < (F13 ((F33 line w14_).1) w15_).length → (fun (x0 : ByteArray) => True) ((F13 ((F33 line w14_).1) w15_).getD k default))) (ai (Imp.refl (.l 1 eStr (F13 ((F33 line w14_).1) w15_))) (ai (Eq.refl (Ym (fun (x0 : ByteArray) => True) (fun (x0 : ByteArray) => F36 x0))) (ai trivial (ai (fun k9 : (decide ((((F13 ((F33 line w14_).1) w15_).filter (fun x => !((fun (x0 : ByteArray) => F36 x0) x))).length : Int) > 8)) = false => have _ : ¬ (((F13 ((F33 line w14_).1) w15_).filter (fun x => !((fun (x0 : ByteArray) => F36 x0) x))).length : Int) > 8 := of_decide_eq_false k9; (by (intros; exact trivial) : ∀ k : Nat, k < ((F13 ((F33 line w14_).1) w15_).filter (fun x => !((fun (x0 : ByteArray) => F36 x0) x))).length → (fun (x0 : ByteArray) => True) (((F13 ((F33 line w14_).1) w15_).filter (fun x => !((fun (x0 : ByteArray) => F36 x0) x))).getD k default))) (ai (fun k10 : (decide ((((F13 ((F33 line w14_).1) w15_).filter (fun x => !((fun (x0 : ByteArray) => F36 x0) x))).length : Int) > 8)) = false => have _ : ¬ (((F13 ((F33 line w14_).1) w15_).filter (fun x => !((fun (x0 : ByteArray) => F36 x0) x))).length : Int) > 8 := of_decide_eq_false k10; (Imp.refl (.l 1 eStr ((F13 ((F33 line w14_).1) w15_).filter (fun x => !((fun (x0 : ByteArray) => F36 x0) x)))))) (ai (fun k11 : (decide ((((F13 ((F33 line w14_).1) w15_).filter (fun x => !((fun (x0 : ByteArray) => F36 x0) x))).length : Int) > 8)) = false => have _ : ¬ (((F13 ((F33 line w14_).1) w15_).filter (fun x => !((fun (x0 : ByteArray) => F36 x0) x))).length : Int) > 8 := of_decide_eq_false k11; (Eq.refl (Ym (fun (x0 : ByteArray) => True) (fun (x0 : ByteArray) => F38 x0)))) (ai (fun k12 : (decide ((((F13 ((F33 line w14_).1) w15_).filter (fun x => !((fun (x0 : ByteArray) => F36 x0) x))).length : Int) > 8)) = false => have _ : ¬ (((F13 ((F33 line w14_).1) w15_).filter (fun x => !((fun (x0 : ByteArray) => F36 x0) x))).length : Int) > 8 := of_decide_eq_false k12; trivial) (ifb (bif decide ((((F13 ((F33 line w14_).1) w15_).filter (fun x => !((fun (x0 : ByteArray) => F36 x0) x))).length : Int) > 8) then true else (((F13 ((F33 line w14_).1) w15_).filter (fun x => !((fun (x0 : ByteArray) => F36 x0) x))).any (fun (x0 : ByteArray) => F38 x0))) (fun h13 => (fun hF : (([] : List ByteArray), false) = (F14 line) => ai ((Imp.nil 1 eStr).trans (Imp.of_eq (congrArg (fun r : List ByteArray × Bool => Dat.l 1 eStr r.1) hF))) (ai (congrArg (fun r : List ByteArray × Bool => (.bool r.2 : Value)) hF) trivial)) (finD hD0_6 (condT h13 rfl))) (fun h13 => have _ : ¬ (((F13 ((F33 line w14_).1) w15_).filter (fun x => !((fun (x0 : ByteArray) => F36 x0) x))).length : Int) > 8 := of_decide_eq_false (orF1 h13); fi14 line (((F13 ((F33 line w14_).1) w15_).filter (fun x => !((fun (x0 : ByteArray) => F36 x0) x))), true) (finD hD0_6 (condF h13 rfl)))))))))))))) (i0.1 - 1) i0.2 (un14_0 line i0 hi0)))) (by kernel_rfl)
end Go.Proofs.YtbaholefcgacpaaGreatDoor
namespace Go.Proofs.YtbaholefcgacpaaGreatDoor
open Go.RowKit
set_option maxRecDepth 100000
set_option linter.unusedVariables false
set_option linter.unusedSimpArgs false
def Qv (c : UInt8) : List UInt8 → List (List UInt8)
 | [] => [[]]
 | b :: l => if b = c then [] :: Qv c l else (match Qv c l with | [] => [[b]] | w :: ws => (b :: w) :: ws)
theorem Ur {c : UInt8} : ∀ {l : List UInt8}, c ∉ l → Qv c l = [l]
 | [], _ => rfl
 | b :: l, h => by
  have hb : b ≠ c := fun e => h (by rw [e]; exact List.mem_cons_self)
  rw [Qv, if_neg hb, Ur (fun hm => h (List.mem_cons_of_mem _ hm))]
theorem Uz {c : UInt8} (b : List UInt8) : ∀ {a : List UInt8}, c ∉ a → Qv c (a ++ c :: b) = a :: Qv c b
 | [], _ => by rw [List.nil_append, Qv, if_pos rfl]
 | x :: a, h => by
  have hb : x ≠ c := fun e => h (by rw [e]; exact List.mem_cons_self)
  rw [List.cons_append, Qv, if_neg hb, Uz b (fun hm => h (List.mem_cons_of_mem _ hm))]
theorem Ks (c : UInt8) : ∀ l : List UInt8, (Lib.index l [c] = -1 ∧ c ∉ l) ∨ ∃ a b, l = a ++ c :: b ∧ c ∉ a ∧ Lib.index l [c] = (a.length : Int)
 | [] => .inl ⟨rfl, by simp⟩
 | x :: l => by
  rw [Lib.index_one, Lib.indexByte]
  by_cases hx : x = c
  ·subst hx
   exact .inr ⟨[], l, rfl, by simp, by simp⟩
  ·have hx' : (x == c) = false := by simpa using hx
   rw [hx']
   rcases Ks c l with ⟨h1, h2⟩ | ⟨a, b, h1, h2, h3⟩
   ·rw [Lib.index_one] at h1
    refine .inl ⟨by rw [h1]; rfl, fun hm => ?_⟩
    rcases List.mem_cons.1 hm with h | h
    ·exact hx h.symm
    ·exact h2 h
   ·rw [Lib.index_one] at h3
    refine .inr ⟨x :: a, b, by rw [h1]; rfl, fun hm => ?_, ?_⟩
    ·rcases List.mem_cons.1 hm with h | h
     ·exact hx h.symm
     ·exact h2 h
    ·rw [h3]
     have : ((a.length : Int) == -1) = false := by
      rw [beq_eq_false_iff_ne]; omega
     simp only [this, Bool.false_eq_true, if_false, List.length_cons]
     omega
theorem Jn {a b : ByteArray} (h : a.data.toList = b.data.toList) : a = b := by
 cases a; cases b
 simp only at h
 congr
 exact Array.ext' h
theorem Bo (s : ByteArray) (c : UInt8) : (c ∉ s.data.toList ∧ cut3 s ⟨#[c]⟩ = (s, ⟨#[]⟩, false)) ∨ ∃ a b, s.data.toList = a ++ c :: b ∧ c ∉ a ∧ cut3 s ⟨#[c]⟩ = (⟨a.toArray⟩, ⟨b.toArray⟩, true) := by
 rcases Ks c s.data.toList with ⟨h1, h2⟩ | ⟨a, b, h1, h2, h3⟩
 ·refine .inl ⟨h2, ?_⟩
  unfold cut3 Lib.cut
  rw [h1]
  rfl
 ·refine .inr ⟨a, b, h1, h2, ?_⟩
  unfold cut3 Lib.cut
  rw [h3, if_pos (by omega), h1]
  simp
theorem Ec (c : UInt8) : ∀ (k : Nat) (s : ByteArray), s.data.toList.count c = k → (Lib.splitB ⟨#[c]⟩ 0 k s).map (·.data.toList) = Qv c s.data.toList
 | 0, s, hk => by
  rw [Ur (List.count_eq_zero.1 hk)]
  rfl
 | k + 1, s, hk => by
  rcases Ks c s.data.toList with ⟨h1, h2⟩ | ⟨a, b, h1, h2, h3⟩
  ·rw [List.count_eq_zero.2 h2] at hk; omega
  ·have hi : Lib.indexB s ⟨#[c]⟩ = (a.length : Int) := h3
   unfold Lib.splitB
   rw [hi, if_neg (by rw [beq_iff_eq]; omega), List.map_cons, h1, Uz b h2]
   have hsz : s.size = a.length + (b.length + 1) := by
    have := congrArg List.length h1
    rw [List.length_append, List.length_cons, Array.length_toList] at this
    exact this
   have e1 : (s.extract 0 (((a.length : Int)).toNat + 0)).data.toList = a := by
    rw [ByteArray.data_extract, Array.toList_extract, List.extract_eq_take_drop, h1, Int.toNat_natCast, Nat.add_zero, Nat.sub_zero, List.drop_zero]
    rw [List.take_append_of_le_length (Nat.le_refl _), List.take_length]
   have e2 : (s.extract (((a.length : Int)).toNat + (⟨#[c]⟩ : ByteArray).size) s.size).data.toList = b := by
    have hc1 : (⟨#[c]⟩ : ByteArray).size = 1 := rfl
    rw [hc1]
    simp only [ByteArray.data_extract, Array.toList_extract, List.extract_eq_take_drop, h1, Int.toNat_natCast, hsz]
    rw [List.drop_append, List.drop_of_length_le (by omega), List.nil_append]
    have e3 : a.length + 1 - a.length = 1 := by omega
    rw [e3, List.drop_succ_cons, List.drop_zero, List.take_of_length_le (by omega)]
   rw [e1, Ec c k _ (by rw [e2]; rw [h1] at hk; simp [List.count_eq_zero.2 h2] at hk; omega), e2]
theorem Eu (s : ByteArray) (c : UInt8) : (Qq s ⟨#[c]⟩).map (·.data.toList) = Qv c s.data.toList := by
 have : Lib.countB s ⟨#[c]⟩ = s.data.toList.count c := Lib.count_one c s.data.toList
 unfold Qq
 rw [this]
 exact Ec c _ s rfl
def Xw (line : ByteArray) : Int → Lp Int ByteArray := fun i40 =>
 bif (decide (i40 < (line.size : Int))) then (bif (((line.data.getD (Int.toNat i40) 0).toNat : Int) == 35) then (.ret (line.extract (Int.toNat (0 : Int)) (Int.toNat i40))) else (.next (i40 + 1))) else (.done i40)
def F50 (line : ByteArray) : ByteArray :=
 (runL (Xw line) ((Int.toNat ((line.size : Int) - 0)) + 1) 0).fin (fun r => r) (fun i40 => line)
abbrev Ef (line : ByteArray) : Nat × Int := (((Int.toNat ((line.size : Int) - 0)) + 1), 0)
abbrev Qjn (line : ByteArray) (m39 : Nat) (i40 : Int) : Prop := Int.toNat ((line.size : Int) - i40) < m39 ∧ (0 : Int) ≤ i40
abbrev Qtz (line : ByteArray) : Lp Int ByteArray := LpX (Xw line) (Ef line)
abbrev Tp (line : ByteArray) (i : Nat × Int) : Prop := LpJ (Xw line) (Ef line) i (Qjn line i.1 i.2)
abbrev Qxg (line : ByteArray) (i : Nat × Int) (m39 : Nat) (i40 : Int) : Prop := LpH (Xw line) (Ef line) i m39 i40 (Qjn line (m39 + 1) i40)
abbrev Uap (line : ByteArray) (i40 : Int) (i40_ : Int) (K39 : Prop) : Prop := (Rf (.string line)) ∧ ((.int .i64 i40 : Value) = .int .i64 i40_) ∧ K39
theorem un50_0 (line : ByteArray) (i : Nat × Int) (h : Tp line i) : Qxg line i (i.1 - 1) i.2 := ⟨hd1 h.1 h.2.1, hd3 h.2.1, hd2 h.2.1, h.2.2⟩
theorem bk50_0 (line : ByteArray) (i : Nat × Int) (m39 : Nat) (i40 : Int) (hl : m39 < i.1) (e : runL (Xw line) m39 i40 = Qtz line) (h : Qjn line m39 i40) : ∃ j : Nat × Int, Uap line i40 j.2 (Tp line j ∧ j.1 < i.1) := ⟨(m39, i40), rfl, rfl, ⟨e, h⟩, hl⟩
theorem en50_0 (line : ByteArray) (h : (0 : Int) ≤ 0) : Uap line 0 0 (Tp line (Ef line)) := ⟨rfl, rfl, rfl, Nat.lt_succ_self _, h⟩
def S50 (R : ByteArray) (line : ByteArray) : Spec := ⟨[.r (.c (.v (.string line)))], .v (.string R), line.size ≤ 1048576⟩
theorem ok50 (line : ByteArray) : (S50 (F50 line) line).ok Tryz.prog 50 :=
 Qj mixed (fn := Tryz.f50) (ct := .seq .no (.seq (.seq .no (.blk (.loop (ι := Nat × Int) (fun i => (fun (i40 : Int) => (⟨[(0, some (.v (.string line))), (3, some (.v (vI i40)))], [], 0⟩ : St)) i.2) (Tp line) (fun i => i.1) (Ef line) (fun i => (fun (i40 : Int) => (.seq (.seq .no (.cond .no .no)) (.seq (.blk (.seq .no (.cond (.seq .no .no) .no))) (.reg [(1, .bnd)])))) i.2)))) (.seq .no .no))) Tryz.func50 (fun (hpre0 : line.size ≤ 1048576) => ai (en50_0 line (by omega)) (fun (i0 : Nat × Int) (hi0 : Tp line i0) => (fun (m0 : Nat) (i40 : Int) (hh0 : Qxg line i0 m0 i40) => have hI0 := hh0.1; have hl0 := hh0.2.1; have _ := hh0.2.2.1; have _ := hh0.2.2.2; ifd (i40 < (line.size : Int)) (fun h2 _ => ai (by omega : 0 ≤ i40 ∧ i40 < (line.size : Int)) (ife ((line.data.getD (Int.toNat i40) 0).toNat : Int) 35 (fun h3 _ => ai (by omega : 0 ≤ (0 : Int) ∧ (0 : Int) ≤ i40 ∧ i40 ≤ (line.size : Int)) (fiS (line.extract (Int.toNat (0 : Int)) (Int.toNat i40)) (F50 line) (finR (Qr hI0 (condT h2 (condT h3 rfl))) rfl))) (fun h3 _ => ai (iok (i40 + 1) (by omega)) (bk50_0 line i0 m0 (i40 + 1) hl0 (Qd hI0 (condT h2 (condF h3 rfl))) (by refine ⟨?_, ?_⟩ <;> omega))))) (fun h2 _ => have hD0_4 : Qtz line = Lp.done i40 := Qk hI0 (condF h2 rfl); fiS line (F50 line) (finD hD0_4 rfl))) (i0.1 - 1) i0.2 (un50_0 line i0 hi0))) (by kernel_rfl)
theorem Zl (s : ByteArray) (i : Nat) : s.data.getD i 0 = s.data.toList.getD i 0 := by
 simp [Array.getD, List.getD_eq_getElem?_getD]
 split <;> simp_all
theorem cut_at {s : ByteArray} {c : UInt8} {i : Nat} (hi : i < s.size) (h : s.data.toList.getD i 0 = c) (hn : ∀ j, j < i → s.data.toList.getD j 0 ≠ c) : (cut3 s ⟨#[c]⟩).1 = s.extract 0 i := by
 have hl : s.data.toList.length = s.size := Array.length_toList
 rcases Bo s c with ⟨h1, _⟩ | ⟨a, b, h1, h2, h3⟩
 ·exact absurd (by rw [← h, List.getD_eq_getElem?_getD, List.getElem?_eq_getElem (by omega)]; exact List.getElem_mem _) h1
 ·rw [h3]
  have hai : a.length = i := by
   rcases Nat.lt_trichotomy a.length i with hlt | heq | hgt
   ·refine absurd ?_ (hn a.length hlt)
    rw [h1, List.getD_eq_getElem?_getD, List.getElem?_append_right (Nat.le_refl _)]
    simp
   ·exact heq
   ·rw [h1, List.getD_eq_getElem?_getD, List.getElem?_append_left hgt, List.getElem?_eq_getElem hgt] at h
    exact absurd (h ▸ List.getElem_mem hgt) h2
  refine Jn ?_
  rw [ByteArray.data_extract, Array.toList_extract, List.extract_eq_take_drop, h1, List.drop_zero, Nat.sub_zero, ← hai, List.take_append_of_le_length (Nat.le_refl _), List.take_length]
theorem Uct {s : ByteArray} {c : UInt8} (hn : ∀ j, j < s.size → s.data.toList.getD j 0 ≠ c) : (cut3 s ⟨#[c]⟩).1 = s := by
 have hl : s.data.toList.length = s.size := Array.length_toList
 rcases Bo s c with ⟨_, h1⟩ | ⟨a, b, h1, h2, h3⟩
 ·rw [h1]
 ·refine absurd ?_ (hn a.length (by rw [← hl, h1]; simp))
  rw [h1, List.getD_eq_getElem?_getD, List.getElem?_append_right (Nat.le_refl _)]
  simp
theorem Qph (b : UInt8) (k : UInt8) : ((b.toNat : Int) == (k.toNat : Int)) = decide (b = k) := by
 rw [beqD]
 congr 1
 refine propext ⟨fun h => ?_, fun h => by rw [h]⟩
 exact UInt8.toNat_inj.1 (by omega)
theorem Qee (s : ByteArray) : ∀ (m i : Nat), i + m = s.size → (∀ j, j < i → s.data.toList.getD j 0 ≠ 35) → ∀ fuel, m < fuel →
  (runL (Xw s) fuel (i : Int)).fin (fun r => r) (fun _ => s) = (cut3 s ⟨#[35]⟩).1
 | m, i, _, _, 0, hf => absurd hf (Nat.not_lt_zero _)
 | 0, i, h, hn, fuel + 1, _ => by
  have h1 : decide ((i : Int) < (s.size : Int)) = false := decide_eq_false (by omega)
  simp only [runL, Xw, h1, cond_false]
  rw [Uct (fun j hj => hn j (by omega))]
  rfl
 | m + 1, i, h, hn, fuel + 1, hf => by
  have h1 : decide ((i : Int) < (s.size : Int)) = true := decide_eq_true (by omega)
  have h2 := Qph (s.data.toList.getD i 0) 35
  have h3 : ((35 : UInt8).toNat : Int) = 35 := rfl
  rw [h3] at h2
  simp only [runL, Xw, h1, cond_true, Int.toNat_natCast, Zl, h2]
  by_cases hc : s.data.toList.getD i 0 = 35
  ·rw [decide_eq_true hc, cond_true, cut_at (by omega) hc hn]
   rfl
  ·rw [decide_eq_false hc, cond_false]
   have := Qee s m (i + 1) (by omega) (fun j hj => by
    rcases Nat.lt_or_ge j i with h4 | h4
    ·exact hn j h4
    ·obtain rfl : j = i := by omega
     exact hc) fuel (by omega)
   simpa using this
theorem as50 (line : ByteArray) : F50 line = ((cut3 line (⟨#[35]⟩ : ByteArray)).1) := by
 unfold F50
 exact Qee line line.size 0 (by omega) (fun j hj => absurd hj (Nat.not_lt_zero _)) _ (by omega)
theorem Uax (line : ByteArray) : ((cut3 line (⟨#[35]⟩ : ByteArray)).1.size : Int) ≤ line.size := Qaj _ _
theorem Qwb (line : ByteArray) (h : line.size ≤ 1048576) : (cut3 line (⟨#[35]⟩ : ByteArray)).1.size ≤ 1048576 := by
 have := Qaj line ⟨#[35]⟩
 omega
theorem oa50 (line : ByteArray) : (S50 ((cut3 line (⟨#[35]⟩ : ByteArray)).1) line).ok Tryz.prog 50 := by
 intro hp; have h := ok50 line hp; rw [as50 line] at h; exact h
theorem kc50a (line : ByteArray) {K_ : Prop} (p0_ : line.size ≤ 1048576) (q0_ : line.size ≤ 1048576) (k_ : ((((cut3 line w14_).1).size : Int) ≤ line.size) → (((cut3 line w14_).1).size ≤ 1048576) → K_) : (line.size ≤ 1048576) ∧ (Imp (.v (.string line)) (.v (.string line))) ∧ K_ := ⟨p0_, Imp.refl _, k_ (Uax line) (Qwb line q0_)⟩
abbrev kh50a (line : ByteArray) : Hint true Tryz.prog := .call 50 (S50 ((cut3 line w14_).1) line) (oa50 line) none
def Kv (line : ByteArray) : (List ByteArray × List Int × Int) → Lp (List ByteArray × List Int × Int) (List ByteArray × Bool) := fun (out, word, i40) =>
 bif (decide (i40 ≤ (((cut3 line (⟨#[35]⟩ : ByteArray)).1).size : Int))) then (bif (bif decide (i40 < (((cut3 line (⟨#[35]⟩ : ByteArray)).1).size : Int)) then (bif decide (((((cut3 line (⟨#[35]⟩ : ByteArray)).1).data.getD (Int.toNat i40) 0).toNat : Int) < 32) then true else decide (((((cut3 line (⟨#[35]⟩ : ByteArray)).1).data.getD (Int.toNat i40) 0).toNat : Int) > 126)) else false) then (.ret (([] : List ByteArray), false)) else (bif (bif decide (i40 < (((cut3 line (⟨#[35]⟩ : ByteArray)).1).size : Int)) then (((((cut3 line (⟨#[35]⟩ : ByteArray)).1).data.getD (Int.toNat i40) 0).toNat : Int) != 32) else false) then (bif (decide (((word ++ [((((cut3 line (⟨#[35]⟩ : ByteArray)).1).data.getD (Int.toNat i40) 0).toNat : Int)]).length : Int) > 24)) then (.ret (([] : List ByteArray), false)) else (.next (out, (word ++ [((((cut3 line (⟨#[35]⟩ : ByteArray)).1).data.getD (Int.toNat i40) 0).toNat : Int)]), (i40 + 1)))) else (bif (decide ((word.length : Int) > 0)) then (bif (decide (((out ++ [(Zb word)]).length : Int) > 8)) then (.ret (([] : List ByteArray), false)) else (.next ((out ++ [(Zb word)]), ([] : List Int), (i40 + 1)))) else (.next (out, word, (i40 + 1)))))) else (.done (out, word, i40))
def F20 (line : ByteArray) : List ByteArray × Bool :=
 (runL (Kv line) ((Int.toNat ((((cut3 line (⟨#[35]⟩ : ByteArray)).1).size : Int) - 0 + 1)) + 1) (([] : List ByteArray), ([] : List Int), 0)).fin (fun r => r) (fun (out, word, i40) => (out, true))
abbrev Qcb (line : ByteArray) : Nat × (List ByteArray × List Int × Int) := (((Int.toNat ((((cut3 line w14_).1).size : Int) - 0 + 1)) + 1), (([] : List ByteArray), ([] : List Int), 0))
abbrev Qly (line : ByteArray) (m39 : Nat) (out : List ByteArray) (word : List Int) (i40 : Int) : Prop := Int.toNat ((((cut3 line w14_).1).size : Int) - i40 + 1) < m39 ∧ word.length ≤ 24 ∧ out.length ≤ 8 ∧ (0 : Int) ≤ i40
abbrev Qxx (line : ByteArray) : Lp (List ByteArray × List Int × Int) (List ByteArray × Bool) := LpX (Kv line) (Qcb line)
abbrev Pz (line : ByteArray) (i : Nat × (List ByteArray × List Int × Int)) : Prop := LpJ (Kv line) (Qcb line) i (Qly line i.1 i.2.1 i.2.2.1 i.2.2.2)
abbrev Qyv (line : ByteArray) (i : Nat × (List ByteArray × List Int × Int)) (m39 : Nat) (out : List ByteArray) (word : List Int) (i40 : Int) : Prop := LpH (Kv line) (Qcb line) i m39 (out, word, i40) (Qly line (m39 + 1) out word i40)
abbrev Qtg (line : ByteArray) (out : List ByteArray) (word : List Int) (i40 : Int) (out_ : List ByteArray) (word_ : List Int) (i40_ : Int) (K39 : Prop) : Prop := (Rf (.string ((cut3 line w14_).1))) ∧ ((.int .i64 i40 : Value) = .int .i64 i40_) ∧ (Imp (.l 1 eStr out) (.l 1 eStr out_)) ∧ (Imp (.l 1 Zv word) (.l 1 Zv word_)) ∧ K39
theorem un20_0 (line : ByteArray) (i : Nat × (List ByteArray × List Int × Int)) (h : Pz line i) : Qyv line i (i.1 - 1) i.2.1 i.2.2.1 i.2.2.2 := ⟨hd1 h.1 h.2.1, hd3 h.2.1, hd2 h.2.1, h.2.2⟩
theorem Qnl (line : ByteArray) (i : Nat × (List ByteArray × List Int × Int)) (m39 : Nat) (out : List ByteArray) (word : List Int) (i40 : Int) (hl : m39 < i.1) (e : runL (Kv line) m39 (out, word, i40) = Qxx line) (h : Qly line m39 out word i40) : ∃ j : Nat × (List ByteArray × List Int × Int), Qtg line out word i40 j.2.1 j.2.2.1 j.2.2.2 (Pz line j ∧ j.1 < i.1) := ⟨(m39, (out, word, i40)), rfl, rfl, Imp.refl _, Imp.refl _, ⟨e, h⟩, hl⟩
theorem en20_0 (line : ByteArray) (h : ([] : List Int).length ≤ 24 ∧ ([] : List ByteArray).length ≤ 8 ∧ (0 : Int) ≤ 0) : Qtg line ([] : List ByteArray) ([] : List Int) 0 ([] : List ByteArray) ([] : List Int) 0 (Pz line (Qcb line)) := ⟨rfl, rfl, Imp.refl _, Imp.refl _, rfl, Nat.lt_succ_self _, h⟩
theorem fi20 (line : ByteArray) (r : List ByteArray × Bool) (hF : r = (F20 line)) : (Imp (.l 1 eStr r.1) (.l 1 eStr ((F20 line).1))) ∧ ((.bool r.2 : Value) = .bool ((F20 line).2)) ∧ True := by cases hF; exact ⟨Imp.refl _, rfl, trivial⟩
def S20 (line : ByteArray) : Spec := ⟨[.r (.c (.v (.string line)))], .tu [.ow (.l 1 eStr ((F20 line).1)), .v (.bool ((F20 line).2))], line.size ≤ 1048576⟩
theorem ok20 (line : ByteArray) : (S20 line).ok Tryz.prog 20 :=
 Qj mixed (fn := Tryz.f20) (ct := .seq .no (.seq (.reg [(1, kh50a line)]) (.seq (.reg [(0, .dat (.l 1 eStr ([] : List ByteArray)))]) (.seq (.reg [(0, .dat (.l 1 Zv ([] : List Int)))]) (.seq (.seqk [(5, 0), (6, 0)] .no (.blk (.loop (ι := Nat × (List ByteArray × List Int × Int)) (fun i => (fun (out : List ByteArray) (word : List Int) (i40 : Int) => (⟨[(4, some (.v (.string ((cut3 line w14_).1)))), (5, some (.h 0 0)), (6, some (.h 1 0)), (7, some (.v (vI i40)))], [(0, some (.own 0 (.l 1 eStr out))), (1, some (.own 1 (.l 1 Zv word)))], 2⟩ : St)) i.2.1 i.2.2.1 i.2.2.2) (Pz line) (fun i => i.1) (Qcb line) (fun i => (fun (out : List ByteArray) (word : List Int) (i40 : Int) => (.seq (.seq .no (.cond .no .no)) (.seq (.blk (.seq (.seq .no (.cond (.seq (.reg [(0, .dat (.l 1 eStr ([] : List ByteArray)))]) .no) .no)) (.seq (.seq .no (.cond (.seq (.reg [(5, .dat (.l 1 Zv (word ++ [((((cut3 line w14_).1).data.getD (Int.toNat i40) 0).toNat : Int)])))]) (.seq (.seq .no (.cond (.seq (.reg [(0, .dat (.l 1 eStr ([] : List ByteArray)))]) .no) .no)) .no)) .no)) (.seq .no (.cond (.seq (.reg [(2, .str (Zb word)), (4, .dat (.l 1 eStr (out ++ [(Zb word)])))]) (.seq (.reg [(0, .dat (.l 1 Zv ([] : List Int)))]) (.seq .no (.cond (.seq (.reg [(0, .dat (.l 1 eStr ([] : List ByteArray)))]) .no) .no)))) .no))))) (.reg [(1, .bnd)])))) i.2.1 i.2.2.1 i.2.2.2)))) (.seq .no .no)))))) Tryz.func20 (fun (hpre0 : line.size ≤ 1048576) => kc50a line (by first | omega | (simp only [lens, ib] at * <;> omega)) (by first | omega | (simp only [lens, ib] at * <;> omega)) (fun gv1 gv2 => ai (bokr 1 eStr ([] : List ByteArray) fun _ => rfl) (ai (bokr 1 Zv ([] : List Int) fun _ => rfl) (kn ([] : List ByteArray) fun _ => kn ([] : List Int) fun _ => ai (en20_0 line (by refine ⟨?_, ?_, ?_⟩ <;> first | omega | (simp only [lens, ib] at * <;> omega))) (fun (i0 : Nat × (List ByteArray × List Int × Int)) (hi0 : Pz line i0) => (fun (m0 : Nat) (out : List ByteArray) (word : List Int) (i40 : Int) (hh0 : Qyv line i0 m0 out word i40) => have hI0 := hh0.1; have hl0 := hh0.2.1; have _ := hh0.2.2.1; have _ := hh0.2.2.2; ifd (i40 ≤ (((cut3 line w14_).1).size : Int)) (fun h4 _ => ai (fun k5 : (decide (i40 < (((cut3 line w14_).1).size : Int))) = true => have _ : i40 < (((cut3 line w14_).1).size : Int) := of_decide_eq_true k5; (by first | omega | (simp only [lens, ib] at * <;> omega) : 0 ≤ i40 ∧ i40 < (((cut3 line w14_).1).size : Int))) (ai (fun k7 : (decide (((((cut3 line w14_).1).data.getD (Int.toNat i40) 0).toNat : Int) < 32)) = false => have _ : ¬ ((((cut3 line w14_).1).data.getD (Int.toNat i40) 0).toNat : Int) < 32 := of_decide_eq_false k7; (fun k6 : (decide (i40 < (((cut3 line w14_).1).size : Int))) = true => have _ : i40 < (((cut3 line w14_).1).size : Int) := of_decide_eq_true k6; (by first | omega | (simp only [lens, ib] at * <;> omega) : 0 ≤ i40 ∧ i40 < (((cut3 line w14_).1).size : Int)))) (ifb (bif decide (i40 < (((cut3 line w14_).1).size : Int)) then (bif decide (((((cut3 line w14_).1).data.getD (Int.toNat i40) 0).toNat : Int) < 32) then true else decide (((((cut3 line w14_).1).data.getD (Int.toNat i40) 0).toNat : Int) > 126)) else false) (fun h8 => have _ : i40 < (((cut3 line w14_).1).size : Int) := of_decide_eq_true (Qi h8); ai (bokr 1 eStr ([] : List ByteArray) fun _ => rfl) (fi20 line (([] : List ByteArray), false) (finR (Qr hI0 (condT h4 (condT h8 rfl))) rfl))) (fun h8 => ai (fun k9 : (decide (i40 < (((cut3 line w14_).1).size : Int))) = true => have _ : i40 < (((cut3 line w14_).1).size : Int) := of_decide_eq_true k9; (by first | omega | (simp only [lens, ib] at * <;> omega) : 0 ≤ i40 ∧ i40 < (((cut3 line w14_).1).size : Int))) (ifb (bif decide (i40 < (((cut3 line w14_).1).size : Int)) then (((((cut3 line w14_).1).data.getD (Int.toNat i40) 0).toNat : Int) != 32) else false) (fun h10 => have _ : i40 < (((cut3 line w14_).1).size : Int) := of_decide_eq_true (Qi h10); have _ : ¬ ((((cut3 line w14_).1).data.getD (Int.toNat i40) 0).toNat : Int) = 32 := bneT (Qt h10); ai (by first | omega | (simp only [lens, ib] at * <;> omega) : 0 ≤ i40 ∧ i40 < (((cut3 line w14_).1).size : Int)) (ai (AppA.mk Zv word [((((cut3 line w14_).1).data.getD (Int.toNat i40) 0).toNat : Int)] (Imp.refl (.l 1 Zv word)) rfl (by exact ai (Imp.u8 (by first | exact u8a _ | exact u8m _ | exact u8w _)) trivial) (fun _ => rfl) : AppA (.l 1 Zv word) 1 1 [.v (.int .u8 ((((cut3 line w14_).1).data.getD (Int.toNat i40) 0).toNat : Int))] (.l 1 Zv (word ++ [((((cut3 line w14_).1).data.getD (Int.toNat i40) 0).toNat : Int)]))) (ai (by (try simp only [lens]); omega : (word ++ [((((cut3 line w14_).1).data.getD (Int.toNat i40) 0).toNat : Int)]).length * 1 ≤ 140737488355328) (ifd (((word ++ [((((cut3 line w14_).1).data.getD (Int.toNat i40) 0).toNat : Int)]).length : Int) > 24) (fun h11 _ => ai (bokr 1 eStr ([] : List ByteArray) fun _ => rfl) (fi20 line (([] : List ByteArray), false) (finR (Qr hI0 (condT h4 (condF h8 (condT h10 (condT h11 rfl))))) rfl))) (fun h11 _ => ai (iok (i40 + 1) (by first | omega | (simp only [lens, ib] at * <;> omega))) (Qnl line i0 m0 out (word ++ [((((cut3 line w14_).1).data.getD (Int.toNat i40) 0).toNat : Int)]) (i40 + 1) hl0 (Qd hI0 (condT h4 (condF h8 (condT h10 (condF h11 rfl))))) (by refine ⟨?_, ?_, ?_, ?_⟩ <;> first | omega | (simp only [lens, ib] at * <;> omega)))))))) (fun h10 => ifd ((word.length : Int) > 0) (fun h12 _ => ai (ConvOK.mk Zv word (fun x => x % 256) (fun _ => rfl) : ConvOK (.l 1 Zv word) (Zb word)) (ai (appr 1 eStr out [(Zb word)] fun _ => rfl) (ai (by (try simp only [lens]); omega : (out ++ [(Zb word)]).length * 16 ≤ 140737488355328) (ai (bokr 1 Zv ([] : List Int) fun _ => rfl) (ifd (((out ++ [(Zb word)]).length : Int) > 8) (fun h13 _ => ai (bokr 1 eStr ([] : List ByteArray) fun _ => rfl) (fi20 line (([] : List ByteArray), false) (finR (Qr hI0 (condT h4 (condF h8 (condF h10 (condT h12 (condT h13 rfl)))))) rfl))) (fun h13 _ => ai (iok (i40 + 1) (by first | omega | (simp only [lens, ib] at * <;> omega))) (Qnl line i0 m0 (out ++ [(Zb word)]) ([] : List Int) (i40 + 1) hl0 (Qd hI0 (condT h4 (condF h8 (condF h10 (condT h12 (condF h13 rfl)))))) (by refine ⟨?_, ?_, ?_, ?_⟩ <;> first | omega | (simp only [lens, ib] at * <;> omega))))))))) (fun h12 _ => ai (iok (i40 + 1) (by first | omega | (simp only [lens, ib] at * <;> omega))) (Qnl line i0 m0 out word (i40 + 1) hl0 (Qd hI0 (condT h4 (condF h8 (condF h10 (condF h12 rfl))))) (by refine ⟨?_, ?_, ?_, ?_⟩ <;> first | omega | (simp only [lens, ib] at * <;> omega)))))))))) (fun h4 _ => have hD0_14 : Qxx line = Lp.done (out, word, i40) := Qk hI0 (condF h4 rfl); fi20 line (out, true) (finD hD0_14 rfl))) (i0.1 - 1) i0.2.1 i0.2.2.1 i0.2.2.2 (un20_0 line i0 hi0)))))) (by kernel_rfl)
abbrev w16_ : ByteArray := ⟨#[109, 48]⟩
abbrev w17_ : ByteArray := ⟨#[109]⟩
def Rb (k : Int) : (Int × ByteArray) → Lp (Int × ByteArray) ByteArray := fun (k400, out) =>
 bif (decide (k400 > 0)) then (.next ((k400.tdiv 10), ((Zb ([(IntKind.u8.wrap (IntKind.i64.wrap (48 + (k400.tmod 10))))] : List Int)) ++ out))) else (.done (k400, out))
def F18 (k : Int) : ByteArray :=
 bif (decide (k ≤ 0)) then (⟨#[109, 48]⟩ : ByteArray) else ((runL (Rb k) ((Int.toNat k) + 1) (k, (⟨#[]⟩ : ByteArray))).fin (fun r => r) (fun (k400, out) => ((⟨#[109]⟩ : ByteArray) ++ out)))
abbrev Rl (k : Int) : Nat × (Int × ByteArray) := (((Int.toNat k) + 1), (k, w13_))
abbrev Qml (m39 : Nat) (k400 : Int) (out : ByteArray) : Prop := Int.toNat k400 < m39 ∧ 0 ≤ k400 ∧ (out.size : Int) + k400 ≤ 1000000000
abbrev Uag (k : Int) : Lp (Int × ByteArray) ByteArray := LpX (Rb k) (Rl k)
abbrev Qaq (k : Int) (i : Nat × (Int × ByteArray)) : Prop := LpJ (Rb k) (Rl k) i (Qml i.1 i.2.1 i.2.2)
abbrev Qzi (k : Int) (i : Nat × (Int × ByteArray)) (m39 : Nat) (k400 : Int) (out : ByteArray) : Prop := LpH (Rb k) (Rl k) i m39 (k400, out) (Qml (m39 + 1) k400 out)
abbrev Qxt (k400 : Int) (out : ByteArray) (k400_ : Int) (out_ : ByteArray) (K39 : Prop) : Prop := ((.int .i64 k400 : Value) = .int .i64 k400_) ∧ ((.string out : Value) = .string out_) ∧ K39
theorem un18_0 (k : Int) (i : Nat × (Int × ByteArray)) (h : Qaq k i) : Qzi k i (i.1 - 1) i.2.1 i.2.2 := ⟨hd1 h.1 h.2.1, hd3 h.2.1, hd2 h.2.1, h.2.2⟩
theorem bk18_0 (k : Int) (i : Nat × (Int × ByteArray)) (m39 : Nat) (k400 : Int) (out : ByteArray) (hl : m39 < i.1) (e : runL (Rb k) m39 (k400, out) = Uag k) (h : Qml m39 k400 out) : ∃ j : Nat × (Int × ByteArray), Qxt k400 out j.2.1 j.2.2 (Qaq k j ∧ j.1 < i.1) := ⟨(m39, (k400, out)), rfl, rfl, ⟨e, h⟩, hl⟩
theorem en18_0 (k : Int) (h : 0 ≤ k ∧ (w13_.size : Int) + k ≤ 1000000000) : Qxt k w13_ k w13_ (Qaq k (Rl k)) := ⟨rfl, rfl, rfl, Nat.lt_succ_self _, h⟩
def S18 (k : Int) : Spec := ⟨[.r (.c (.v (vI k)))], .v (.string (F18 k)), k ≤ 1000000000⟩
theorem ok18 (k : Int) : (S18 k).ok Tryz.prog 18 :=
 Qj mixed (fn := Tryz.f18) (ct := .seq .no (.seq (.seq .no (.cond (.seq .no .no) .no)) (.seq .no (.seq (.blk (.loop (ι := Nat × (Int × ByteArray)) (fun i => (fun (k400 : Int) (out : ByteArray) => (⟨[(0, some (.v (vI k400))), (3, some (.v (.string out)))], [], 0⟩ : St)) i.2.1 i.2.2) (Qaq k) (fun i => i.1) (Rl k) (fun i => (fun (k400 : Int) (out : ByteArray) => (.seq (.seq .no (.cond .no .no)) (.blk (.seq (.reg [(4, .dat (.l 1 Zv ([(IntKind.u8.wrap (IntKind.i64.wrap (48 + (k400.tmod 10))))] : List Int))), (5, .str (Zb ([(IntKind.u8.wrap (IntKind.i64.wrap (48 + (k400.tmod 10))))] : List Int)))]) (.reg [(1, .bnd)]))))) i.2.1 i.2.2))) (.seq .no .no))))) Tryz.func18 (fun (hpre0 : k ≤ 1000000000) => ifd (k ≤ 0) (fun h1 _ => fiS w16_ (F18 k) (condT h1 rfl)) (fun h1 _ => ai (en18_0 k (by refine ⟨?_, ?_⟩ <;> first | omega | (simp only [lens, ib] at * <;> omega) | ((try simp only [Qh, Zk, sz0, List.length_cons, List.length_nil] at *); omega) | (have hq := Int.tdiv_eq_ediv_of_nonneg (a := k400) (b := 10) (by first | omega | (simp only [lens, ib] at * <;> omega)); (try simp only [Qh, Zk, sz0, List.length_cons, List.length_nil] at *); rw [hq]; omega))) (fun (i0 : Nat × (Int × ByteArray)) (hi0 : Qaq k i0) => (fun (m0 : Nat) (k400 : Int) (out : ByteArray) (hh0 : Qzi k i0 m0 k400 out) => have hI0 := hh0.1; have hl0 := hh0.2.1; have _ := hh0.2.2.1; have _ := hh0.2.2.2; ifd (k400 > 0) (fun h3 _ => ai (by first | omega | (simp only [lens, ib] at * <;> omega) : ¬ (10 : Int) = 0) (ai (BuildOK.mk Zv ([(IntKind.u8.wrap (IntKind.i64.wrap (48 + (k400.tmod 10))))] : List Int) rfl (by exact ai (Imp.u8 (by first | exact u8a _ | exact u8m _ | exact u8w _)) trivial) (fun _ => rfl) : BuildOK 1 1 [.v (.int .u8 (IntKind.u8.wrap (IntKind.i64.wrap (48 + (k400.tmod 10)))))] (.l 1 Zv ([(IntKind.u8.wrap (IntKind.i64.wrap (48 + (k400.tmod 10))))] : List Int))) (ai (ConvOK.mk Zv ([(IntKind.u8.wrap (IntKind.i64.wrap (48 + (k400.tmod 10))))] : List Int) (fun x => x % 256) (fun _ => rfl) : ConvOK (.l 1 Zv ([(IntKind.u8.wrap (IntKind.i64.wrap (48 + (k400.tmod 10))))] : List Int)) (Zb ([(IntKind.u8.wrap (IntKind.i64.wrap (48 + (k400.tmod 10))))] : List Int))) (ai (by have hs1 : w17_.size = 1 := rfl; (try simp only [Qh, Zk, sz0, List.length_cons, List.length_nil] at *); omega : (((Zb ([(IntKind.u8.wrap (IntKind.i64.wrap (48 + (k400.tmod 10))))] : List Int)).size + out.size : Nat) : Int) ≤ 9223372036854775807) (ai (by first | omega | (simp only [lens, ib] at * <;> omega) : ¬ (10 : Int) = 0) (ai (iok (k400.tdiv 10) (by first | omega | (have hq := Int.tdiv_eq_ediv_of_nonneg (a := k400) (b := 10) (by first | omega | (simp only [lens, ib] at * <;> omega)); rw [hq]; omega))) (bk18_0 k i0 m0 (k400.tdiv 10) ((Zb ([(IntKind.u8.wrap (IntKind.i64.wrap (48 + (k400.tmod 10))))] : List Int)) ++ out) hl0 (Qd hI0 (condT h3 rfl)) (by refine ⟨?_, ?_, ?_⟩ <;> first | omega | (simp only [lens, ib] at * <;> omega) | ((try simp only [Qh, Zk, sz0, List.length_cons, List.length_nil] at *); omega) | (have hq := Int.tdiv_eq_ediv_of_nonneg (a := k400) (b := 10) (by first | omega | (simp only [lens, ib] at * <;> omega)); (try simp only [Qh, Zk, sz0, List.length_cons, List.length_nil] at *); rw [hq]; omega))))))))) (fun h3 _ => have hD0_4 : Uag k = Lp.done (k400, out) := Qk hI0 (condF h3 rfl); ai (by have hs1 : w17_.size = 1 := rfl; (try simp only [Qh, Zk, sz0, List.length_cons, List.length_nil] at *); omega : ((w17_.size + out.size : Nat) : Int) ≤ 9223372036854775807) (fiS (w17_ ++ out) (F18 k) (condF h1 (finD hD0_4 rfl))))) (i0.1 - 1) i0.2.1 i0.2.2 (un18_0 k i0 hi0)))) (by kernel_rfl)
def Ua (l : List UInt8) : List (List UInt8) := (Qv 32 l).filter fun w => !w.isEmpty
def okB (b : UInt8) : Bool := decide (32 ≤ b.toNat ∧ b.toNat ≤ 126)
def mkB (l : List UInt8) : ByteArray := ⟨l.toArray⟩
theorem Qan (l : List UInt8) : (mkB l).data.toList = l := rfl
theorem En (s : ByteArray) : mkB s.data.toList = s := Jn rfl
def fitW (ws : List (List UInt8)) : Bool := decide (ws.length ≤ 8) && ws.all fun w => decide (w.length ≤ 24)
def Ja (l : List UInt8) : List ByteArray × Bool := bif l.all okB && fitW (Ua l) then ((Ua l).map mkB, true) else ([], false)
def Wb (w : List UInt8) : List Int := w.map fun b => (b.toNat : Int)
theorem Mp (w : List UInt8) : (Wb w).length = w.length := by simp [Wb]
theorem Nu (w : List UInt8) : Zb (Wb w) = mkB w := by
 refine Jn ?_
 show ((List.map (fun x => x % 256) (Wb w)).map fun n => UInt8.ofNat n.toNat) = w
 rw [List.map_map, Wb, List.map_map]
 refine (List.map_congr_left (g := id) fun b _ => ?_).trans (List.map_id w)
 have h := b.toNat_lt
 have e : ((b.toNat : Int) % 256).toNat = b.toNat := by omega
 simp only [Function.comp_apply, e, id]
 exact UInt8.ofNat_toNat
def Lu : List UInt8 → List ByteArray → List UInt8 → List ByteArray × Bool
 | [], out, w => if w = [] then (out, true) else if out.length + 1 > 8 then ([], false) else (out ++ [mkB w], true)
 | b :: l, out, w => if okB b = false then ([], false) else if b = 32 then (if w = [] then Lu l out w else if out.length + 1 > 8 then ([], false) else Lu l (out ++ [mkB w]) [])
  else if w.length + 1 > 24 then ([], false) else Lu l out (w ++ [b])
theorem Np (c : UInt8) : ∀ (l w : List UInt8), c ∉ w → ∃ p ps, Qv c (w ++ l) = (w ++ p) :: ps
 | [], w, h => ⟨[], [], by rw [List.append_nil, Ur h]⟩
 | b :: l, w, h => by
  by_cases hb : b = c
  ·subst hb
   exact ⟨[], Qv b l, by rw [Uz l h, List.append_nil]⟩
  ·obtain ⟨p, ps, e⟩ := Np c l (w ++ [b]) (fun hm => by
    rcases List.mem_append.1 hm with h1 | h1
    ·exact h h1
    ·exact hb (List.mem_singleton.1 h1).symm)
   exact ⟨b :: p, ps, by rw [← List.singleton_append, ← List.append_assoc, e, List.append_assoc]; rfl⟩
theorem Ly : ∀ (l : List UInt8) (out : List ByteArray) (w : List UInt8), (32 : UInt8) ∉ w → w.length ≤ 24 → out.length ≤ 8 →
  Lu l out w = bif l.all okB && (decide (out.length + (Ua (w ++ l)).length ≤ 8) && (Ua (w ++ l)).all fun x => decide (x.length ≤ 24)) then (out ++ (Ua (w ++ l)).map mkB, true) else ([], false)
 | [], out, w, hw, h24, h8 => by
  have e : Ua (w ++ []) = if w = [] then [] else [w] := by
   rw [List.append_nil, Ua, Ur hw]
   cases w <;> rfl
  rw [e, Lu]
  by_cases h : w = []
  ·rw [if_pos h, if_pos h]
   have e2 : decide (out.length + ([] : List (List UInt8)).length ≤ 8) = true := decide_eq_true (by simpa using h8)
   rw [e2, List.map_nil, List.append_nil]; rfl
  ·rw [if_neg h, if_neg h]
   by_cases h1 : out.length + 1 > 8
   ·rw [if_pos h1]
    have : decide (out.length + [w].length ≤ 8) = false := decide_eq_false (by simp only [List.length_cons, List.length_nil]; omega)
    rw [this]; rfl
   ·rw [if_neg h1]
    have : decide (out.length + [w].length ≤ 8) = true := decide_eq_true (by simp only [List.length_cons, List.length_nil]; omega)
    rw [this, List.all_cons, decide_eq_true h24]; rfl
 | b :: l, out, w, hw, h24, h8 => by
  rw [Lu, List.all_cons]
  cases hb : okB b with
  | false => rw [if_pos rfl]; rfl
  | true =>
   rw [if_neg (by simp), Bool.true_and]
   by_cases h32 : b = 32
   ·subst h32
    rw [if_pos rfl]
    have e : Ua (w ++ 32 :: l) = if w = [] then Ua l else w :: Ua l := by
     rw [Ua, Uz l hw, List.filter_cons]
     cases w <;> rfl
    rw [e]
    by_cases h : w = []
    ·rw [if_pos h, if_pos h, h, Ly l out [] (by simp) (by simp) h8, List.nil_append]
    ·rw [if_neg h, if_neg h]
     by_cases h1 : out.length + 1 > 8
     ·rw [if_pos h1]
      have : decide (out.length + (w :: Ua l).length ≤ 8) = false := decide_eq_false (by simp only [List.length_cons]; omega)
      rw [this, Bool.false_and, Bool.and_false]; rfl
     ·rw [if_neg h1, Ly l (out ++ [mkB w]) [] (by simp) (by simp) (by simp only [List.length_append, List.length_cons, List.length_nil]; omega), List.nil_append]
      have e1 : (out ++ [mkB w]).length + (Ua l).length = out.length + (w :: Ua l).length := by simp only [List.length_append, List.length_cons, List.length_nil]; omega
      rw [e1, List.all_cons, decide_eq_true h24, Bool.true_and, List.map_cons, List.append_assoc]
      rfl
   ·rw [if_neg h32]
    have hw' : (32 : UInt8) ∉ w ++ [b] := fun hm => by
     rcases List.mem_append.1 hm with h1 | h1
     ·exact hw h1
     ·exact h32 (List.mem_singleton.1 h1).symm
    have e2 : w ++ b :: l = (w ++ [b]) ++ l := by rw [List.append_assoc]; rfl
    by_cases h1 : w.length + 1 > 24
    ·rw [if_pos h1]
     obtain ⟨p, ps, e⟩ := Np 32 l (w ++ [b]) hw'
     have e3 : (Ua (w ++ b :: l)).all (fun x => decide (x.length ≤ 24)) = false := by
      rw [e2, Ua, e, List.filter_cons]
      have hne : (!((w ++ [b]) ++ p).isEmpty) = true := by cases w <;> rfl
      rw [if_pos hne, List.all_cons, decide_eq_false (by simp only [List.length_append, List.length_cons, List.length_nil]; omega)]
      rfl
     rw [e3, Bool.and_false, Bool.and_false]; rfl
    ·rw [if_neg h1, Ly l out (w ++ [b]) hw' (by simp only [List.length_append, List.length_cons, List.length_nil]; omega) h8, e2]
theorem Uj {σ ρ : Type} {step : σ → Lp σ ρ} {s s' : σ} (m : Nat) (h : step s = .next s') : runL step (m + 1) s = runL step m s' := by
 rw [runL, h]
theorem Zg {σ ρ : Type} {step : σ → Lp σ ρ} {s s' : σ} (m : Nat) (h : step s = .done s') : runL step (m + 1) s = .done s' := by
 rw [runL, h]
theorem Ya {σ ρ : Type} {step : σ → Lp σ ρ} {s : σ} {r : ρ} (m : Nat) (h : step s = .ret r) : runL step (m + 1) s = .ret r := by
 rw [runL, h]
theorem Qpw {w : List UInt8} (hw : ¬ w = []) : decide ((w.length : Int) > 0) = true := by
 cases w with
 | nil => exact absurd rfl hw
 | cons a w => exact decide_eq_true (by simp only [List.length_cons]; omega)
theorem Qxh (line s : ByteArray) (hs : (cut3 line (⟨#[35]⟩ : ByteArray)).1 = s) (out : List ByteArray) (w : List UInt8) : Kv line (out, Wb w, (s.size : Int)) =
  if w = [] then .next (out, Wb [], (s.size : Int) + 1) else if out.length + 1 > 8 then .ret ([], false) else .next (out ++ [mkB w], Wb [], (s.size : Int) + 1) := by
 have h0 : decide ((s.size : Int) ≤ (s.size : Int)) = true := decide_eq_true (by omega)
 have h1 : decide ((s.size : Int) < (s.size : Int)) = false := decide_eq_false (by omega)
 simp only [Kv, hs, h0, h1, cond_true, cond_false, Nu, Mp, List.length_append, List.length_cons, List.length_nil]
 by_cases hw : w = []
 ·subst hw; rfl
 ·rw [Qpw hw, if_neg hw, cond_true]
  by_cases h8 : out.length + 1 > 8
  ·have : decide (((out.length + (0 + 1) : Nat) : Int) > 8) = true := decide_eq_true (by omega)
   rw [this, if_pos h8]; rfl
  ·have : decide (((out.length + (0 + 1) : Nat) : Int) > 8) = false := decide_eq_false (by omega)
   rw [this, if_neg h8]; rfl
theorem Qhv (line s : ByteArray) (hs : (cut3 line (⟨#[35]⟩ : ByteArray)).1 = s) (out : List ByteArray) (w : List Int) : Kv line (out, w, (s.size : Int) + 1) = .done (out, w, (s.size : Int) + 1) := by
 have h0 : decide ((s.size : Int) + 1 ≤ (s.size : Int)) = false := decide_eq_false (by omega)
 simp only [Kv, hs, h0, cond_false]
theorem Qzn (line s : ByteArray) (hs : (cut3 line (⟨#[35]⟩ : ByteArray)).1 = s) (out : List ByteArray) (w : List UInt8) (i : Nat) (hi : i < s.size) (b : UInt8) (hb : s.data.toList.getD i 0 = b) : Kv line (out, Wb w, (i : Int)) =
  if okB b = false then .ret ([], false) else if b = 32 then (if w = [] then .next (out, Wb [], (i : Int) + 1) else if out.length + 1 > 8 then .ret ([], false) else .next (out ++ [mkB w], Wb [], (i : Int) + 1))
  else if w.length + 1 > 24 then .ret ([], false) else .next (out, Wb (w ++ [b]), (i : Int) + 1) := by
 have h0 : decide ((i : Int) ≤ (s.size : Int)) = true := decide_eq_true (by omega)
 have h1 : decide ((i : Int) < (s.size : Int)) = true := decide_eq_true (by omega)
 simp only [Kv, hs, h0, h1, cond_true, Int.toNat_natCast, Zl, hb]
 have hok : (bif decide ((b.toNat : Int) < 32) then true else decide ((b.toNat : Int) > 126)) = !okB b := by
  unfold okB
  by_cases h3 : (b.toNat : Int) < 32
  ·rw [decide_eq_true h3, cond_true, decide_eq_false (by omega)]; rfl
  ·rw [decide_eq_false h3, cond_false]
   by_cases h4 : (b.toNat : Int) > 126
   ·rw [decide_eq_true h4, decide_eq_false (by omega)]; rfl
   ·rw [decide_eq_false h4, decide_eq_true (by omega)]; rfl
 rw [hok]
 cases okB b with
 | false => rfl
 | true =>
  have h32 := Qph b 32
  have h33 : ((32 : UInt8).toNat : Int) = 32 := rfl
  rw [h33] at h32
  have h34 : ((b.toNat : Int) != 32) = !decide (b = 32) := by rw [bne, h32]
  rw [h34]
  simp only [Bool.not_true, cond_false, Bool.true_eq_false, if_false]
  by_cases hc : b = 32
  ·rw [decide_eq_true hc, if_pos hc]
   simp only [Bool.not_true, cond_false, Nu, Mp, List.length_append, List.length_cons, List.length_nil]
   by_cases hw : w = []
   ·subst hw; rfl
   ·rw [Qpw hw, if_neg hw, cond_true]
    by_cases h8 : out.length + 1 > 8
    ·have : decide (((out.length + (0 + 1) : Nat) : Int) > 8) = true := decide_eq_true (by omega)
     rw [this, if_pos h8]; rfl
    ·have : decide (((out.length + (0 + 1) : Nat) : Int) > 8) = false := decide_eq_false (by omega)
     rw [this, if_neg h8]; rfl
  ·rw [decide_eq_false hc, if_neg hc]
   simp only [Bool.not_false, cond_true, Mp, List.length_append, List.length_cons, List.length_nil]
   by_cases h24 : w.length + 1 > 24
   ·have : decide (((w.length + (0 + 1) : Nat) : Int) > 24) = true := decide_eq_true (by omega)
    rw [this, if_pos h24]; rfl
   ·have : decide (((w.length + (0 + 1) : Nat) : Int) > 24) = false := decide_eq_false (by omega)
    rw [this, if_neg h24, cond_false]
    have e : Wb (w ++ [b]) = Wb w ++ [(b.toNat : Int)] := by simp [Wb]
    rw [e]
theorem Bv (line s : ByteArray) (hs : (cut3 line (⟨#[35]⟩ : ByteArray)).1 = s) : ∀ (m i : Nat) (out : List ByteArray) (w : List UInt8), i + m = s.size → ∀ fuel, m + 1 < fuel →
  (runL (Kv line) fuel (out, Wb w, (i : Int))).fin (fun r => r) (fun (out, word, i40) => (out, true)) = Lu (s.data.toList.drop i) out w
 | m, i, out, w, _, 0, hf => absurd hf (Nat.not_lt_zero _)
 | 0, i, out, w, h, fuel + 1, hf => by
  have hl : s.data.toList.length = s.size := Array.length_toList
  obtain rfl : i = s.size := by omega
  obtain ⟨fuel, rfl⟩ : ∃ f, fuel = f + 1 := ⟨fuel - 1, by omega⟩
  rw [List.drop_of_length_le (by omega), Lu]
  have h1 := Qxh line s hs out w
  by_cases hw : w = []
  ·rw [if_pos hw] at h1 ⊢
   rw [Uj _ h1, Zg _ (Qhv line s hs _ _)]; rfl
  ·rw [if_neg hw] at h1 ⊢
   by_cases h8 : out.length + 1 > 8
   ·rw [if_pos h8] at h1 ⊢
    rw [Ya _ h1]; rfl
   ·rw [if_neg h8] at h1 ⊢
    rw [Uj _ h1, Zg _ (Qhv line s hs _ _)]; rfl
 | m + 1, i, out, w, h, fuel + 1, hf => by
  have hl : s.data.toList.length = s.size := Array.length_toList
  have hb : s.data.toList.drop i = s.data.toList.getD i 0 :: s.data.toList.drop (i + 1) := by
   rw [List.drop_eq_getElem_cons (by omega), List.getD_eq_getElem?_getD, List.getElem?_eq_getElem (by omega)]; rfl
  rw [hb, Lu]
  have h1 := Qzn line s hs out w i (by omega) _ rfl
  generalize s.data.toList.getD i 0 = b at h1 ⊢
  have ei : ((i : Int) + 1) = ((i + 1 : Nat) : Int) := rfl
  rw [ei] at h1
  by_cases hok : okB b = false
  ·rw [if_pos hok] at h1 ⊢
   rw [Ya _ h1]; rfl
  ·rw [if_neg hok] at h1 ⊢
   by_cases hc : b = 32
   ·rw [if_pos hc] at h1 ⊢
    by_cases hw : w = []
    ·rw [if_pos hw] at h1 ⊢
     rw [Uj _ h1, hw]
     exact Bv line s hs m (i + 1) out [] (by omega) fuel (by omega)
    ·rw [if_neg hw] at h1 ⊢
     by_cases h8 : out.length + 1 > 8
     ·rw [if_pos h8] at h1 ⊢
      rw [Ya _ h1]; rfl
     ·rw [if_neg h8] at h1 ⊢
      rw [Uj _ h1]
      exact Bv line s hs m (i + 1) (out ++ [mkB w]) [] (by omega) fuel (by omega)
   ·rw [if_neg hc] at h1 ⊢
    by_cases h24 : w.length + 1 > 24
    ·rw [if_pos h24] at h1 ⊢
     rw [Ya _ h1]; rfl
    ·rw [if_neg h24] at h1 ⊢
     rw [Uj _ h1]
     exact Bv line s hs m (i + 1) out (w ++ [b]) (by omega) fuel (by omega)
theorem Qat (line : ByteArray) : F20 line = Ja (cut3 line (⟨#[35]⟩ : ByteArray)).1.data.toList := by
 unfold F20
 have := Bv line _ rfl (cut3 line (⟨#[35]⟩ : ByteArray)).1.size 0 [] [] (by omega) (Int.toNat (((cut3 line (⟨#[35]⟩ : ByteArray)).1.size : Int) - 0 + 1) + 1) (by omega)
 rw [List.drop_zero, Ly _ _ _ (by simp) (by simp) (by simp), List.nil_append, List.nil_append, List.length_nil, Nat.zero_add] at this
 exact this
theorem Qgj (b : UInt8) : IntKind.i64.wrap ((b.toNat : Int)) = (b.toNat : Int) := by
 have h := b.toNat_lt
 exact Yu (by omega) (by omega)
theorem Qcz (line s : ByteArray) (hs : (cut3 line (⟨#[35]⟩ : ByteArray)).1 = s) {τ : Type} (f : List ByteArray × Bool → τ) (g : Int → τ) (y : τ) (hg : ∀ i, g i = y) : ∀ (m i : Nat), i + m = s.size → ∀ fuel, m < fuel →
  (runL (Jo line) fuel (i : Int)).fin f g = bif (s.data.toList.drop i).all okB then y else f ([], false)
 | m, i, _, 0, hf => absurd hf (Nat.not_lt_zero _)
 | 0, i, h, fuel + 1, hf => by
  have hl : s.data.toList.length = s.size := Array.length_toList
  have h1 : decide ((i : Int) < (s.size : Int)) = false := decide_eq_false (by omega)
  have hst : Jo line (i : Int) = .done (i : Int) := by
   simp only [Jo, F33, hs, h1, cond_false]
  rw [List.drop_of_length_le (by omega), Zg _ hst]
  exact hg _
 | m + 1, i, h, fuel + 1, hf => by
  have hl : s.data.toList.length = s.size := Array.length_toList
  have h1 : decide ((i : Int) < (s.size : Int)) = true := decide_eq_true (by omega)
  have hb : s.data.toList.drop i = s.data.toList.getD i 0 :: s.data.toList.drop (i + 1) := by
   rw [List.drop_eq_getElem_cons (by omega), List.getD_eq_getElem?_getD, List.getElem?_eq_getElem (by omega)]; rfl
  have hst : Jo line (i : Int) = if okB (s.data.toList.getD i 0) = false then .ret ([], false) else .next ((i + 1 : Nat) : Int) := by
   simp only [Jo, F33, hs, h1, cond_true, Int.toNat_natCast, Zl, Qgj]
   generalize s.data.toList.getD i 0 = b
   have e : decide ((32 : Int) ≤ (b.toNat : Int) ∧ (b.toNat : Int) ≤ 126) = okB b := by
    unfold okB
    congr 1
    exact propext ⟨fun h => by omega, fun h => by omega⟩
   rw [e]
   cases okB b <;> rfl
  rw [hb, List.all_cons]
  generalize s.data.toList.getD i 0 = b at hst ⊢
  by_cases hok : okB b = false
  ·rw [if_pos hok] at hst
   rw [Ya _ hst, hok]; rfl
  ·rw [if_neg hok] at hst
   rw [Uj _ hst, Qcz line s hs f g y hg m (i + 1) (by omega) fuel (by omega)]
   cases ho : okB b with
   | false => exact absurd ho hok
   | true => rw [Bool.true_and]
theorem isE (x : ByteArray) : (x.toList == (⟨#[]⟩ : ByteArray).toList) = x.data.toList.isEmpty := by
 rw [Qu, Qu]
 cases x.data.toList <;> rfl
theorem Qft (s : ByteArray) : (Qq s (⟨#[32]⟩ : ByteArray)).filter (fun x => !(x.toList == (⟨#[]⟩ : ByteArray).toList)) = (Ua s.data.toList).map mkB := by
 rw [Ua, ← Eu, List.filter_map, List.map_map]
 have e : (fun x : ByteArray => !(x.toList == (⟨#[]⟩ : ByteArray).toList)) = ((fun w : List UInt8 => !w.isEmpty) ∘ fun x : ByteArray => x.data.toList) := by
  funext x
  rw [isE]; rfl
 rw [e]
 exact ((List.map_congr_left fun x _ => En x).trans (List.map_id _)).symm
theorem Qid : ∀ ws : List (List UInt8), ws.any ((fun x : ByteArray => decide ((x.size : Int) > 24)) ∘ mkB) = !ws.all fun w => decide (w.length ≤ 24)
 | [] => rfl
 | w :: ws => by
  rw [List.any_cons, List.all_cons, Qid ws, Bool.not_and]
  congr 1
  have : (mkB w).size = w.length := rfl
  show decide (((mkB w).size : Int) > 24) = _
  rw [this]
  by_cases h : w.length ≤ 24
  ·rw [decide_eq_true h, decide_eq_false (by omega)]; rfl
  ·rw [decide_eq_false h, decide_eq_true (by omega)]; rfl
theorem Gr (line : ByteArray) : F14 line = Ja (cut3 line (⟨#[35]⟩ : ByteArray)).1.data.toList := by
 generalize hs : (cut3 line (⟨#[35]⟩ : ByteArray)).1 = s
 unfold F14
 have h1 := Qcz line s hs (fun r => r) (fun _ => bif (bif decide ((((Ua s.data.toList).map mkB).length : Int) > 8) then true else ((Ua s.data.toList).map mkB).any fun x => decide ((x.size : Int) > 24)) then (([] : List ByteArray), false) else ((Ua s.data.toList).map mkB, true)) _ (fun _ => rfl) s.size 0 (by omega) (Int.toNat ((s.size : Int) - 0) + 1) (by omega)
 have hf : (Qq s (⟨#[32]⟩ : ByteArray)).filter (fun x => !F36 x) = (Ua s.data.toList).map mkB := Qft s
 simp only [F33, F13, hs, hf]
 refine h1.trans ?_
 rw [List.drop_zero, Ja, fitW, List.length_map, List.any_map]
 have e1 : decide (((Ua s.data.toList).length : Int) > 8) = !decide ((Ua s.data.toList).length ≤ 8) := by
  by_cases h : (Ua s.data.toList).length ≤ 8
  ·rw [decide_eq_true h, decide_eq_false (by omega)]; rfl
  ·rw [decide_eq_false h, decide_eq_true (by omega)]; rfl
 rw [e1, Qid]
 cases (s.data.toList.all okB) <;> cases decide ((Ua s.data.toList).length ≤ 8) <;> cases ((Ua s.data.toList).all fun w => decide (w.length ≤ 24)) <;> rfl
theorem Ww (line : ByteArray) : F14 line = F20 line := (Gr line).trans (Qat line).symm
theorem Qiq (l : List UInt8) : (Ja l).1.length ≤ 8 := by
 unfold Ja fitW
 by_cases h : (Ua l).length ≤ 8
 ·cases l.all okB <;> cases ((Ua l).all fun w => decide (w.length ≤ 24)) <;> simp [h]
 ·rw [decide_eq_false h, Bool.false_and, Bool.and_false]
  exact Nat.zero_le _
theorem Me (line : ByteArray) : (F14 line).1.length ≤ 8 := by
 rw [Gr]; exact Qiq _
def Kk (s : ByteArray) (at' : Int) : (List ByteArray × Int × Int) → Lp (List ByteArray × Int × Int) (List ByteArray) := fun (out1, from'1, i40) =>
 bif (decide (i40 < (s.size : Int))) then (bif (((s.data.getD (Int.toNat i40) 0).toNat : Int) == (at' % 256)) then (.next ((out1 ++ [(s.extract (Int.toNat from'1) (Int.toNat i40))]), (i40 + 1), (i40 + 1))) else (.next (out1, from'1, (i40 + 1)))) else (.done (out1, from'1, i40))
def Qbs (s : ByteArray) (at' : Int) : Lp (List ByteArray × Int) (List ByteArray) :=
 (runL (Kk s at') ((Int.toNat ((s.size : Int) - 0)) + 1) (([] : List ByteArray), 0, 0)).fin Lp.ret (fun (out1, from'1, i40) => .done (out1, from'1))
def F19 (s : ByteArray) (at' : Int) : List ByteArray :=
 (Qbs s at').fin (fun r => r) (fun (out, from') => (out ++ [(s.extract (Int.toNat from') (Int.toNat (s.size : Int)))]))
abbrev Qaw (s : ByteArray) : Nat × (List ByteArray × Int × Int) := (((Int.toNat ((s.size : Int) - 0)) + 1), (([] : List ByteArray), 0, 0))
abbrev Qll (s : ByteArray) (m39 : Nat) (out1 : List ByteArray) (from'1 : Int) (i40 : Int) : Prop := Int.toNat ((s.size : Int) - i40) < m39 ∧ (0 : Int) ≤ from'1 ∧ (from'1 : Int) ≤ i40 ∧ (out1.length : Int) ≤ i40 ∧ i40 ≤ (s.size : Int) ∧ (0 : Int) ≤ from'1 ∧ (0 : Int) ≤ i40
abbrev Qzk (s : ByteArray) (at' : Int) : Lp (List ByteArray × Int × Int) (List ByteArray) := LpX (Kk s at') (Qaw s)
abbrev Qcd (s : ByteArray) (at' : Int) (i : Nat × (List ByteArray × Int × Int)) : Prop := LpJ (Kk s at') (Qaw s) i (Qll s i.1 i.2.1 i.2.2.1 i.2.2.2)
abbrev Qvy (s : ByteArray) (at' : Int) (i : Nat × (List ByteArray × Int × Int)) (m39 : Nat) (out1 : List ByteArray) (from'1 : Int) (i40 : Int) : Prop := LpH (Kk s at') (Qaw s) i m39 (out1, from'1, i40) (Qll s (m39 + 1) out1 from'1 i40)
abbrev Qye (s : ByteArray) (at' : Int) (out1 : List ByteArray) (from'1 : Int) (i40 : Int) (out1_ : List ByteArray) (from'1_ : Int) (i40_ : Int) (K39 : Prop) : Prop := (Rf (.string s)) ∧ (Rf (.int .u8 (at' % 256))) ∧ ((.int .i64 from'1 : Value) = .int .i64 from'1_) ∧ ((.int .i64 i40 : Value) = .int .i64 i40_) ∧ (Imp (.l 1 eStr out1) (.l 1 eStr out1_)) ∧ K39
theorem un19_0 (s : ByteArray) (at' : Int) (i : Nat × (List ByteArray × Int × Int)) (h : Qcd s at' i) : Qvy s at' i (i.1 - 1) i.2.1 i.2.2.1 i.2.2.2 := ⟨hd1 h.1 h.2.1, hd3 h.2.1, hd2 h.2.1, h.2.2⟩
theorem Qse (s : ByteArray) (at' : Int) (i : Nat × (List ByteArray × Int × Int)) (m39 : Nat) (out1 : List ByteArray) (from'1 : Int) (i40 : Int) (hl : m39 < i.1) (e : runL (Kk s at') m39 (out1, from'1, i40) = Qzk s at') (h : Qll s m39 out1 from'1 i40) : ∃ j : Nat × (List ByteArray × Int × Int), Qye s at' out1 from'1 i40 j.2.1 j.2.2.1 j.2.2.2 (Qcd s at' j ∧ j.1 < i.1) := ⟨(m39, (out1, from'1, i40)), rfl, rfl, rfl, rfl, Imp.refl _, ⟨e, h⟩, hl⟩
theorem en19_0 (s : ByteArray) (at' : Int) (h : (0 : Int) ≤ 0 ∧ (0 : Int) ≤ 0 ∧ (([] : List ByteArray).length : Int) ≤ 0 ∧ 0 ≤ (s.size : Int) ∧ (0 : Int) ≤ 0 ∧ (0 : Int) ≤ 0) : Qye s at' ([] : List ByteArray) 0 0 ([] : List ByteArray) 0 0 (Qcd s at' (Qaw s)) := ⟨rfl, rfl, rfl, rfl, Imp.refl _, rfl, Nat.lt_succ_self _, h⟩
abbrev Qmg (s : ByteArray) (at' : Int) (out : List ByteArray) (from' : Int) : Prop := (0 : Int) ≤ from' ∧ from' ≤ (s.size : Int) ∧ (out.length : Int) ≤ (s.size : Int)
abbrev Qld (s : ByteArray) (at' : Int) (j : List ByteArray × Int) : Prop := (Qbs s at') = Lp.done j ∧ Qmg s at' j.1 j.2
theorem jn19_0 (s : ByteArray) (at' : Int) (out : List ByteArray) (from' : Int) (e : (Qbs s at') = Lp.done (out, from')) (h : Qmg s at' out from') : ∃ j : List ByteArray × Int, ((.string s : Value) = .string s) ∧ ((.int .i64 from' : Value) = .int .i64 j.2) ∧ (Imp (.l 1 eStr out) (.l 1 eStr j.1)) ∧ Qld s at' j := ⟨(out, from'), rfl, rfl, Imp.refl _, e, h⟩
theorem fi19 (s : ByteArray) (at' : Int) (r : List ByteArray) (hF : r = (F19 s at')) : (Imp (.l 1 eStr r) (.l 1 eStr (F19 s at'))) ∧ True := by cases hF; exact ⟨Imp.refl _, trivial⟩
def S19 (s : ByteArray) (at' : Int) : Spec := ⟨[.r (.c (.v (.string s))), .r (.c (.v (.int .u8 (at' % 256))))], .ow (.l 1 eStr (F19 s at')), s.size ≤ 1048576⟩
theorem ok19 (s : ByteArray) (at' : Int) : (S19 s at').ok Tryz.prog 19 :=
 Qj mixed (fn := Tryz.f19) (ct := .seq .no (.seq (.reg [(0, .dat (.l 1 eStr ([] : List ByteArray)))]) (.seq .no (.cut (ι := List ByteArray × Int) (fun j => (fun (out : List ByteArray) (from' : Int) => (⟨[(0, some (.v (.string s))), (5, some (.h 0 0)), (6, some (.v (vI from')))], [(0, some (.own 0 (.l 1 eStr out)))], 1⟩ : St)) j.1 j.2) (Qld s at') (.seqk [(5, 0)] .no (.blk (.loop (ι := Nat × (List ByteArray × Int × Int)) (fun i => (fun (out1 : List ByteArray) (from'1 : Int) (i40 : Int) => (⟨[(0, some (.v (.string s))), (1, some (.v (.int .u8 (at' % 256)))), (5, some (.h 0 0)), (6, some (.v (vI from'1))), (7, some (.v (vI i40)))], [(0, some (.own 0 (.l 1 eStr out1)))], 1⟩ : St)) i.2.1 i.2.2.1 i.2.2.2) (Qcd s at') (fun i => i.1) (Qaw s) (fun i => (fun (out1 : List ByteArray) (from'1 : Int) (i40 : Int) => (.seq (.seq .no (.cond .no .no)) (.seq (.blk (.seq .no (.cond (.seq (.reg [(6, .dat (.l 1 eStr (out1 ++ [(s.extract (Int.toNat from'1) (Int.toNat i40))])))]) (.reg [(1, .bnd)])) .no))) (.reg [(1, .bnd)])))) i.2.1 i.2.2.1 i.2.2.2)))) (fun j => (fun (out : List ByteArray) (from' : Int) => (.seq (.reg [(5, .dat (.l 1 eStr (out ++ [(s.extract (Int.toNat from') (Int.toNat (s.size : Int)))])))]) .no)) j.1 j.2))))) Tryz.func19 (fun (hpre0 : s.size ≤ 1048576) => ai (bokr 1 eStr ([] : List ByteArray) fun _ => rfl) (ai (kn ([] : List ByteArray) fun _ => ai (en19_0 s at' (by refine ⟨?_, ?_, ?_, ?_, ?_, ?_⟩ <;> first | omega | (simp only [lens, ib] at * <;> omega))) (fun (i0 : Nat × (List ByteArray × Int × Int)) (hi0 : Qcd s at' i0) => (fun (m0 : Nat) (out1 : List ByteArray) (from'1 : Int) (i40 : Int) (hh0 : Qvy s at' i0 m0 out1 from'1 i40) => have hI0 := hh0.1; have hl0 := hh0.2.1; have _ := hh0.2.2.1; have _ := hh0.2.2.2; ifd (i40 < (s.size : Int)) (fun h2 _ => ai (by first | omega | (simp only [lens, ib] at * <;> omega) : 0 ≤ i40 ∧ i40 < (s.size : Int)) (ife ((s.data.getD (Int.toNat i40) 0).toNat : Int) (at' % 256) (fun h3 _ => ai (by first | omega | (simp only [lens, ib] at * <;> omega) : 0 ≤ from'1 ∧ from'1 ≤ i40 ∧ i40 ≤ (s.size : Int)) (ai (appr 1 eStr out1 [(s.extract (Int.toNat from'1) (Int.toNat i40))] fun _ => rfl) (ai (by (try simp only [lens]); omega : (out1 ++ [(s.extract (Int.toNat from'1) (Int.toNat i40))]).length * 16 ≤ 140737488355328) (ai (iok (i40 + 1) (by first | omega | (simp only [lens, ib] at * <;> omega))) (ai (iok (i40 + 1) (by first | omega | (simp only [lens, ib] at * <;> omega))) (Qse s at' i0 m0 (out1 ++ [(s.extract (Int.toNat from'1) (Int.toNat i40))]) (i40 + 1) (i40 + 1) hl0 (Qd hI0 (condT h2 (condT h3 rfl))) (by refine ⟨?_, ?_, ?_, ?_, ?_, ?_, ?_⟩ <;> first | omega | (simp only [lens, ib] at * <;> omega)))))))) (fun h3 _ => ai (iok (i40 + 1) (by first | omega | (simp only [lens, ib] at * <;> omega))) (Qse s at' i0 m0 out1 from'1 (i40 + 1) hl0 (Qd hI0 (condT h2 (condF h3 rfl))) (by refine ⟨?_, ?_, ?_, ?_, ?_, ?_, ?_⟩ <;> first | omega | (simp only [lens, ib] at * <;> omega)))))) (fun h2 _ => have hD0_4 : Qzk s at' = Lp.done (out1, from'1, i40) := Qk hI0 (condF h2 rfl); jn19_0 s at' out1 from'1 (Eq.symm (finD hD0_4 rfl)) (by refine ⟨?_, ?_, ?_⟩ <;> first | omega | (simp only [lens, ib] at * <;> omega)))) (i0.1 - 1) i0.2.1 i0.2.2.1 i0.2.2.2 (un19_0 s at' i0 hi0))) (fun (j : List ByteArray × Int) (hj : Qld s at' j) => (fun (out : List ByteArray) (from' : Int) (hJ0_5 : (Qbs s at') = Lp.done (out, from')) (hw : Qmg s at' out from') => have _ := hw.1; have _ := hw.2.1; have _ := hw.2.2; ai (by first | omega | (simp only [lens, ib] at * <;> omega) : 0 ≤ from' ∧ from' ≤ (s.size : Int) ∧ (s.size : Int) ≤ (s.size : Int)) (ai (appr 1 eStr out [(s.extract (Int.toNat from') (Int.toNat (s.size : Int)))] fun _ => rfl) (ai (by (try simp only [lens]); omega : (out ++ [(s.extract (Int.toNat from') (Int.toNat (s.size : Int)))]).length * 16 ≤ 140737488355328) (fi19 s at' (out ++ [(s.extract (Int.toNat from') (Int.toNat (s.size : Int)))]) (finD hJ0_5 rfl))))) j.1 j.2 hj.1 hj.2))) (by kernel_rfl)
def F103 (n : Int) (low : Int) (high : Int) : Bool :=
 (bif decide (n ≥ low) then decide (n ≤ high) else false)
def S103 (R : Bool) (n : Int) (low : Int) (high : Int) : Spec := ⟨[.r (.c (.v (vI n))), .r (.c (.v (vI low))), .r (.c (.v (vI high)))], .v (.bool R), True⟩
theorem ok103 (n : Int) (low : Int) (high : Int) : (S103 (F103 n low high) n low high).ok Tryz.prog 103 :=
 Qj mixed (fn := Tryz.f103) (ct := .seq .no (.seq .no .no)) Tryz.func103 (fun (_ : True) => fiB (bif decide (n ≥ low) then decide (n ≤ high) else false) (F103 n low high) rfl) (by kernel_rfl)
theorem as103 (n : Int) (low : Int) (high : Int) : F103 n low high = (decide (low ≤ n ∧ n ≤ high)) := by
 simp only [F103, Bool.decide_and, bandd]
theorem oa103 (n : Int) (low : Int) (high : Int) : (S103 (decide (low ≤ n ∧ n ≤ high)) n low high).ok Tryz.prog 103 := by
 intro hp; have h := ok103 n low high hp; rw [as103 n low high] at h; exact h
theorem Py (n : Int) (low : Int) (high : Int) {K_ : Prop} (k_ : K_) : (True) ∧ (Imp (.v (vI n)) (.v (vI n))) ∧ (Imp (.v (vI low)) (.v (vI low))) ∧ (Imp (.v (vI high)) (.v (vI high))) ∧ K_ := ⟨trivial, Imp.refl _, Imp.refl _, Imp.refl _, k_⟩
abbrev Nk (n : Int) (low : Int) (high : Int) : Hint true Tryz.prog := .call 103 (S103 (decide (low ≤ n ∧ n ≤ high)) n low high) (oa103 n low high) none
theorem kg103a {K_ : Prop} (c_ b_ : Bool) (n : Int) (low : Int) (high : Int) (k_ : K_) : (c_ = b_ → True) ∧ (c_ = b_ → Imp (.v (vI n)) (.v (vI n))) ∧ (c_ = b_ → Imp (.v (vI low)) (.v (vI low))) ∧ (c_ = b_ → Imp (.v (vI high)) (.v (vI high))) ∧ K_ := ⟨fun _ => trivial, fun _ => Imp.refl _, fun _ => Imp.refl _, fun _ => Imp.refl _, k_⟩
def Xt (s : ByteArray) : Int → Lp Int Bool := fun i40 =>
 bif (decide (i40 < (s.size : Int))) then (bif (bif (bif (!(decide (97 ≤ (IntKind.i64.wrap ((s.data.getD (Int.toNat i40) 0).toNat : Int)) ∧ (IntKind.i64.wrap ((s.data.getD (Int.toNat i40) 0).toNat : Int)) ≤ 122))) then (!(decide (48 ≤ (IntKind.i64.wrap ((s.data.getD (Int.toNat i40) 0).toNat : Int)) ∧ (IntKind.i64.wrap ((s.data.getD (Int.toNat i40) 0).toNat : Int)) ≤ 57))) else false) then (((s.data.getD (Int.toNat i40) 0).toNat : Int) != 45) else false) then (.ret false) else (.next (i40 + 1))) else (.done i40)
def F98 (s : ByteArray) : Bool :=
 bif (!(decide (1 ≤ (s.size : Int) ∧ (s.size : Int) ≤ 8))) then false else ((runL (Xt s) ((Int.toNat ((s.size : Int) - 0)) + 1) 0).fin (fun r => r) (fun i40 => true))
abbrev Tg (s : ByteArray) : Nat × Int := (((Int.toNat ((s.size : Int) - 0)) + 1), 0)
abbrev Qmp (s : ByteArray) (m39 : Nat) (i40 : Int) : Prop := Int.toNat ((s.size : Int) - i40) < m39 ∧ (0 : Int) ≤ i40
abbrev Uaj (s : ByteArray) : Lp Int Bool := LpX (Xt s) (Tg s)
abbrev Qbz (s : ByteArray) (i : Nat × Int) : Prop := LpJ (Xt s) (Tg s) i (Qmp s i.1 i.2)
abbrev Qve (s : ByteArray) (i : Nat × Int) (m39 : Nat) (i40 : Int) : Prop := LpH (Xt s) (Tg s) i m39 i40 (Qmp s (m39 + 1) i40)
abbrev Qyr (s : ByteArray) (i40 : Int) (i40_ : Int) (K39 : Prop) : Prop := (Rf (.string s)) ∧ ((.int .i64 i40 : Value) = .int .i64 i40_) ∧ K39
theorem un98_0 (s : ByteArray) (i : Nat × Int) (h : Qbz s i) : Qve s i (i.1 - 1) i.2 := ⟨hd1 h.1 h.2.1, hd3 h.2.1, hd2 h.2.1, h.2.2⟩
theorem bk98_0 (s : ByteArray) (i : Nat × Int) (m39 : Nat) (i40 : Int) (hl : m39 < i.1) (e : runL (Xt s) m39 i40 = Uaj s) (h : Qmp s m39 i40) : ∃ j : Nat × Int, Qyr s i40 j.2 (Qbz s j ∧ j.1 < i.1) := ⟨(m39, i40), rfl, rfl, ⟨e, h⟩, hl⟩
theorem en98_0 (s : ByteArray) (h : (0 : Int) ≤ 0) : Qyr s 0 0 (Qbz s (Tg s)) := ⟨rfl, rfl, rfl, Nat.lt_succ_self _, h⟩
def S98 (s : ByteArray) : Spec := ⟨[.r (.c (.v (.string s)))], .v (.bool (F98 s)), s.size ≤ 1048576⟩
theorem ok98 (s : ByteArray) : (S98 s).ok Tryz.prog 98 :=
 Qj mixed (fn := Tryz.f98) (ct := .seq .no (.seq (.seq (.reg [(2, Nk (s.size : Int) 1 8)]) (.cond (.seq .no .no) .no)) (.seq (.seq .no (.blk (.loop (ι := Nat × Int) (fun i => (fun (i40 : Int) => (⟨[(0, some (.v (.string s))), (3, some (.v (vI i40)))], [], 0⟩ : St)) i.2) (Qbz s) (fun i => i.1) (Tg s) (fun i => (fun (i40 : Int) => (.seq (.seq .no (.cond .no .no)) (.seq (.blk (.seq (.reg [(4, Nk (IntKind.i64.wrap ((s.data.getD (Int.toNat i40) 0).toNat : Int)) 97 122), (11, Nk (IntKind.i64.wrap ((s.data.getD (Int.toNat i40) 0).toNat : Int)) 48 57)]) (.cond (.seq .no .no) .no))) (.reg [(1, .bnd)])))) i.2)))) (.seq .no .no)))) Tryz.func98 (fun (hpre0 : s.size ≤ 1048576) => Py (s.size : Int) 1 8 (ifb (!(decide (1 ≤ (s.size : Int) ∧ (s.size : Int) ≤ 8))) (fun h1 => have _ := of_decide_eq_false (Wo h1); fiB false (F98 s) (condT h1 rfl)) (fun h1 => have _ := of_decide_eq_true (Uw h1); ai (en98_0 s (by omega)) (fun (i0 : Nat × Int) (hi0 : Qbz s i0) => (fun (m0 : Nat) (i40 : Int) (hh0 : Qve s i0 m0 i40) => have hI0 := hh0.1; have hl0 := hh0.2.1; have _ := hh0.2.2.1; have _ := hh0.2.2.2; ifd (i40 < (s.size : Int)) (fun h3 _ => ai (by omega : 0 ≤ i40 ∧ i40 < (s.size : Int)) (Py (IntKind.i64.wrap ((s.data.getD (Int.toNat i40) 0).toNat : Int)) 97 122 (ai (fun k4 : (!(decide (97 ≤ (IntKind.i64.wrap ((s.data.getD (Int.toNat i40) 0).toNat : Int)) ∧ (IntKind.i64.wrap ((s.data.getD (Int.toNat i40) 0).toNat : Int)) ≤ 122))) = true => have _ := of_decide_eq_false (Wo k4); (by omega : 0 ≤ i40 ∧ i40 < (s.size : Int))) (kg103a (!(decide (97 ≤ (IntKind.i64.wrap ((s.data.getD (Int.toNat i40) 0).toNat : Int)) ∧ (IntKind.i64.wrap ((s.data.getD (Int.toNat i40) 0).toNat : Int)) ≤ 122))) true (IntKind.i64.wrap ((s.data.getD (Int.toNat i40) 0).toNat : Int)) 48 57 (ai (fun k6 : (bif (!(decide (97 ≤ (IntKind.i64.wrap ((s.data.getD (Int.toNat i40) 0).toNat : Int)) ∧ (IntKind.i64.wrap ((s.data.getD (Int.toNat i40) 0).toNat : Int)) ≤ 122))) then (!(decide (48 ≤ (IntKind.i64.wrap ((s.data.getD (Int.toNat i40) 0).toNat : Int)) ∧ (IntKind.i64.wrap ((s.data.getD (Int.toNat i40) 0).toNat : Int)) ≤ 57))) else false) = true => have _ := of_decide_eq_false (Wo (Qi k6)); have _ := of_decide_eq_false (Wo (Qt k6)); (by omega : 0 ≤ i40 ∧ i40 < (s.size : Int))) (ifb (bif (bif (!(decide (97 ≤ (IntKind.i64.wrap ((s.data.getD (Int.toNat i40) 0).toNat : Int)) ∧ (IntKind.i64.wrap ((s.data.getD (Int.toNat i40) 0).toNat : Int)) ≤ 122))) then (!(decide (48 ≤ (IntKind.i64.wrap ((s.data.getD (Int.toNat i40) 0).toNat : Int)) ∧ (IntKind.i64.wrap ((s.data.getD (Int.toNat i40) 0).toNat : Int)) ≤ 57))) else false) then (((s.data.getD (Int.toNat i40) 0).toNat : Int) != 45) else false) (fun h7 => have _ := of_decide_eq_false (Wo (Qi (Qi h7))); have _ := of_decide_eq_false (Wo (Qt (Qi h7))); have _ := bneT (Qt h7); fiB false (F98 s) (condF h1 (finR (Qr hI0 (condT h3 (condT h7 rfl))) rfl))) (fun h7 => ai (iok (i40 + 1) (by omega)) (bk98_0 s i0 m0 (i40 + 1) hl0 (Qd hI0 (condT h3 (condF h7 rfl))) (by refine ⟨?_, ?_⟩ <;> omega))))))))) (fun h3 _ => have hD0_8 : Uaj s = Lp.done i40 := Qk hI0 (condF h3 rfl); fiB true (F98 s) (condF h1 (finD hD0_8 rfl)))) (i0.1 - 1) i0.2 (un98_0 s i0 hi0))))) (by kernel_rfl)
def Ji (s : ByteArray) : (Int × Int) → Lp (Int × Int) Int := fun (n, i40) =>
 bif (decide (i40 < (s.size : Int))) then (bif (!(decide (48 ≤ (IntKind.i64.wrap ((s.data.getD (Int.toNat i40) 0).toNat : Int)) ∧ (IntKind.i64.wrap ((s.data.getD (Int.toNat i40) 0).toNat : Int)) ≤ 57))) then (.ret (-1)) else (.next ((IntKind.i64.wrap ((IntKind.i64.wrap (n * 10)) + (IntKind.i64.wrap (IntKind.u8.wrap (((s.data.getD (Int.toNat i40) 0).toNat : Int) - 48))))), (i40 + 1)))) else (.done (n, i40))
def F63 (s : ByteArray) : Int :=
 bif (bif (!(decide (1 ≤ (s.size : Int) ∧ (s.size : Int) ≤ 6))) then true else (bif decide ((s.size : Int) > 1) then (((s.data.getD (Int.toNat 0) 0).toNat : Int) == 48) else false)) then (-1) else ((runL (Ji s) ((Int.toNat ((s.size : Int) - 0)) + 1) (0, 0)).fin (fun r => r) (fun (n, i40) => n))
abbrev Ri (s : ByteArray) : Nat × (Int × Int) := (((Int.toNat ((s.size : Int) - 0)) + 1), (0, 0))
abbrev Qkq (s : ByteArray) (m39 : Nat) (n : Int) (i40 : Int) : Prop := Int.toNat ((s.size : Int) - i40) < m39 ∧ (0 : Int) ≤ i40
abbrev Qvm (s : ByteArray) : Lp (Int × Int) Int := LpX (Ji s) (Ri s)
abbrev Es (s : ByteArray) (i : Nat × (Int × Int)) : Prop := LpJ (Ji s) (Ri s) i (Qkq s i.1 i.2.1 i.2.2)
abbrev Qwk (s : ByteArray) (i : Nat × (Int × Int)) (m39 : Nat) (n : Int) (i40 : Int) : Prop := LpH (Ji s) (Ri s) i m39 (n, i40) (Qkq s (m39 + 1) n i40)
abbrev Qwq (s : ByteArray) (n : Int) (i40 : Int) (n_ : Int) (i40_ : Int) (K39 : Prop) : Prop := (Rf (.string s)) ∧ ((.int .i64 n : Value) = .int .i64 n_) ∧ ((.int .i64 i40 : Value) = .int .i64 i40_) ∧ K39
theorem un63_0 (s : ByteArray) (i : Nat × (Int × Int)) (h : Es s i) : Qwk s i (i.1 - 1) i.2.1 i.2.2 := ⟨hd1 h.1 h.2.1, hd3 h.2.1, hd2 h.2.1, h.2.2⟩
theorem bk63_0 (s : ByteArray) (i : Nat × (Int × Int)) (m39 : Nat) (n : Int) (i40 : Int) (hl : m39 < i.1) (e : runL (Ji s) m39 (n, i40) = Qvm s) (h : Qkq s m39 n i40) : ∃ j : Nat × (Int × Int), Qwq s n i40 j.2.1 j.2.2 (Es s j ∧ j.1 < i.1) := ⟨(m39, (n, i40)), rfl, rfl, rfl, ⟨e, h⟩, hl⟩
theorem en63_0 (s : ByteArray) (h : (0 : Int) ≤ 0) : Qwq s 0 0 0 0 (Es s (Ri s)) := ⟨rfl, rfl, rfl, rfl, Nat.lt_succ_self _, h⟩
def S63 (s : ByteArray) : Spec := ⟨[.r (.c (.v (.string s)))], .v (vI (F63 s)), s.size ≤ 1048576⟩
theorem ok63 (s : ByteArray) : (S63 s).ok Tryz.prog 63 :=
 Qj mixed (fn := Tryz.f63) (ct := .seq .no (.seq (.seq (.reg [(2, Nk (s.size : Int) 1 6)]) (.cond (.seq .no .no) .no)) (.seq .no (.seq (.seq .no (.blk (.loop (ι := Nat × (Int × Int)) (fun i => (fun (n : Int) (i40 : Int) => (⟨[(0, some (.v (.string s))), (3, some (.v (vI n))), (4, some (.v (vI i40)))], [], 0⟩ : St)) i.2.1 i.2.2) (Es s) (fun i => i.1) (Ri s) (fun i => (fun (n : Int) (i40 : Int) => (.seq (.seq .no (.cond .no .no)) (.seq (.blk (.seq (.seq (.reg [(4, Nk (IntKind.i64.wrap ((s.data.getD (Int.toNat i40) 0).toNat : Int)) 48 57)]) (.cond (.seq .no .no) .no)) .no)) (.reg [(1, .bnd)])))) i.2.1 i.2.2)))) (.seq .no .no))))) Tryz.func63 (fun (hpre0 : s.size ≤ 1048576) => Py (s.size : Int) 1 6 (ai (fun k2 : (decide ((s.size : Int) > 1)) = true => have _ := of_decide_eq_true k2; (fun k1 : (!(decide (1 ≤ (s.size : Int) ∧ (s.size : Int) ≤ 6))) = false => have _ := of_decide_eq_true (Uw k1); (by omega : 0 ≤ (0 : Int) ∧ (0 : Int) < (s.size : Int)))) (ifb (bif (!(decide (1 ≤ (s.size : Int) ∧ (s.size : Int) ≤ 6))) then true else (bif decide ((s.size : Int) > 1) then (((s.data.getD (Int.toNat 0) 0).toNat : Int) == 48) else false)) (fun h3 => fiI (-1) (F63 s) (condT h3 rfl)) (fun h3 => have _ := of_decide_eq_true (Uw (orF1 h3)); ai (en63_0 s (by omega)) (fun (i0 : Nat × (Int × Int)) (hi0 : Es s i0) => (fun (m0 : Nat) (n : Int) (i40 : Int) (hh0 : Qwk s i0 m0 n i40) => have hI0 := hh0.1; have hl0 := hh0.2.1; have _ := hh0.2.2.1; have _ := hh0.2.2.2; ifd (i40 < (s.size : Int)) (fun h5 _ => ai (by omega : 0 ≤ i40 ∧ i40 < (s.size : Int)) (Py (IntKind.i64.wrap ((s.data.getD (Int.toNat i40) 0).toNat : Int)) 48 57 (ifb (!(decide (48 ≤ (IntKind.i64.wrap ((s.data.getD (Int.toNat i40) 0).toNat : Int)) ∧ (IntKind.i64.wrap ((s.data.getD (Int.toNat i40) 0).toNat : Int)) ≤ 57))) (fun h6 => have _ := of_decide_eq_false (Wo h6); fiI (-1) (F63 s) (condF h3 (finR (Qr hI0 (condT h5 (condT h6 rfl))) rfl))) (fun h6 => have _ := of_decide_eq_true (Uw h6); ai (by omega : 0 ≤ i40 ∧ i40 < (s.size : Int)) (ai (iok (i40 + 1) (by omega)) (bk63_0 s i0 m0 (IntKind.i64.wrap ((IntKind.i64.wrap (n * 10)) + (IntKind.i64.wrap (IntKind.u8.wrap (((s.data.getD (Int.toNat i40) 0).toNat : Int) - 48))))) (i40 + 1) hl0 (Qd hI0 (condT h5 (condF h6 rfl))) (by refine ⟨?_, ?_⟩ <;> omega))))))) (fun h5 _ => have hD0_7 : Qvm s = Lp.done (n, i40) := Qk hI0 (condF h5 rfl); fiI n (F63 s) (condF h3 (finD hD0_7 rfl)))) (i0.1 - 1) i0.2.1 i0.2.2 (un63_0 s i0 hi0)))))) (by kernel_rfl)
def Lx (n : Int) : (Int × Int) → Lp (Int × Int) Int := fun (out, i40) =>
 bif (decide (i40 < 16)) then (.next ((IntKind.i64.wrap (out * 2)), (i40 + 1))) else (.done (out, i40))
def F102 (n : Int) : Int :=
 (runL (Lx n) ((Int.toNat (16 - n)) + 1) (1, n)).fin (fun r => r) (fun (out, i40) => out)
abbrev Lw (n : Int) : Nat × (Int × Int) := (((Int.toNat (16 - n)) + 1), (1, n))
abbrev Qfh (m39 : Nat) (out : Int) (i40 : Int) : Prop := Int.toNat (16 - i40) < m39 ∧ (0 : Int) ≤ i40
abbrev Qop (n : Int) : Lp (Int × Int) Int := LpX (Lx n) (Lw n)
abbrev Mb (n : Int) (i : Nat × (Int × Int)) : Prop := LpJ (Lx n) (Lw n) i (Qfh i.1 i.2.1 i.2.2)
abbrev Qnp (n : Int) (i : Nat × (Int × Int)) (m39 : Nat) (out : Int) (i40 : Int) : Prop := LpH (Lx n) (Lw n) i m39 (out, i40) (Qfh (m39 + 1) out i40)
abbrev Qpb (out : Int) (i40 : Int) (out_ : Int) (i40_ : Int) (K39 : Prop) : Prop := ((.int .i64 out : Value) = .int .i64 out_) ∧ ((.int .i64 i40 : Value) = .int .i64 i40_) ∧ K39
theorem Udm (n : Int) (i : Nat × (Int × Int)) (h : Mb n i) : Qnp n i (i.1 - 1) i.2.1 i.2.2 := ⟨hd1 h.1 h.2.1, hd3 h.2.1, hd2 h.2.1, h.2.2⟩
theorem Uce (n : Int) (i : Nat × (Int × Int)) (m39 : Nat) (out : Int) (i40 : Int) (hl : m39 < i.1) (e : runL (Lx n) m39 (out, i40) = Qop n) (h : Qfh m39 out i40) : ∃ j : Nat × (Int × Int), Qpb out i40 j.2.1 j.2.2 (Mb n j ∧ j.1 < i.1) := ⟨(m39, (out, i40)), rfl, rfl, ⟨e, h⟩, hl⟩
theorem Ucy (n : Int) (h : (0 : Int) ≤ n) : Qpb 1 n 1 n (Mb n (Lw n)) := ⟨rfl, rfl, rfl, Nat.lt_succ_self _, h⟩
def S102 (n : Int) : Spec := ⟨[.r (.c (.v (vI n)))], .v (vI (F102 n)), 0 ≤ n⟩
theorem ok102 (n : Int) : (S102 n).ok Tryz.prog 102 :=
 Qj mixed (fn := Tryz.f102) (ct := .seq .no (.seq .no (.seq (.seq .no (.blk (.loop (ι := Nat × (Int × Int)) (fun i => (fun (out : Int) (i40 : Int) => (⟨[(3, some (.v (vI out))), (4, some (.v (vI i40)))], [], 0⟩ : St)) i.2.1 i.2.2) (Mb n) (fun i => i.1) (Lw n) (fun i => (fun (out : Int) (i40 : Int) => (.seq (.seq .no (.cond .no .no)) (.seq (.blk .no) (.reg [(1, .bnd)])))) i.2.1 i.2.2)))) (.seq .no .no)))) Tryz.func102 (fun (hpre0 : 0 ≤ n) => ai (Ucy n (by omega)) (fun (i0 : Nat × (Int × Int)) (hi0 : Mb n i0) => (fun (m0 : Nat) (out : Int) (i40 : Int) (hh0 : Qnp n i0 m0 out i40) => have hI0 := hh0.1; have hl0 := hh0.2.1; have _ := hh0.2.2.1; have _ := hh0.2.2.2; ifd (i40 < 16) (fun h2 _ => ai (iok (i40 + 1) (by omega)) (Uce n i0 m0 (IntKind.i64.wrap (out * 2)) (i40 + 1) hl0 (Qd hI0 (condT h2 rfl)) (by refine ⟨?_, ?_⟩ <;> omega))) (fun h2 _ => have hD0_3 : Qop n = Lp.done (out, i40) := Qk hI0 (condF h2 rfl); fiI out (F102 n) (finD hD0_3 rfl))) (i0.1 - 1) i0.2.1 i0.2.2 (Udm n i0 hi0))) (by kernel_rfl)
theorem Qgf (n : Int) : 0 ≤ n → n ≤ 16 → 1 ≤ (F102 n) ∧ (F102 n) ≤ 65536 := by
 intro h1 h2; have h3 : n = 0 ∨ n = 1 ∨ n = 2 ∨ n = 3 ∨ n = 4 ∨ n = 5 ∨ n = 6 ∨ n = 7 ∨ n = 8 ∨ n = 9 ∨ n = 10 ∨ n = 11 ∨ n = 12 ∨ n = 13 ∨ n = 14 ∨ n = 15 ∨ n = 16 := by omega
 rcases h3 with rfl | rfl | rfl | rfl | rfl | rfl | rfl | rfl | rfl | rfl | rfl | rfl | rfl | rfl | rfl | rfl | rfl <;> exact of_decide_eq_true rfl
def Vr (list : List ByteArray) (s : ByteArray) : Int → Lp Int Bool := fun i40 =>
 bif (decide (i40 < (list.length : Int))) then (bif ((list.getD (Int.toNat i40) default).toList == s.toList) then (.ret true) else (.next (i40 + 1))) else (.done i40)
def F55 (list : List ByteArray) (s : ByteArray) : Bool :=
 (runL (Vr list s) ((Int.toNat ((list.length : Int) - 0)) + 1) 0).fin (fun r => r) (fun i40 => false)
abbrev Qbt (list : List ByteArray) : Nat × Int := (((Int.toNat ((list.length : Int) - 0)) + 1), 0)
abbrev Qkh (list : List ByteArray) (m39 : Nat) (i40 : Int) : Prop := Int.toNat ((list.length : Int) - i40) < m39 ∧ (0 : Int) ≤ i40
abbrev Qsu (list : List ByteArray) (s : ByteArray) : Lp Int Bool := LpX (Vr list s) (Qbt list)
abbrev Te (list : List ByteArray) (s : ByteArray) (i : Nat × Int) : Prop := LpJ (Vr list s) (Qbt list) i (Qkh list i.1 i.2)
abbrev Qxp (list : List ByteArray) (s : ByteArray) (i : Nat × Int) (m39 : Nat) (i40 : Int) : Prop := LpH (Vr list s) (Qbt list) i m39 i40 (Qkh list (m39 + 1) i40)
abbrev Qwv (list : List ByteArray) (s : ByteArray) (i40 : Int) (i40_ : Int) (K39 : Prop) : Prop := (Rf (.string s)) ∧ ((.int .i64 i40 : Value) = .int .i64 i40_) ∧ (Im (.l 1 eStr list)) ∧ K39
theorem un55_0 (list : List ByteArray) (s : ByteArray) (i : Nat × Int) (h : Te list s i) : Qxp list s i (i.1 - 1) i.2 := ⟨hd1 h.1 h.2.1, hd3 h.2.1, hd2 h.2.1, h.2.2⟩
theorem bk55_0 (list : List ByteArray) (s : ByteArray) (i : Nat × Int) (m39 : Nat) (i40 : Int) (hl : m39 < i.1) (e : runL (Vr list s) m39 i40 = Qsu list s) (h : Qkh list m39 i40) : ∃ j : Nat × Int, Qwv list s i40 j.2 (Te list s j ∧ j.1 < i.1) := ⟨(m39, i40), rfl, rfl, Imp.refl _, ⟨e, h⟩, hl⟩
theorem en55_0 (list : List ByteArray) (s : ByteArray) (h : (0 : Int) ≤ 0) : Qwv list s 0 0 (Te list s (Qbt list)) := ⟨rfl, rfl, Imp.refl _, rfl, Nat.lt_succ_self _, h⟩
def S55 (list : List ByteArray) (s : ByteArray) : Spec := ⟨[.r (.c (.l 1 eStr list)), .r (.c (.v (.string s)))], .v (.bool (F55 list s)), True⟩
theorem ok55 (list : List ByteArray) (s : ByteArray) : (S55 list s).ok Tryz.prog 55 :=
 Qj mixed (fn := Tryz.f55) (ct := .seqk [(0, 0)] .no (.seq (.seqk [(0, 0)] .no (.blk (.loop (ι := Nat × Int) (fun i => (fun (i40 : Int) => (⟨[(0, some (.h 0 0)), (1, some (.v (.string s))), (5, some (.v (vI i40)))], [(0, some (.shr none (.l 1 eStr list)))], 1⟩ : St)) i.2) (Te list s) (fun i => i.1) (Qbt list) (fun i => (fun (i40 : Int) => (.seq (.seq .no (.cond .no .no)) (.seq (.blk (.seq .no (.cond (.seq .no .no) .no))) (.reg [(1, .bnd)])))) i.2)))) (.seq .no .no))) Tryz.func55 (fun (_ : True) => kn list fun _ => kn list fun _ => ai (en55_0 list s (by omega)) (fun (i0 : Nat × Int) (hi0 : Te list s i0) => (fun (m0 : Nat) (i40 : Int) (hh0 : Qxp list s i0 m0 i40) => have hI0 := hh0.1; have hl0 := hh0.2.1; have _ := hh0.2.2.1; have _ := hh0.2.2.2; ifd (i40 < (list.length : Int)) (fun h2 _ => ai (by omega : ib i40 list) (ifb ((list.getD (Int.toNat i40) default).toList == s.toList) (fun h3 => fiB true (F55 list s) (finR (Qr hI0 (condT h2 (condT h3 rfl))) rfl)) (fun h3 => ai (iok (i40 + 1) (by omega)) (bk55_0 list s i0 m0 (i40 + 1) hl0 (Qd hI0 (condT h2 (condF h3 rfl))) (by refine ⟨?_, ?_⟩ <;> omega))))) (fun h2 _ => have hD0_4 : Qsu list s = Lp.done i40 := Qk hI0 (condF h2 rfl); fiB false (F55 list s) (finD hD0_4 rfl))) (i0.1 - 1) i0.2 (un55_0 list s i0 hi0))) (by kernel_rfl)
def F124 : List ByteArray :=
 ([(⟨#[100, 111, 111, 114]⟩ : ByteArray), (⟨#[104, 111, 115, 116]⟩ : ByteArray), (⟨#[110, 97, 116]⟩ : ByteArray), (⟨#[112, 101, 101, 114]⟩ : ByteArray), (⟨#[112, 111, 114, 116]⟩ : ByteArray), (⟨#[114, 111, 117, 116, 101]⟩ : ByteArray), (⟨#[114, 117, 108, 101]⟩ : ByteArray), (⟨#[117, 115, 101, 114]⟩ : ByteArray)] : List ByteArray)
theorem fi124 (r : List ByteArray) (hF : r = F124) : (Imp (.l 1 eStr r) (.l 1 eStr F124)) ∧ True := by cases hF; exact ⟨Imp.refl _, trivial⟩
def S124 : Spec := ⟨[], .ow (.l 1 eStr F124), True⟩
theorem ok124 : (S124).ok Tryz.prog 124 :=
 Qj mixed (fn := Tryz.f124) (ct := .seq .no (.seq (.reg [(0, .dat (.l 1 eStr ([w3_, w4_, w5_, w6_, w7_, w8_, w9_, w10_] : List ByteArray)))]) .no)) Tryz.func124 (fun (_ : True) => ai (bokr 1 eStr ([w3_, w4_, w5_, w6_, w7_, w8_, w9_, w10_] : List ByteArray) fun _ => rfl) (fi124 ([w3_, w4_, w5_, w6_, w7_, w8_, w9_, w10_] : List ByteArray) rfl)) (by kernel_rfl)
theorem Qpy (s : ByteArray) (a b : Nat) : mkB ((s.data.toList.drop a).take (b - a)) = s.extract a b := by
 refine Jn ?_
 rw [Qan, ByteArray.data_extract, Array.toList_extract, List.extract_eq_take_drop]
theorem Qzo (s : ByteArray) (c : UInt8) (out : List ByteArray) (f : Int) : Kk s (c.toNat : Int) (out, f, (s.size : Int)) = .done (out, f, (s.size : Int)) := by
 simp only [Kk, decide_eq_false (show ¬ (s.size : Int) < (s.size : Int) by omega), cond_false]
theorem Qxe (s : ByteArray) (c : UInt8) (out : List ByteArray) (f i : Nat) (hi : i < s.size) (b : UInt8) (hb : s.data.toList.getD i 0 = b) : Kk s (c.toNat : Int) (out, (f : Int), (i : Int)) =
  if b = c then .next (out ++ [s.extract f i], ((i + 1 : Nat) : Int), ((i + 1 : Nat) : Int)) else .next (out, (f : Int), ((i + 1 : Nat) : Int)) := by
 have hc : ((c.toNat : Int) % 256) = (c.toNat : Int) := by have := c.toNat_lt; omega
 simp only [Kk, decide_eq_true (show (i : Int) < (s.size : Int) by omega), cond_true, Int.toNat_natCast, Zl, hb, hc, Qph]
 by_cases h : b = c
 ·rw [decide_eq_true h, if_pos h]; rfl
 ·rw [decide_eq_false h, if_neg h]; rfl
theorem Mj (s : ByteArray) (c : UInt8) : ∀ (m i f : Nat) (out : List ByteArray), i + m = s.size → f ≤ i → c ∉ (s.data.toList.drop f).take (i - f) → ∀ fuel, m < fuel →
  ((runL (Kk s (c.toNat : Int)) fuel (out, (f : Int), (i : Int))).fin Lp.ret (fun (out1, from'1, i40) => .done (out1, from'1))).fin (fun r => r) (fun (out, from') => out ++ [s.extract (Int.toNat from') (Int.toNat (s.size : Int))]) = out ++ (Qv c (s.data.toList.drop f)).map mkB
 | m, i, f, out, _, _, _, 0, hf => absurd hf (Nat.not_lt_zero _)
 | 0, i, f, out, h, hfi, hc, fuel + 1, hf => by
  have hl : s.data.toList.length = s.size := Array.length_toList
  obtain rfl : i = s.size := by omega
  rw [Zg _ (Qzo s c out f)]
  have e : (s.data.toList.drop f).take (s.size - f) = s.data.toList.drop f := List.take_of_length_le (by rw [List.length_drop]; omega)
  rw [e] at hc
  rw [Ur hc, List.map_cons, List.map_nil, ← e, Qpy]
  rfl
 | m + 1, i, f, out, h, hfi, hc, fuel + 1, hf => by
  have hl : s.data.toList.length = s.size := Array.length_toList
  have hb : s.data.toList.drop i = s.data.toList.getD i 0 :: s.data.toList.drop (i + 1) := by
   rw [List.drop_eq_getElem_cons (by omega), List.getD_eq_getElem?_getD, List.getElem?_eq_getElem (by omega)]; rfl
  have hw : s.data.toList.drop f = (s.data.toList.drop f).take (i - f) ++ s.data.toList.drop i := by
   have := (List.take_append_drop (i - f) (s.data.toList.drop f)).symm
   rw [List.drop_drop, show f + (i - f) = i by omega] at this
   exact this
  have h1 := Qxe s c out f i (by omega) _ rfl
  generalize hbb : s.data.toList.getD i 0 = b at h1 hb
  by_cases hbc : b = c
  ·rw [if_pos hbc] at h1
   rw [Uj _ h1, Mj s c m (i + 1) (i + 1) _ (by omega) (Nat.le_refl _) (by rw [Nat.sub_self, List.take_zero]; exact List.not_mem_nil) fuel (by omega)]
   rw [hw, hb, hbc, Uz _ hc, List.map_cons, Qpy, List.append_assoc]
   rfl
  ·rw [if_neg hbc] at h1
   have hc' : c ∉ (s.data.toList.drop f).take (i + 1 - f) := by
    have e : (s.data.toList.drop f).take (i + 1 - f) = (s.data.toList.drop f).take (i - f) ++ [b] := by
     have hg : s.data.toList[i]? = some b := by
      rw [List.getD_eq_getElem?_getD, List.getElem?_eq_getElem (by omega)] at hbb
      rw [List.getElem?_eq_getElem (by omega)]
      exact congrArg some hbb
     rw [show i + 1 - f = (i - f) + 1 by omega, List.take_add_one, List.getElem?_drop, show f + (i - f) = i by omega, hg]
     rfl
    rw [e]
    intro hm
    rcases List.mem_append.1 hm with h2 | h2
    ·exact hc h2
    ·exact hbc (List.mem_singleton.1 h2).symm
   rw [Uj _ h1]
   exact Mj s c m (i + 1) f out (by omega) (by omega) hc' fuel (by omega)
theorem Vj (s : ByteArray) (c : UInt8) : F19 s (c.toNat : Int) = (Qv c s.data.toList).map mkB := by
 have := Mj s c s.size 0 0 [] (by omega) (Nat.le_refl _) (by rw [Nat.sub_self, List.take_zero]; exact List.not_mem_nil) (Int.toNat ((s.size : Int) - 0) + 1) (by omega)
 rw [List.drop_zero, List.nil_append] at this
 exact this
theorem Br (s : ByteArray) (c : UInt8) : Qq s ⟨#[c]⟩ = (Qv c s.data.toList).map mkB := by
 rw [← Eu, List.map_map]
 exact ((List.map_congr_left fun x _ => En x).trans (List.map_id _)).symm
theorem Km (s : ByteArray) (c : UInt8) : F19 s (c.toNat : Int) = Qq s ⟨#[c]⟩ := (Vj s c).trans (Br s c).symm
theorem Qhi (s : ByteArray) (a : Int) : ∃ c : UInt8, F19 s a = (Qv c s.data.toList).map mkB := by
 refine ⟨UInt8.ofNat (a % 256).toNat, ?_⟩
 rw [← Vj]
 have h : ((UInt8.ofNat (a % 256).toNat).toNat : Int) % 256 = a % 256 := by
  rw [UInt8.toNat_ofNat']
  omega
 have e : Kk s a = Kk s ((UInt8.ofNat (a % 256).toNat).toNat : Int) := by
  funext ⟨o, f, i⟩
  simp only [Kk, h]
 unfold F19 Qbs
 rw [e]
theorem Ng (c : UInt8) : ∀ (l : List UInt8), ∀ w ∈ Qv c l, w.length ≤ l.length
 | [], w, h => by
  rw [Qv, List.mem_singleton] at h; rw [h]; exact Nat.le_refl _
 | b :: l, w, h => by
  have ih := Ng c l
  rw [Qv] at h
  by_cases hb : b = c
  ·rw [if_pos hb] at h
   rcases List.mem_cons.1 h with rfl | h
   ·exact Nat.zero_le _
   ·exact Nat.le_succ_of_le (ih w h)
  ·rw [if_neg hb] at h
   cases hs : Qv c l with
   | nil =>
    rw [hs] at h
    rw [List.mem_singleton] at h; rw [h]; exact Nat.succ_le_succ (Nat.zero_le _)
   | cons p ps =>
    rw [hs] at h ih
    rcases List.mem_cons.1 h with rfl | h
    ·exact Nat.succ_le_succ (ih p List.mem_cons_self)
    ·exact Nat.le_succ_of_le (ih w (List.mem_cons_of_mem _ h))
theorem Ep (ws : List (List UInt8)) (n : Nat) (h : ∀ w ∈ ws, w.length ≤ n) (k : Nat) : (((ws.map mkB).getD k default : ByteArray)).size ≤ n := by
 by_cases hk : k < ws.length
 ·rw [List.getD_eq_getElem?_getD, List.getElem?_eq_getElem (by simpa using hk), List.getElem_map]
  exact h _ (List.getElem_mem hk)
 ·rw [Ve _ (by simpa using hk)]
  exact Nat.zero_le _
theorem Zy (s : ByteArray) (a : Int) (h : s.size ≤ 1048576) (k : Nat) : (((F19 s a).getD k default : ByteArray)).size ≤ 1048576 := by
 obtain ⟨c, e⟩ := Qhi s a
 rw [e]
 refine Ep _ _ (fun w hw => ?_) k
 have := Ng c _ w hw
 have hl : s.data.toList.length = s.size := Array.length_toList
 omega
theorem kc63 (s : ByteArray) {K_ : Prop} (p0_ : s.size ≤ 1048576) (k_ : K_) : (s.size ≤ 1048576) ∧ (Imp (.v (.string s)) (.v (.string s))) ∧ K_ := ⟨p0_, Imp.refl _, k_⟩
abbrev kh63 (s : ByteArray) : Hint true Tryz.prog := .call 63 (S63 s) (ok63 s) none
def F100 (s : ByteArray) (low : Int) (high : Int) : Bool :=
 (decide (low ≤ (F63 s) ∧ (F63 s) ≤ high))
def S100 (R : Bool) (s : ByteArray) (low : Int) (high : Int) : Spec := ⟨[.r (.c (.v (.string s))), .r (.c (.v (vI low))), .r (.c (.v (vI high)))], .v (.bool R), s.size ≤ 1048576⟩
theorem ok100 (s : ByteArray) (low : Int) (high : Int) : (S100 (F100 s low high) s low high).ok Tryz.prog 100 :=
 Qj mixed (fn := Tryz.f100) (ct := .seq .no (.seq (.reg [(1, kh63 s), (4, Nk (F63 s) low high)]) .no)) Tryz.func100 (fun (hpre0 : s.size ≤ 1048576) => kc63 s (by omega) (Py (F63 s) low high (fiB (decide (low ≤ (F63 s) ∧ (F63 s) ≤ high)) (F100 s low high) rfl))) (by kernel_rfl)
theorem as100 (s : ByteArray) (low : Int) (high : Int) : F100 s low high = (decide (low ≤ F63 s ∧ F63 s ≤ high)) := by
 rfl
theorem oa100 (s : ByteArray) (low : Int) (high : Int) : (S100 (decide (low ≤ F63 s ∧ F63 s ≤ high)) s low high).ok Tryz.prog 100 := by
 intro hp; have h := ok100 s low high hp; rw [as100 s low high] at h; exact h
theorem kc19 (s : ByteArray) (at' : Int) {K_ : Prop} (p0_ : s.size ≤ 1048576) (q0_ : s.size ≤ 1048576) (k_ : (∀ k : Nat, ((F19 s at').getD k default).size ≤ 1048576) → K_) : (s.size ≤ 1048576) ∧ (Imp (.v (.string s)) (.v (.string s))) ∧ (Imp (.v (.int .u8 at')) (.v (.int .u8 at'))) ∧ K_ := ⟨p0_, Imp.refl _, Imp.refl _, k_ (Zy s at' q0_)⟩
abbrev kh19 (s : ByteArray) (at' : Int) : Hint true Tryz.prog := .call 19 (S19 s at') (ok19 s at') none
theorem Zu {K_ : Prop} (c_ b_ : Bool) (s : ByteArray) (low : Int) (high : Int) (p_ : c_ = b_ → s.size ≤ 1048576) (k_ : K_) : (c_ = b_ → s.size ≤ 1048576) ∧ (c_ = b_ → Imp (.v (.string s)) (.v (.string s))) ∧ (c_ = b_ → Imp (.v (vI low)) (.v (vI low))) ∧ (c_ = b_ → Imp (.v (vI high)) (.v (vI high))) ∧ K_ := ⟨p_, fun _ => Imp.refl _, fun _ => Imp.refl _, fun _ => Imp.refl _, k_⟩
abbrev Zt (s : ByteArray) (low : Int) (high : Int) : Hint true Tryz.prog := .call 100 (S100 (decide (low ≤ F63 s ∧ F63 s ≤ high)) s low high) (oa100 s low high) none
def F60 (s : ByteArray) : Int :=
 bif (bif (bif (((F19 s 46).length : Int) != 2) then true else (!(decide (0 ≤ F63 ((F19 s 46).getD (Int.toNat 0) default) ∧ F63 ((F19 s 46).getD (Int.toNat 0) default) ≤ 255)))) then true else (!(decide (0 ≤ F63 ((F19 s 46).getD (Int.toNat 1) default) ∧ F63 ((F19 s 46).getD (Int.toNat 1) default) ≤ 255)))) then (-1) else (IntKind.i64.wrap ((IntKind.i64.wrap (256 * (F63 ((F19 s 46).getD (Int.toNat 0) default)))) + (F63 ((F19 s 46).getD (Int.toNat 1) default))))
def S60 (s : ByteArray) : Spec := ⟨[.r (.c (.v (.string s)))], .v (vI (F60 s)), s.size ≤ 1048576⟩
theorem ok60 (s : ByteArray) : (S60 s).ok Tryz.prog 60 :=
 Qj mixed (fn := Tryz.f60) (ct := .seq .no (.seq (.reg [(1, kh19 s 46)]) (.seq (.seq (.reg [(7, Zt ((F19 s 46).getD (Int.toNat 0) default) 0 255), (14, Zt ((F19 s 46).getD (Int.toNat 1) default) 0 255)]) (.cond (.seq .no .no) .no)) (.seq (.reg [(3, kh63 ((F19 s 46).getD (Int.toNat 0) default)), (8, kh63 ((F19 s 46).getD (Int.toNat 1) default))]) .no)))) Tryz.func60 (fun (hpre0 : s.size ≤ 1048576) => kc19 s 46 (by omega) (by omega) (fun gv1 => ai (fun k2 : (((F19 s 46).length : Int) != 2) = false => have _ := bneF k2; (by omega : ib 0 (F19 s 46))) (Zu (((F19 s 46).length : Int) != 2) false ((F19 s 46).getD (Int.toNat 0) default) 0 255 (fun k3 => have _ := bneF k3; (by first | exact Zy _ _ (by omega) _ | omega)) (ai (fun k4 : (bif (((F19 s 46).length : Int) != 2) then true else (!(decide (0 ≤ F63 ((F19 s 46).getD (Int.toNat 0) default) ∧ F63 ((F19 s 46).getD (Int.toNat 0) default) ≤ 255)))) = false => have _ := bneF (orF1 k4); have _ := of_decide_eq_true (Uw (orF2 k4)); (by omega : ib 1 (F19 s 46))) (Zu (bif (((F19 s 46).length : Int) != 2) then true else (!(decide (0 ≤ F63 ((F19 s 46).getD (Int.toNat 0) default) ∧ F63 ((F19 s 46).getD (Int.toNat 0) default) ≤ 255)))) false ((F19 s 46).getD (Int.toNat 1) default) 0 255 (fun k5 => have _ := bneF (orF1 k5); have _ := of_decide_eq_true (Uw (orF2 k5)); (by first | exact Zy _ _ (by omega) _ | omega)) (ifb (bif (bif (((F19 s 46).length : Int) != 2) then true else (!(decide (0 ≤ F63 ((F19 s 46).getD (Int.toNat 0) default) ∧ F63 ((F19 s 46).getD (Int.toNat 0) default) ≤ 255)))) then true else (!(decide (0 ≤ F63 ((F19 s 46).getD (Int.toNat 1) default) ∧ F63 ((F19 s 46).getD (Int.toNat 1) default) ≤ 255)))) (fun h6 => fiI (-1) (F60 s) (condT h6 rfl)) (fun h6 => have _ := bneF (orF1 (orF1 h6)); have _ := of_decide_eq_true (Uw (orF2 (orF1 h6))); have _ := of_decide_eq_true (Uw (orF2 h6)); ai (by omega : ib 0 (F19 s 46)) (kc63 ((F19 s 46).getD (Int.toNat 0) default) (by first | exact Zy _ _ (by omega) _ | omega) (ai (by omega : ib 1 (F19 s 46)) (kc63 ((F19 s 46).getD (Int.toNat 1) default) (by first | exact Zy _ _ (by omega) _ | omega) (fiI (IntKind.i64.wrap ((IntKind.i64.wrap (256 * (F63 ((F19 s 46).getD (Int.toNat 0) default)))) + (F63 ((F19 s 46).getD (Int.toNat 1) default)))) (F60 s) (condF h6 rfl)))))))))))) (by kernel_rfl)
theorem kc124 {K_ : Prop} (k_ : K_) : (True) ∧ K_ := ⟨trivial, k_⟩
abbrev kh124 : Hint true Tryz.prog := .call 124 (S124) (ok124) none
theorem kc55 (list : List ByteArray) (s : ByteArray) {K_ : Prop} (k_ : K_) : (True) ∧ (Imp (.l 1 eStr list) (.l 1 eStr list)) ∧ (Imp (.v (.string s)) (.v (.string s))) ∧ K_ := ⟨trivial, Imp.refl _, Imp.refl _, k_⟩
abbrev kh55 (list : List ByteArray) (s : ByteArray) : Hint true Tryz.prog := .call 55 (S55 list s) (ok55 list s) none
def Vx (s : ByteArray) : Int → Lp Int Bool := fun i40 =>
 bif (decide (i40 < ((F19 s 44).length : Int))) then (bif (bif (!(F55 F124 ((F19 s 44).getD (Int.toNat i40) default))) then true else (bif decide (i40 > 0) then (!(Op.bytesLess ((F19 s 44).getD (Int.toNat (i40 - 1)) default).toList ((F19 s 44).getD (Int.toNat i40) default).toList)) else false)) then (.ret false) else (.next (i40 + 1))) else (.done i40)
def F99 (s : ByteArray) : Bool :=
 bif (bif (s.toList == (⟨#[97, 108, 108]⟩ : ByteArray).toList) then true else (s.toList == (⟨#[110, 111, 110, 101]⟩ : ByteArray).toList)) then true else ((runL (Vx s) ((Int.toNat (((F19 s 44).length : Int) - 0)) + 1) 0).fin (fun r => r) (fun i40 => true))
abbrev Tq (s : ByteArray) : Nat × Int := (((Int.toNat (((F19 s 44).length : Int) - 0)) + 1), 0)
abbrev Qkj (s : ByteArray) (m39 : Nat) (i40 : Int) : Prop := Int.toNat (((F19 s 44).length : Int) - i40) < m39 ∧ (0 : Int) ≤ i40
abbrev Qzr (s : ByteArray) : Lp Int Bool := LpX (Vx s) (Tq s)
abbrev Rn (s : ByteArray) (i : Nat × Int) : Prop := LpJ (Vx s) (Tq s) i (Qkj s i.1 i.2)
abbrev Qwe (s : ByteArray) (i : Nat × Int) (m39 : Nat) (i40 : Int) : Prop := LpH (Vx s) (Tq s) i m39 i40 (Qkj s (m39 + 1) i40)
abbrev Qsn (s : ByteArray) (i40 : Int) (i40_ : Int) (K39 : Prop) : Prop := ((.int .i64 i40 : Value) = .int .i64 i40_) ∧ (Im (.l 1 eStr (F19 s 44))) ∧ K39
theorem un99_0 (s : ByteArray) (i : Nat × Int) (h : Rn s i) : Qwe s i (i.1 - 1) i.2 := ⟨hd1 h.1 h.2.1, hd3 h.2.1, hd2 h.2.1, h.2.2⟩
theorem bk99_0 (s : ByteArray) (i : Nat × Int) (m39 : Nat) (i40 : Int) (hl : m39 < i.1) (e : runL (Vx s) m39 i40 = Qzr s) (h : Qkj s m39 i40) : ∃ j : Nat × Int, Qsn s i40 j.2 (Rn s j ∧ j.1 < i.1) := ⟨(m39, i40), rfl, Imp.refl _, ⟨e, h⟩, hl⟩
theorem en99_0 (s : ByteArray) (h : (0 : Int) ≤ 0) : Qsn s 0 0 (Rn s (Tq s)) := ⟨rfl, Imp.refl _, rfl, Nat.lt_succ_self _, h⟩
def S99 (s : ByteArray) : Spec := ⟨[.r (.c (.v (.string s)))], .v (.bool (F99 s)), s.size ≤ 1048576⟩
theorem ok99 (s : ByteArray) : (S99 s).ok Tryz.prog 99 :=
 Qj mixed (fn := Tryz.f99) (ct := .seq .no (.seq (.seq .no (.cond (.seq .no .no) .no)) (.seq (.reg [(1, kh19 s 44)]) (.seq (.seqk [(3, 0)] .no (.blk (.loop (ι := Nat × Int) (fun i => (fun (i40 : Int) => (⟨[(3, some (.h 0 0)), (4, some (.v (vI i40)))], [(0, some (.own 0 (.l 1 eStr (F19 s 44))))], 1⟩ : St)) i.2) (Rn s) (fun i => i.1) (Tq s) (fun i => (fun (i40 : Int) => (.seq (.seq .no (.cond .no .no)) (.seq (.blk (.seq (.reg [(0, kh124), (5, kh55 F124 ((F19 s 44).getD (Int.toNat i40) default)), (13, .bnd)]) (.cond (.seq .no .no) .no))) (.reg [(1, .bnd)])))) i.2)))) (.seq .no .no))))) Tryz.func99 (fun (hpre0 : s.size ≤ 1048576) => ifb (bif (s.toList == w11_.toList) then true else (s.toList == w12_.toList)) (fun h1 => fiB true (F99 s) (condT h1 rfl)) (fun h1 => have _ : (s.toList == w11_.toList) = false := (orF1 h1); have _ : (s.toList == w12_.toList) = false := (orF2 h1); kc19 s 44 (by omega) (by omega) (fun gv2 => kn (F19 s 44) fun _ => ai (en99_0 s (by omega)) (fun (i0 : Nat × Int) (hi0 : Rn s i0) => (fun (m0 : Nat) (i40 : Int) (hh0 : Qwe s i0 m0 i40) => have hI0 := hh0.1; have hl0 := hh0.2.1; have _ := hh0.2.2.1; have _ := hh0.2.2.2; ifd (i40 < ((F19 s 44).length : Int)) (fun h4 _ => kc124 (ai (by omega : ib i40 (F19 s 44)) (kc55 F124 ((F19 s 44).getD (Int.toNat i40) default) (ai (fun k6 : (decide (i40 > 0)) = true => have _ := of_decide_eq_true k6; (fun k5 : (!(F55 F124 ((F19 s 44).getD (Int.toNat i40) default))) = false => iok (i40 - 1) (by omega))) (ai (fun k8 : (decide (i40 > 0)) = true => have _ := of_decide_eq_true k8; (fun k7 : (!(F55 F124 ((F19 s 44).getD (Int.toNat i40) default))) = false => (by omega : ib (i40 - 1) (F19 s 44)))) (ai (fun k10 : (decide (i40 > 0)) = true => have _ := of_decide_eq_true k10; (fun k9 : (!(F55 F124 ((F19 s 44).getD (Int.toNat i40) default))) = false => (by omega : ib i40 (F19 s 44)))) (ifb (bif (!(F55 F124 ((F19 s 44).getD (Int.toNat i40) default))) then true else (bif decide (i40 > 0) then (!(Op.bytesLess ((F19 s 44).getD (Int.toNat (i40 - 1)) default).toList ((F19 s 44).getD (Int.toNat i40) default).toList)) else false)) (fun h11 => fiB false (F99 s) (condF h1 (finR (Qr hI0 (condT h4 (condT h11 rfl))) rfl))) (fun h11 => ai (iok (i40 + 1) (by omega)) (bk99_0 s i0 m0 (i40 + 1) hl0 (Qd hI0 (condT h4 (condF h11 rfl))) (by refine ⟨?_, ?_⟩ <;> omega)))))))))) (fun h4 _ => have hD0_12 : Qzr s = Lp.done i40 := Qk hI0 (condF h4 rfl); fiB true (F99 s) (condF h1 (finD hD0_12 rfl)))) (i0.1 - 1) i0.2 (un99_0 s i0 hi0))))) (by kernel_rfl)
theorem kc60 (s : ByteArray) {K_ : Prop} (p0_ : s.size ≤ 1048576) (k_ : K_) : (s.size ≤ 1048576) ∧ (Imp (.v (.string s)) (.v (.string s))) ∧ K_ := ⟨p0_, Imp.refl _, k_⟩
theorem kg60 {K_ : Prop} (c_ b_ : Bool) (s : ByteArray) (p_ : c_ = b_ → s.size ≤ 1048576) (k_ : K_) : (c_ = b_ → s.size ≤ 1048576) ∧ (c_ = b_ → Imp (.v (.string s)) (.v (.string s))) ∧ K_ := ⟨p_, fun _ => Imp.refl _, k_⟩
abbrev kh60 (s : ByteArray) : Hint true Tryz.prog := .call 60 (S60 s) (ok60 s) none
theorem kc102 (n : Int) {K_ : Prop} (p0_ : 0 ≤ n) (q0_ : 0 ≤ n) (q1_ : n ≤ 16) (k_ : (1 ≤ (F102 n) ∧ (F102 n) ≤ 65536) → (0 ≤ n → n ≤ 16 → 1 ≤ (F102 n) ∧ (F102 n) ≤ 65536) → K_) : (0 ≤ n) ∧ (Imp (.v (vI n)) (.v (vI n))) ∧ K_ := ⟨p0_, Imp.refl _, k_ (Qgf n q0_ q1_) (Qgf n)⟩
abbrev kh102 (n : Int) : Hint true Tryz.prog := .call 102 (S102 n) (ok102 n) none
def F58 (s : ByteArray) : Int × Int :=
 bif (bif (bif (((F19 s 47).length : Int) != 2) then true else decide ((F60 ((F19 s 47).getD (Int.toNat 0) default)) < 0)) then true else (!(decide (0 ≤ F63 ((F19 s 47).getD (Int.toNat 1) default) ∧ F63 ((F19 s 47).getD (Int.toNat 1) default) ≤ 16)))) then ((-1), 0) else (bif (((F60 ((F19 s 47).getD (Int.toNat 0) default)).tmod (F102 (F63 ((F19 s 47).getD (Int.toNat 1) default)))) != 0) then ((-1), 0) else ((F60 ((F19 s 47).getD (Int.toNat 0) default)), (F102 (F63 ((F19 s 47).getD (Int.toNat 1) default)))))
theorem fi58 (s : ByteArray) (r : Int × Int) (hF : r = (F58 s)) : ((.int .i64 r.1 : Value) = .int .i64 ((F58 s).1)) ∧ ((.int .i64 r.2 : Value) = .int .i64 ((F58 s).2)) ∧ True := by cases hF; exact ⟨rfl, rfl, trivial⟩
def S58 (s : ByteArray) : Spec := ⟨[.r (.c (.v (.string s)))], .tu [.v (vI ((F58 s).1)), .v (vI ((F58 s).2))], s.size ≤ 1048576⟩
theorem ok58 (s : ByteArray) : (S58 s).ok Tryz.prog 58 :=
 Qj mixed (fn := Tryz.f58) (ct := .seq .no (.seq (.reg [(1, kh19 s 47)]) (.seq (.seq (.reg [(7, kh60 ((F19 s 47).getD (Int.toNat 0) default)), (14, Zt ((F19 s 47).getD (Int.toNat 1) default) 0 16)]) (.cond (.seq .no .no) .no)) (.seq (.reg [(3, kh60 ((F19 s 47).getD (Int.toNat 0) default))]) (.seq (.reg [(3, kh63 ((F19 s 47).getD (Int.toNat 1) default)), (4, kh102 (F63 ((F19 s 47).getD (Int.toNat 1) default)))]) (.seq (.seq .no (.cond (.seq .no .no) .no)) (.seq .no .no))))))) Tryz.func58 (fun (hpre0 : s.size ≤ 1048576) => kc19 s 47 (by omega) (by omega) (fun gv1 => ai (fun k2 : (((F19 s 47).length : Int) != 2) = false => have _ := bneF k2; (by omega : ib 0 (F19 s 47))) (kg60 (((F19 s 47).length : Int) != 2) false ((F19 s 47).getD (Int.toNat 0) default) (fun k3 => have _ := bneF k3; (by exact Zy _ _ (by omega) _)) (ai (fun k4 : (bif (((F19 s 47).length : Int) != 2) then true else decide ((F60 ((F19 s 47).getD (Int.toNat 0) default)) < 0)) = false => have _ := bneF (orF1 k4); have _ := of_decide_eq_false (orF2 k4); (by omega : ib 1 (F19 s 47))) (Zu (bif (((F19 s 47).length : Int) != 2) then true else decide ((F60 ((F19 s 47).getD (Int.toNat 0) default)) < 0)) false ((F19 s 47).getD (Int.toNat 1) default) 0 16 (fun k5 => have _ := bneF (orF1 k5); have _ := of_decide_eq_false (orF2 k5); (by exact Zy _ _ (by omega) _)) (ifb (bif (bif (((F19 s 47).length : Int) != 2) then true else decide ((F60 ((F19 s 47).getD (Int.toNat 0) default)) < 0)) then true else (!(decide (0 ≤ F63 ((F19 s 47).getD (Int.toNat 1) default) ∧ F63 ((F19 s 47).getD (Int.toNat 1) default) ≤ 16)))) (fun h6 => fi58 s ((-1), 0) (condT h6 rfl)) (fun h6 => have _ := bneF (orF1 (orF1 h6)); have _ := of_decide_eq_false (orF2 (orF1 h6)); have _ := of_decide_eq_true (Uw (orF2 h6)); ai (by omega : ib 0 (F19 s 47)) (kc60 ((F19 s 47).getD (Int.toNat 0) default) (by exact Zy _ _ (by omega) _) (ai (by omega : ib 1 (F19 s 47)) (kc63 ((F19 s 47).getD (Int.toNat 1) default) (by exact Zy _ _ (by omega) _) (kc102 (F63 ((F19 s 47).getD (Int.toNat 1) default)) (by omega) (by omega) (by omega) (fun gv7 gv8 => ai (by omega : ¬ (F102 (F63 ((F19 s 47).getD (Int.toNat 1) default))) = 0) (ifn ((F60 ((F19 s 47).getD (Int.toNat 0) default)).tmod (F102 (F63 ((F19 s 47).getD (Int.toNat 1) default)))) 0 (fun h9 _ => fi58 s ((-1), 0) (condF h6 (condT h9 rfl))) (fun h9 _ => fi58 s ((F60 ((F19 s 47).getD (Int.toNat 0) default)), (F102 (F63 ((F19 s 47).getD (Int.toNat 1) default)))) (condF h6 (condF h9 rfl)))))))))))))))) (by kernel_rfl)
theorem kc58 (s : ByteArray) {K_ : Prop} (p0_ : s.size ≤ 1048576) (k_ : K_) : (s.size ≤ 1048576) ∧ (Imp (.v (.string s)) (.v (.string s))) ∧ K_ := ⟨p0_, Imp.refl _, k_⟩
abbrev kh58 (s : ByteArray) : Hint true Tryz.prog := .call 58 (S58 s) (ok58 s) none
def F101 (s : ByteArray) : Bool :=
 decide ((F58 s).1 ≥ 0)
def S101 (s : ByteArray) : Spec := ⟨[.r (.c (.v (.string s)))], .v (.bool (F101 s)), s.size ≤ 1048576⟩
theorem ok101 (s : ByteArray) : (S101 s).ok Tryz.prog 101 :=
 Qj mixed (fn := Tryz.f101) (ct := .seq .no (.seq (.reg [(1, kh58 s)]) (.seq .no .no))) Tryz.func101 (fun (hpre0 : s.size ≤ 1048576) => kc58 s (by omega) (fiB (decide ((F58 s).1 ≥ 0)) (F101 s) rfl)) (by kernel_rfl)
theorem kg98 {K_ : Prop} (c_ b_ : Bool) (s : ByteArray) (p_ : c_ = b_ → s.size ≤ 1048576) (k_ : K_) : (c_ = b_ → s.size ≤ 1048576) ∧ (c_ = b_ → Imp (.v (.string s)) (.v (.string s))) ∧ K_ := ⟨p_, fun _ => Imp.refl _, k_⟩
abbrev kh98 (s : ByteArray) : Hint true Tryz.prog := .call 98 (S98 s) (ok98 s) none
theorem kg99 {K_ : Prop} (c_ b_ : Bool) (s : ByteArray) (p_ : c_ = b_ → s.size ≤ 1048576) (k_ : K_) : (c_ = b_ → s.size ≤ 1048576) ∧ (c_ = b_ → Imp (.v (.string s)) (.v (.string s))) ∧ K_ := ⟨p_, fun _ => Imp.refl _, k_⟩
abbrev kh99 (s : ByteArray) : Hint true Tryz.prog := .call 99 (S99 s) (ok99 s) none
theorem Qih {K_ : Prop} (c_ b_ : Bool) (s : ByteArray) (p_ : c_ = b_ → s.size ≤ 1048576) (k_ : K_) : (c_ = b_ → s.size ≤ 1048576) ∧ (c_ = b_ → Imp (.v (.string s)) (.v (.string s))) ∧ K_ := ⟨p_, fun _ => Imp.refl _, k_⟩
abbrev Qif (s : ByteArray) : Hint true Tryz.prog := .call 101 (S101 s) (ok101 s) none
abbrev w18_ : ByteArray := ⟨#[105, 110]⟩
abbrev w19_ : ByteArray := ⟨#[112, 101, 114, 109, 105, 116]⟩
abbrev w20_ : ByteArray := ⟨#[100, 101, 110, 121]⟩
def F51 (w1 : List ByteArray) : Bool :=
 bif ((w1.length : Int) == 0) then false else (bif ((w1.getD (Int.toNat 0) default).toList == (⟨#[104, 111, 115, 116]⟩ : ByteArray).toList) then (bif ((w1.length : Int) == 2) then (F98 (w1.getD (Int.toNat 1) default)) else false) else (bif ((w1.getD (Int.toNat 0) default).toList == (⟨#[117, 115, 101, 114]⟩ : ByteArray).toList) then (bif (bif ((w1.length : Int) == 3) then (F98 (w1.getD (Int.toNat 1) default)) else false) then (F99 (w1.getD (Int.toNat 2) default)) else false) else (bif ((w1.getD (Int.toNat 0) default).toList == (⟨#[112, 111, 114, 116]⟩ : ByteArray).toList) then (bif (bif (bif ((w1.length : Int) == 3) then true else (bif (bif ((w1.length : Int) == 5) then ((w1.getD (Int.toNat 3) default).toList == (⟨#[105, 110]⟩ : ByteArray).toList) else false) then (F98 (w1.getD (Int.toNat 4) default)) else false)) then (decide (0 ≤ F63 (w1.getD (Int.toNat 1) default) ∧ F63 (w1.getD (Int.toNat 1) default) ≤ 7)) else false) then (F101 (w1.getD (Int.toNat 2) default)) else false) else (bif ((w1.getD (Int.toNat 0) default).toList == (⟨#[114, 117, 108, 101]⟩ : ByteArray).toList) then (bif (bif (bif (bif (bif (bif ((w1.length : Int) == 7) then (F98 (w1.getD (Int.toNat 1) default)) else false) then (decide (0 ≤ F63 (w1.getD (Int.toNat 2) default) ∧ F63 (w1.getD (Int.toNat 2) default) ≤ 99)) else false) then (bif ((w1.getD (Int.toNat 3) default).toList == (⟨#[112, 101, 114, 109, 105, 116]⟩ : ByteArray).toList) then true else ((w1.getD (Int.toNat 3) default).toList == (⟨#[100, 101, 110, 121]⟩ : ByteArray).toList)) else false) then (F101 (w1.getD (Int.toNat 4) default)) else false) then (F101 (w1.getD (Int.toNat 5) default)) else false) then (decide (0 ≤ F63 (w1.getD (Int.toNat 6) default) ∧ F63 (w1.getD (Int.toNat 6) default) ≤ 7)) else false) else (bif ((w1.getD (Int.toNat 0) default).toList == (⟨#[114, 111, 117, 116, 101]⟩ : ByteArray).toList) then (bif (bif ((w1.length : Int) == 3) then (F101 (w1.getD (Int.toNat 1) default)) else false) then decide ((F60 (w1.getD (Int.toNat 2) default)) ≥ 0) else false) else (bif ((w1.getD (Int.toNat 0) default).toList == (⟨#[112, 101, 101, 114]⟩ : ByteArray).toList) then (bif (bif (bif ((w1.length : Int) == 4) then decide ((F60 (w1.getD (Int.toNat 1) default)) ≥ 0) else false) then (decide (1 ≤ F63 (w1.getD (Int.toNat 2) default) ∧ F63 (w1.getD (Int.toNat 2) default) ≤ 9)) else false) then (decide (1 ≤ F63 (w1.getD (Int.toNat 3) default) ∧ F63 (w1.getD (Int.toNat 3) default) ≤ 999999)) else false) else (bif ((w1.getD (Int.toNat 0) default).toList == (⟨#[110, 97, 116]⟩ : ByteArray).toList) then (bif (bif (bif (bif ((w1.length : Int) == 5) then (F101 (w1.getD (Int.toNat 1) default)) else false) then decide ((F60 (w1.getD (Int.toNat 2) default)) ≥ 0) else false) then (decide (1 ≤ F63 (w1.getD (Int.toNat 3) default) ∧ F63 (w1.getD (Int.toNat 3) default) ≤ 65535)) else false) then (decide (1 ≤ F63 (w1.getD (Int.toNat 4) default) ∧ F63 (w1.getD (Int.toNat 4) default) ≤ 65535)) else false) else (bif ((w1.getD (Int.toNat 0) default).toList == (⟨#[100, 111, 111, 114]⟩ : ByteArray).toList) then (bif (bif (bif (bif ((w1.length : Int) == 5) then (decide (1 ≤ F63 (w1.getD (Int.toNat 1) default) ∧ F63 (w1.getD (Int.toNat 1) default) ≤ 7)) else false) then (decide (1 ≤ F63 (w1.getD (Int.toNat 2) default) ∧ F63 (w1.getD (Int.toNat 2) default) ≤ 65535)) else false) then decide ((F60 (w1.getD (Int.toNat 3) default)) ≥ 0) else false) then (decide (1 ≤ F63 (w1.getD (Int.toNat 4) default) ∧ F63 (w1.getD (Int.toNat 4) default) ≤ 65535)) else false) else false))))))))
def S51 (w1 : List ByteArray) : Spec := ⟨[.r (.c (.l 1 eStr w1))], .v (.bool (F51 w1)), (∀ k : Nat, (w1.getD k default).size ≤ 1048576)⟩
theorem ok51 (w1 : List ByteArray) : (S51 w1).ok Tryz.prog 51 :=
 Qj mixed (fn := Tryz.f51) (ct := .seqk [(0, 0)] .no (.seq .no (.seq (.seq .no (.cond (.seq .no .no) .no)) (.seq (.seq .no (.blk (.seq .no (.cond (.seq (.reg [(6, kh98 (w1.getD (Int.toNat 1) default))]) .no) (.seq .no (.cond (.seq (.reg [(6, kh98 (w1.getD (Int.toNat 1) default)), (12, kh99 (w1.getD (Int.toNat 2) default))]) .no) (.seq .no (.cond (.seq (.reg [(15, kh98 (w1.getD (Int.toNat 4) default)), (22, Zt (w1.getD (Int.toNat 1) default) 0 7), (28, Qif (w1.getD (Int.toNat 2) default))]) .no) (.seq .no (.cond (.seq (.reg [(6, kh98 (w1.getD (Int.toNat 1) default)), (12, Zt (w1.getD (Int.toNat 2) default) 0 99), (30, Qif (w1.getD (Int.toNat 4) default)), (36, Qif (w1.getD (Int.toNat 5) default)), (42, Zt (w1.getD (Int.toNat 6) default) 0 7)]) .no) (.seq .no (.cond (.seq (.reg [(6, Qif (w1.getD (Int.toNat 1) default)), (12, kh60 (w1.getD (Int.toNat 2) default))]) .no) (.seq .no (.cond (.seq (.reg [(6, kh60 (w1.getD (Int.toNat 1) default)), (13, Zt (w1.getD (Int.toNat 2) default) 1 9), (19, Zt (w1.getD (Int.toNat 3) default) 1 999999)]) .no) (.seq .no (.cond (.seq (.reg [(6, Qif (w1.getD (Int.toNat 1) default)), (12, kh60 (w1.getD (Int.toNat 2) default)), (19, Zt (w1.getD (Int.toNat 3) default) 1 65535), (25, Zt (w1.getD (Int.toNat 4) default) 1 65535)]) .no) (.seq .no (.cond (.seq (.reg [(6, Zt (w1.getD (Int.toNat 1) default) 1 7), (12, Zt (w1.getD (Int.toNat 2) default) 1 65535), (18, kh60 (w1.getD (Int.toNat 3) default)), (25, Zt (w1.getD (Int.toNat 4) default) 1 65535)]) .no) .no)))))))))))))))))) (.seq .no .no))))) Tryz.func51 (fun (hpre0 : ∀ k : Nat, (w1.getD k default).size ≤ 1048576) => kn w1 fun _ => ife (w1.length : Int) 0 (fun h1 _ => fiB false (F51 w1) (condT h1 rfl)) (fun h1 _ => ai (by (omega) : 0 ≤ (0 : Int) ∧ (0 : Int) < (w1.length : Int)) (ifb ((w1.getD (Int.toNat 0) default).toList == w4_.toList) (fun h2 => ai (fun k3 : ((w1.length : Int) == 2) = true => have _ := eq_of_beq k3; (by (omega) : 0 ≤ (1 : Int) ∧ (1 : Int) < (w1.length : Int))) (kg98 ((w1.length : Int) == 2) true (w1.getD (Int.toNat 1) default) (fun k4 => have _ := eq_of_beq k4; (by exact hpre0 _)) (fiB (bif ((w1.length : Int) == 2) then (F98 (w1.getD (Int.toNat 1) default)) else false) (F51 w1) (condF h1 (condT h2 rfl))))) (fun h2 => ifb ((w1.getD (Int.toNat 0) default).toList == w10_.toList) (fun h5 => ai (fun k6 : ((w1.length : Int) == 3) = true => have _ := eq_of_beq k6; (by (omega) : 0 ≤ (1 : Int) ∧ (1 : Int) < (w1.length : Int))) (kg98 ((w1.length : Int) == 3) true (w1.getD (Int.toNat 1) default) (fun k7 => have _ := eq_of_beq k7; (by exact hpre0 _)) (ai (fun k8 : (bif ((w1.length : Int) == 3) then (F98 (w1.getD (Int.toNat 1) default)) else false) = true => have _ := eq_of_beq (Qi k8); (by (omega) : 0 ≤ (2 : Int) ∧ (2 : Int) < (w1.length : Int))) (kg99 (bif ((w1.length : Int) == 3) then (F98 (w1.getD (Int.toNat 1) default)) else false) true (w1.getD (Int.toNat 2) default) (fun k9 => have _ := eq_of_beq (Qi k9); (by exact hpre0 _)) (fiB (bif (bif ((w1.length : Int) == 3) then (F98 (w1.getD (Int.toNat 1) default)) else false) then (F99 (w1.getD (Int.toNat 2) default)) else false) (F51 w1) (condF h1 (condF h2 (condT h5 rfl)))))))) (fun h5 => ifb ((w1.getD (Int.toNat 0) default).toList == w7_.toList) (fun h10 => ai (fun k12 : ((w1.length : Int) == 5) = true => have _ := eq_of_beq k12; (fun k11 : ((w1.length : Int) == 3) = false => have _ := beqF k11; (by (omega) : 0 ≤ (3 : Int) ∧ (3 : Int) < (w1.length : Int)))) (ai (fun k14 : (bif ((w1.length : Int) == 5) then ((w1.getD (Int.toNat 3) default).toList == w18_.toList) else false) = true => have _ := eq_of_beq (Qi k14); have _ : ((w1.getD (Int.toNat 3) default).toList == w18_.toList) = true := (Qt k14); (fun k13 : ((w1.length : Int) == 3) = false => have _ := beqF k13; (by (omega) : 0 ≤ (4 : Int) ∧ (4 : Int) < (w1.length : Int)))) (ai (fun k16 : (bif ((w1.length : Int) == 5) then ((w1.getD (Int.toNat 3) default).toList == w18_.toList) else false) = true => have _ := eq_of_beq (Qi k16); have _ : ((w1.getD (Int.toNat 3) default).toList == w18_.toList) = true := (Qt k16); (fun k15 : ((w1.length : Int) == 3) = false => have _ := beqF k15; (by exact hpre0 _ : (w1.getD (Int.toNat 4) default).size ≤ 1048576))) (ai (fun k18 : (bif ((w1.length : Int) == 5) then ((w1.getD (Int.toNat 3) default).toList == w18_.toList) else false) = true => have _ := eq_of_beq (Qi k18); have _ : ((w1.getD (Int.toNat 3) default).toList == w18_.toList) = true := (Qt k18); (fun k17 : ((w1.length : Int) == 3) = false => have _ := beqF k17; (Imp.refl (.v (.string (w1.getD (Int.toNat 4) default)))))) (ai (fun k19 : (bif ((w1.length : Int) == 3) then true else (bif (bif ((w1.length : Int) == 5) then ((w1.getD (Int.toNat 3) default).toList == w18_.toList) else false) then (F98 (w1.getD (Int.toNat 4) default)) else false)) = true => (by (rcases Classical.em ((w1.length : Int) = 3) with h3 | h3; omega; (rcases Classical.em ((w1.length : Int) = 5) with h5 | h5; omega; (have e3 : ((w1.length : Int) == 3) = false := beq_eq_false_iff_ne.2 h3; have e5 : ((w1.length : Int) == 5) = false := beq_eq_false_iff_ne.2 h5; simp [e3, e5] at *))) : 0 ≤ (1 : Int) ∧ (1 : Int) < (w1.length : Int))) (Zu (bif ((w1.length : Int) == 3) then true else (bif (bif ((w1.length : Int) == 5) then ((w1.getD (Int.toNat 3) default).toList == w18_.toList) else false) then (F98 (w1.getD (Int.toNat 4) default)) else false)) true (w1.getD (Int.toNat 1) default) 0 7 (fun k20 => (by exact hpre0 _)) (ai (fun k21 : (bif (bif ((w1.length : Int) == 3) then true else (bif (bif ((w1.length : Int) == 5) then ((w1.getD (Int.toNat 3) default).toList == w18_.toList) else false) then (F98 (w1.getD (Int.toNat 4) default)) else false)) then (decide (0 ≤ F63 (w1.getD (Int.toNat 1) default) ∧ F63 (w1.getD (Int.toNat 1) default) ≤ 7)) else false) = true => have _ := of_decide_eq_true (Qt k21); (by (rcases Classical.em ((w1.length : Int) = 3) with h3 | h3; omega; (rcases Classical.em ((w1.length : Int) = 5) with h5 | h5; omega; (have e3 : ((w1.length : Int) == 3) = false := beq_eq_false_iff_ne.2 h3; have e5 : ((w1.length : Int) == 5) = false := beq_eq_false_iff_ne.2 h5; simp [e3, e5] at *))) : 0 ≤ (2 : Int) ∧ (2 : Int) < (w1.length : Int))) (Qih (bif (bif ((w1.length : Int) == 3) then true else (bif (bif ((w1.length : Int) == 5) then ((w1.getD (Int.toNat 3) default).toList == w18_.toList) else false) then (F98 (w1.getD (Int.toNat 4) default)) else false)) then (decide (0 ≤ F63 (w1.getD (Int.toNat 1) default) ∧ F63 (w1.getD (Int.toNat 1) default) ≤ 7)) else false) true (w1.getD (Int.toNat 2) default) (fun k22 => have _ := of_decide_eq_true (Qt k22); (by exact hpre0 _)) (fiB (bif (bif (bif ((w1.length : Int) == 3) then true else (bif (bif ((w1.length : Int) == 5) then ((w1.getD (Int.toNat 3) default).toList == w18_.toList) else false) then (F98 (w1.getD (Int.toNat 4) default)) else false)) then (decide (0 ≤ F63 (w1.getD (Int.toNat 1) default) ∧ F63 (w1.getD (Int.toNat 1) default) ≤ 7)) else false) then (F101 (w1.getD (Int.toNat 2) default)) else false) (F51 w1) (condF h1 (condF h2 (condF h5 (condT h10 rfl))))))))))))) (fun h10 => ifb ((w1.getD (Int.toNat 0) default).toList == w9_.toList) (fun h23 => ai (fun k24 : ((w1.length : Int) == 7) = true => have _ := eq_of_beq k24; (by (omega) : 0 ≤ (1 : Int) ∧ (1 : Int) < (w1.length : Int))) (kg98 ((w1.length : Int) == 7) true (w1.getD (Int.toNat 1) default) (fun k25 => have _ := eq_of_beq k25; (by exact hpre0 _)) (ai (fun k26 : (bif ((w1.length : Int) == 7) then (F98 (w1.getD (Int.toNat 1) default)) else false) = true => have _ := eq_of_beq (Qi k26); (by (omega) : 0 ≤ (2 : Int) ∧ (2 : Int) < (w1.length : Int))) (Zu (bif ((w1.length : Int) == 7) then (F98 (w1.getD (Int.toNat 1) default)) else false) true (w1.getD (Int.toNat 2) default) 0 99 (fun k27 => have _ := eq_of_beq (Qi k27); (by exact hpre0 _)) (ai (fun k28 : (bif (bif ((w1.length : Int) == 7) then (F98 (w1.getD (Int.toNat 1) default)) else false) then (decide (0 ≤ F63 (w1.getD (Int.toNat 2) default) ∧ F63 (w1.getD (Int.toNat 2) default) ≤ 99)) else false) = true => have _ := eq_of_beq (Qi (Qi k28)); have _ := of_decide_eq_true (Qt k28); (by (omega) : 0 ≤ (3 : Int) ∧ (3 : Int) < (w1.length : Int))) (ai (fun k30 : ((w1.getD (Int.toNat 3) default).toList == w19_.toList) = false => (fun k29 : (bif (bif ((w1.length : Int) == 7) then (F98 (w1.getD (Int.toNat 1) default)) else false) then (decide (0 ≤ F63 (w1.getD (Int.toNat 2) default) ∧ F63 (w1.getD (Int.toNat 2) default) ≤ 99)) else false) = true => have _ := eq_of_beq (Qi (Qi k29)); have _ := of_decide_eq_true (Qt k29); (by (omega) : 0 ≤ (3 : Int) ∧ (3 : Int) < (w1.length : Int)))) (ai (fun k31 : (bif (bif (bif ((w1.length : Int) == 7) then (F98 (w1.getD (Int.toNat 1) default)) else false) then (decide (0 ≤ F63 (w1.getD (Int.toNat 2) default) ∧ F63 (w1.getD (Int.toNat 2) default) ≤ 99)) else false) then (bif ((w1.getD (Int.toNat 3) default).toList == w19_.toList) then true else ((w1.getD (Int.toNat 3) default).toList == w20_.toList)) else false) = true => have _ := eq_of_beq (Qi (Qi (Qi k31))); have _ := of_decide_eq_true (Qt (Qi k31)); (by (omega) : 0 ≤ (4 : Int) ∧ (4 : Int) < (w1.length : Int))) (Qih (bif (bif (bif ((w1.length : Int) == 7) then (F98 (w1.getD (Int.toNat 1) default)) else false) then (decide (0 ≤ F63 (w1.getD (Int.toNat 2) default) ∧ F63 (w1.getD (Int.toNat 2) default) ≤ 99)) else false) then (bif ((w1.getD (Int.toNat 3) default).toList == w19_.toList) then true else ((w1.getD (Int.toNat 3) default).toList == w20_.toList)) else false) true (w1.getD (Int.toNat 4) default) (fun k32 => have _ := eq_of_beq (Qi (Qi (Qi k32))); have _ := of_decide_eq_true (Qt (Qi k32)); (by exact hpre0 _)) (ai (fun k33 : (bif (bif (bif (bif ((w1.length : Int) == 7) then (F98 (w1.getD (Int.toNat 1) default)) else false) then (decide (0 ≤ F63 (w1.getD (Int.toNat 2) default) ∧ F63 (w1.getD (Int.toNat 2) default) ≤ 99)) else false) then (bif ((w1.getD (Int.toNat 3) default).toList == w19_.toList) then true else ((w1.getD (Int.toNat 3) default).toList == w20_.toList)) else false) then (F101 (w1.getD (Int.toNat 4) default)) else false) = true => have _ := eq_of_beq (Qi (Qi (Qi (Qi k33)))); have _ := of_decide_eq_true (Qt (Qi (Qi k33))); (by (omega) : 0 ≤ (5 : Int) ∧ (5 : Int) < (w1.length : Int))) (Qih (bif (bif (bif (bif ((w1.length : Int) == 7) then (F98 (w1.getD (Int.toNat 1) default)) else false) then (decide (0 ≤ F63 (w1.getD (Int.toNat 2) default) ∧ F63 (w1.getD (Int.toNat 2) default) ≤ 99)) else false) then (bif ((w1.getD (Int.toNat 3) default).toList == w19_.toList) then true else ((w1.getD (Int.toNat 3) default).toList == w20_.toList)) else false) then (F101 (w1.getD (Int.toNat 4) default)) else false) true (w1.getD (Int.toNat 5) default) (fun k34 => have _ := eq_of_beq (Qi (Qi (Qi (Qi k34)))); have _ := of_decide_eq_true (Qt (Qi (Qi k34))); (by exact hpre0 _)) (ai (fun k35 : (bif (bif (bif (bif (bif ((w1.length : Int) == 7) then (F98 (w1.getD (Int.toNat 1) default)) else false) then (decide (0 ≤ F63 (w1.getD (Int.toNat 2) default) ∧ F63 (w1.getD (Int.toNat 2) default) ≤ 99)) else false) then (bif ((w1.getD (Int.toNat 3) default).toList == w19_.toList) then true else ((w1.getD (Int.toNat 3) default).toList == w20_.toList)) else false) then (F101 (w1.getD (Int.toNat 4) default)) else false) then (F101 (w1.getD (Int.toNat 5) default)) else false) = true => have _ := eq_of_beq (Qi (Qi (Qi (Qi (Qi k35))))); have _ := of_decide_eq_true (Qt (Qi (Qi (Qi k35)))); (by (omega) : 0 ≤ (6 : Int) ∧ (6 : Int) < (w1.length : Int))) (Zu (bif (bif (bif (bif (bif ((w1.length : Int) == 7) then (F98 (w1.getD (Int.toNat 1) default)) else false) then (decide (0 ≤ F63 (w1.getD (Int.toNat 2) default) ∧ F63 (w1.getD (Int.toNat 2) default) ≤ 99)) else false) then (bif ((w1.getD (Int.toNat 3) default).toList == w19_.toList) then true else ((w1.getD (Int.toNat 3) default).toList == w20_.toList)) else false) then (F101 (w1.getD (Int.toNat 4) default)) else false) then (F101 (w1.getD (Int.toNat 5) default)) else false) true (w1.getD (Int.toNat 6) default) 0 7 (fun k36 => have _ := eq_of_beq (Qi (Qi (Qi (Qi (Qi k36))))); have _ := of_decide_eq_true (Qt (Qi (Qi (Qi k36)))); (by exact hpre0 _)) (fiB (bif (bif (bif (bif (bif (bif ((w1.length : Int) == 7) then (F98 (w1.getD (Int.toNat 1) default)) else false) then (decide (0 ≤ F63 (w1.getD (Int.toNat 2) default) ∧ F63 (w1.getD (Int.toNat 2) default) ≤ 99)) else false) then (bif ((w1.getD (Int.toNat 3) default).toList == w19_.toList) then true else ((w1.getD (Int.toNat 3) default).toList == w20_.toList)) else false) then (F101 (w1.getD (Int.toNat 4) default)) else false) then (F101 (w1.getD (Int.toNat 5) default)) else false) then (decide (0 ≤ F63 (w1.getD (Int.toNat 6) default) ∧ F63 (w1.getD (Int.toNat 6) default) ≤ 7)) else false) (F51 w1) (condF h1 (condF h2 (condF h5 (condF h10 (condT h23 rfl)))))))))))))))))) (fun h23 => ifb ((w1.getD (Int.toNat 0) default).toList == w8_.toList) (fun h37 => ai (fun k38 : ((w1.length : Int) == 3) = true => have _ := eq_of_beq k38; (by (omega) : 0 ≤ (1 : Int) ∧ (1 : Int) < (w1.length : Int))) (Qih ((w1.length : Int) == 3) true (w1.getD (Int.toNat 1) default) (fun k39 => have _ := eq_of_beq k39; (by exact hpre0 _)) (ai (fun k40 : (bif ((w1.length : Int) == 3) then (F101 (w1.getD (Int.toNat 1) default)) else false) = true => have _ := eq_of_beq (Qi k40); (by (omega) : 0 ≤ (2 : Int) ∧ (2 : Int) < (w1.length : Int))) (kg60 (bif ((w1.length : Int) == 3) then (F101 (w1.getD (Int.toNat 1) default)) else false) true (w1.getD (Int.toNat 2) default) (fun k41 => have _ := eq_of_beq (Qi k41); (by exact hpre0 _)) (fiB (bif (bif ((w1.length : Int) == 3) then (F101 (w1.getD (Int.toNat 1) default)) else false) then decide ((F60 (w1.getD (Int.toNat 2) default)) ≥ 0) else false) (F51 w1) (condF h1 (condF h2 (condF h5 (condF h10 (condF h23 (condT h37 rfl))))))))))) (fun h37 => ifb ((w1.getD (Int.toNat 0) default).toList == w6_.toList) (fun h42 => ai (fun k43 : ((w1.length : Int) == 4) = true => have _ := eq_of_beq k43; (by (omega) : 0 ≤ (1 : Int) ∧ (1 : Int) < (w1.length : Int))) (kg60 ((w1.length : Int) == 4) true (w1.getD (Int.toNat 1) default) (fun k44 => have _ := eq_of_beq k44; (by exact hpre0 _)) (ai (fun k45 : (bif ((w1.length : Int) == 4) then decide ((F60 (w1.getD (Int.toNat 1) default)) ≥ 0) else false) = true => have _ := eq_of_beq (Qi k45); have _ := of_decide_eq_true (Qt k45); (by (omega) : 0 ≤ (2 : Int) ∧ (2 : Int) < (w1.length : Int))) (Zu (bif ((w1.length : Int) == 4) then decide ((F60 (w1.getD (Int.toNat 1) default)) ≥ 0) else false) true (w1.getD (Int.toNat 2) default) 1 9 (fun k46 => have _ := eq_of_beq (Qi k46); have _ := of_decide_eq_true (Qt k46); (by exact hpre0 _)) (ai (fun k47 : (bif (bif ((w1.length : Int) == 4) then decide ((F60 (w1.getD (Int.toNat 1) default)) ≥ 0) else false) then (decide (1 ≤ F63 (w1.getD (Int.toNat 2) default) ∧ F63 (w1.getD (Int.toNat 2) default) ≤ 9)) else false) = true => have _ := eq_of_beq (Qi (Qi k47)); have _ := of_decide_eq_true (Qt (Qi k47)); have _ := of_decide_eq_true (Qt k47); (by (omega) : 0 ≤ (3 : Int) ∧ (3 : Int) < (w1.length : Int))) (Zu (bif (bif ((w1.length : Int) == 4) then decide ((F60 (w1.getD (Int.toNat 1) default)) ≥ 0) else false) then (decide (1 ≤ F63 (w1.getD (Int.toNat 2) default) ∧ F63 (w1.getD (Int.toNat 2) default) ≤ 9)) else false) true (w1.getD (Int.toNat 3) default) 1 999999 (fun k48 => have _ := eq_of_beq (Qi (Qi k48)); have _ := of_decide_eq_true (Qt (Qi k48)); have _ := of_decide_eq_true (Qt k48); (by exact hpre0 _)) (fiB (bif (bif (bif ((w1.length : Int) == 4) then decide ((F60 (w1.getD (Int.toNat 1) default)) ≥ 0) else false) then (decide (1 ≤ F63 (w1.getD (Int.toNat 2) default) ∧ F63 (w1.getD (Int.toNat 2) default) ≤ 9)) else false) then (decide (1 ≤ F63 (w1.getD (Int.toNat 3) default) ∧ F63 (w1.getD (Int.toNat 3) default) ≤ 999999)) else false) (F51 w1) (condF h1 (condF h2 (condF h5 (condF h10 (condF h23 (condF h37 (condT h42 rfl)))))))))))))) (fun h42 => ifb ((w1.getD (Int.toNat 0) default).toList == w5_.toList) (fun h49 => ai (fun k50 : ((w1.length : Int) == 5) = true => have _ := eq_of_beq k50; (by (omega) : 0 ≤ (1 : Int) ∧ (1 : Int) < (w1.length : Int))) (Qih ((w1.length : Int) == 5) true (w1.getD (Int.toNat 1) default) (fun k51 => have _ := eq_of_beq k51; (by exact hpre0 _)) (ai (fun k52 : (bif ((w1.length : Int) == 5) then (F101 (w1.getD (Int.toNat 1) default)) else false) = true => have _ := eq_of_beq (Qi k52); (by (omega) : 0 ≤ (2 : Int) ∧ (2 : Int) < (w1.length : Int))) (kg60 (bif ((w1.length : Int) == 5) then (F101 (w1.getD (Int.toNat 1) default)) else false) true (w1.getD (Int.toNat 2) default) (fun k53 => have _ := eq_of_beq (Qi k53); (by exact hpre0 _)) (ai (fun k54 : (bif (bif ((w1.length : Int) == 5) then (F101 (w1.getD (Int.toNat 1) default)) else false) then decide ((F60 (w1.getD (Int.toNat 2) default)) ≥ 0) else false) = true => have _ := eq_of_beq (Qi (Qi k54)); have _ := of_decide_eq_true (Qt k54); (by (omega) : 0 ≤ (3 : Int) ∧ (3 : Int) < (w1.length : Int))) (Zu (bif (bif ((w1.length : Int) == 5) then (F101 (w1.getD (Int.toNat 1) default)) else false) then decide ((F60 (w1.getD (Int.toNat 2) default)) ≥ 0) else false) true (w1.getD (Int.toNat 3) default) 1 65535 (fun k55 => have _ := eq_of_beq (Qi (Qi k55)); have _ := of_decide_eq_true (Qt k55); (by exact hpre0 _)) (ai (fun k56 : (bif (bif (bif ((w1.length : Int) == 5) then (F101 (w1.getD (Int.toNat 1) default)) else false) then decide ((F60 (w1.getD (Int.toNat 2) default)) ≥ 0) else false) then (decide (1 ≤ F63 (w1.getD (Int.toNat 3) default) ∧ F63 (w1.getD (Int.toNat 3) default) ≤ 65535)) else false) = true => have _ := eq_of_beq (Qi (Qi (Qi k56))); have _ := of_decide_eq_true (Qt (Qi k56)); have _ := of_decide_eq_true (Qt k56); (by (omega) : 0 ≤ (4 : Int) ∧ (4 : Int) < (w1.length : Int))) (Zu (bif (bif (bif ((w1.length : Int) == 5) then (F101 (w1.getD (Int.toNat 1) default)) else false) then decide ((F60 (w1.getD (Int.toNat 2) default)) ≥ 0) else false) then (decide (1 ≤ F63 (w1.getD (Int.toNat 3) default) ∧ F63 (w1.getD (Int.toNat 3) default) ≤ 65535)) else false) true (w1.getD (Int.toNat 4) default) 1 65535 (fun k57 => have _ := eq_of_beq (Qi (Qi (Qi k57))); have _ := of_decide_eq_true (Qt (Qi k57)); have _ := of_decide_eq_true (Qt k57); (by exact hpre0 _)) (fiB (bif (bif (bif (bif ((w1.length : Int) == 5) then (F101 (w1.getD (Int.toNat 1) default)) else false) then decide ((F60 (w1.getD (Int.toNat 2) default)) ≥ 0) else false) then (decide (1 ≤ F63 (w1.getD (Int.toNat 3) default) ∧ F63 (w1.getD (Int.toNat 3) default) ≤ 65535)) else false) then (decide (1 ≤ F63 (w1.getD (Int.toNat 4) default) ∧ F63 (w1.getD (Int.toNat 4) default) ≤ 65535)) else false) (F51 w1) (condF h1 (condF h2 (condF h5 (condF h10 (condF h23 (condF h37 (condF h42 (condT h49 rfl))))))))))))))))) (fun h49 => ifb ((w1.getD (Int.toNat 0) default).toList == w3_.toList) (fun h58 => ai (fun k59 : ((w1.length : Int) == 5) = true => have _ := eq_of_beq k59; (by (omega) : 0 ≤ (1 : Int) ∧ (1 : Int) < (w1.length : Int))) (Zu ((w1.length : Int) == 5) true (w1.getD (Int.toNat 1) default) 1 7 (fun k60 => have _ := eq_of_beq k60; (by exact hpre0 _)) (ai (fun k61 : (bif ((w1.length : Int) == 5) then (decide (1 ≤ F63 (w1.getD (Int.toNat 1) default) ∧ F63 (w1.getD (Int.toNat 1) default) ≤ 7)) else false) = true => have _ := eq_of_beq (Qi k61); have _ := of_decide_eq_true (Qt k61); (by (omega) : 0 ≤ (2 : Int) ∧ (2 : Int) < (w1.length : Int))) (Zu (bif ((w1.length : Int) == 5) then (decide (1 ≤ F63 (w1.getD (Int.toNat 1) default) ∧ F63 (w1.getD (Int.toNat 1) default) ≤ 7)) else false) true (w1.getD (Int.toNat 2) default) 1 65535 (fun k62 => have _ := eq_of_beq (Qi k62); have _ := of_decide_eq_true (Qt k62); (by exact hpre0 _)) (ai (fun k63 : (bif (bif ((w1.length : Int) == 5) then (decide (1 ≤ F63 (w1.getD (Int.toNat 1) default) ∧ F63 (w1.getD (Int.toNat 1) default) ≤ 7)) else false) then (decide (1 ≤ F63 (w1.getD (Int.toNat 2) default) ∧ F63 (w1.getD (Int.toNat 2) default) ≤ 65535)) else false) = true => have _ := eq_of_beq (Qi (Qi k63)); have _ := of_decide_eq_true (Qt (Qi k63)); have _ := of_decide_eq_true (Qt k63); (by (omega) : 0 ≤ (3 : Int) ∧ (3 : Int) < (w1.length : Int))) (kg60 (bif (bif ((w1.length : Int) == 5) then (decide (1 ≤ F63 (w1.getD (Int.toNat 1) default) ∧ F63 (w1.getD (Int.toNat 1) default) ≤ 7)) else false) then (decide (1 ≤ F63 (w1.getD (Int.toNat 2) default) ∧ F63 (w1.getD (Int.toNat 2) default) ≤ 65535)) else false) true (w1.getD (Int.toNat 3) default) (fun k64 => have _ := eq_of_beq (Qi (Qi k64)); have _ := of_decide_eq_true (Qt (Qi k64)); have _ := of_decide_eq_true (Qt k64); (by exact hpre0 _)) (ai (fun k65 : (bif (bif (bif ((w1.length : Int) == 5) then (decide (1 ≤ F63 (w1.getD (Int.toNat 1) default) ∧ F63 (w1.getD (Int.toNat 1) default) ≤ 7)) else false) then (decide (1 ≤ F63 (w1.getD (Int.toNat 2) default) ∧ F63 (w1.getD (Int.toNat 2) default) ≤ 65535)) else false) then decide ((F60 (w1.getD (Int.toNat 3) default)) ≥ 0) else false) = true => have _ := eq_of_beq (Qi (Qi (Qi k65))); have _ := of_decide_eq_true (Qt (Qi (Qi k65))); have _ := of_decide_eq_true (Qt (Qi k65)); have _ := of_decide_eq_true (Qt k65); (by (omega) : 0 ≤ (4 : Int) ∧ (4 : Int) < (w1.length : Int))) (Zu (bif (bif (bif ((w1.length : Int) == 5) then (decide (1 ≤ F63 (w1.getD (Int.toNat 1) default) ∧ F63 (w1.getD (Int.toNat 1) default) ≤ 7)) else false) then (decide (1 ≤ F63 (w1.getD (Int.toNat 2) default) ∧ F63 (w1.getD (Int.toNat 2) default) ≤ 65535)) else false) then decide ((F60 (w1.getD (Int.toNat 3) default)) ≥ 0) else false) true (w1.getD (Int.toNat 4) default) 1 65535 (fun k66 => have _ := eq_of_beq (Qi (Qi (Qi k66))); have _ := of_decide_eq_true (Qt (Qi (Qi k66))); have _ := of_decide_eq_true (Qt (Qi k66)); have _ := of_decide_eq_true (Qt k66); (by exact hpre0 _)) (fiB (bif (bif (bif (bif ((w1.length : Int) == 5) then (decide (1 ≤ F63 (w1.getD (Int.toNat 1) default) ∧ F63 (w1.getD (Int.toNat 1) default) ≤ 7)) else false) then (decide (1 ≤ F63 (w1.getD (Int.toNat 2) default) ∧ F63 (w1.getD (Int.toNat 2) default) ≤ 65535)) else false) then decide ((F60 (w1.getD (Int.toNat 3) default)) ≥ 0) else false) then (decide (1 ≤ F63 (w1.getD (Int.toNat 4) default) ∧ F63 (w1.getD (Int.toNat 4) default) ≤ 65535)) else false) (F51 w1) (condF h1 (condF h2 (condF h5 (condF h10 (condF h23 (condF h37 (condF h42 (condF h49 (condT h58 rfl)))))))))))))))))) (fun h58 => fiB false (F51 w1) (condF h1 (condF h2 (condF h5 (condF h10 (condF h23 (condF h37 (condF h42 (condF h49 (condF h58 rfl)))))))))))))))))))) (by kernel_rfl)
def Ky (list : List ByteArray) (with' : ByteArray) : (ByteArray × Int) → Lp (ByteArray × Int) ByteArray := fun (out, i40) =>
 bif (decide (i40 < (list.length : Int))) then (bif (decide (i40 > 0)) then (.next (((out ++ with') ++ (list.getD (Int.toNat i40) default)), (i40 + 1))) else (.next ((out ++ (list.getD (Int.toNat i40) default)), (i40 + 1)))) else (.done (out, i40))
def F52 (list : List ByteArray) (with' : ByteArray) : ByteArray :=
 (runL (Ky list with') ((Int.toNat ((list.length : Int) - 0)) + 1) ((⟨#[]⟩ : ByteArray), 0)).fin (fun r => r) (fun (out, i40) => out)
abbrev Qbr (list : List ByteArray) : Nat × (ByteArray × Int) := (((Int.toNat ((list.length : Int) - 0)) + 1), (w13_, 0))
abbrev Qlt (list : List ByteArray) (m39 : Nat) (out : ByteArray) (i40 : Int) : Prop := Int.toNat ((list.length : Int) - i40) < m39 ∧ (out.size : Int) ≤ i40 * 1048577 ∧ (0 : Int) ≤ i40
abbrev Quf (list : List ByteArray) (with' : ByteArray) : Lp (ByteArray × Int) ByteArray := LpX (Ky list with') (Qbr list)
abbrev Tv (list : List ByteArray) (with' : ByteArray) (i : Nat × (ByteArray × Int)) : Prop := LpJ (Ky list with') (Qbr list) i (Qlt list i.1 i.2.1 i.2.2)
abbrev Qwo (list : List ByteArray) (with' : ByteArray) (i : Nat × (ByteArray × Int)) (m39 : Nat) (out : ByteArray) (i40 : Int) : Prop := LpH (Ky list with') (Qbr list) i m39 (out, i40) (Qlt list (m39 + 1) out i40)
abbrev Qys (list : List ByteArray) (with' : ByteArray) (out : ByteArray) (i40 : Int) (out_ : ByteArray) (i40_ : Int) (K39 : Prop) : Prop := (Rf (.string with')) ∧ ((.string out : Value) = .string out_) ∧ ((.int .i64 i40 : Value) = .int .i64 i40_) ∧ (Im (.l 1 eStr list)) ∧ K39
theorem un52_0 (list : List ByteArray) (with' : ByteArray) (i : Nat × (ByteArray × Int)) (h : Tv list with' i) : Qwo list with' i (i.1 - 1) i.2.1 i.2.2 := ⟨hd1 h.1 h.2.1, hd3 h.2.1, hd2 h.2.1, h.2.2⟩
theorem Qsi (list : List ByteArray) (with' : ByteArray) (i : Nat × (ByteArray × Int)) (m39 : Nat) (out : ByteArray) (i40 : Int) (hl : m39 < i.1) (e : runL (Ky list with') m39 (out, i40) = Quf list with') (h : Qlt list m39 out i40) : ∃ j : Nat × (ByteArray × Int), Qys list with' out i40 j.2.1 j.2.2 (Tv list with' j ∧ j.1 < i.1) := ⟨(m39, (out, i40)), rfl, rfl, rfl, Imp.refl _, ⟨e, h⟩, hl⟩
theorem en52_0 (list : List ByteArray) (with' : ByteArray) (h : (w13_.size : Int) ≤ 0 * 1048577 ∧ (0 : Int) ≤ 0) : Qys list with' w13_ 0 w13_ 0 (Tv list with' (Qbr list)) := ⟨rfl, rfl, rfl, Imp.refl _, rfl, Nat.lt_succ_self _, h⟩
def S52 (list : List ByteArray) (with' : ByteArray) : Spec := ⟨[.r (.c (.l 1 eStr list)), .r (.c (.v (.string with')))], .v (.string (F52 list with')), list.length ≤ 8 ∧ (∀ k : Nat, (list.getD k default).size ≤ 1048576) ∧ with'.size ≤ 1⟩
theorem ok52 (list : List ByteArray) (with' : ByteArray) : (S52 list with').ok Tryz.prog 52 :=
 Qj mixed (fn := Tryz.f52) (ct := .seqk [(0, 0)] .no (.seq .no (.seq (.seqk [(0, 0)] .no (.blk (.loop (ι := Nat × (ByteArray × Int)) (fun i => (fun (out : ByteArray) (i40 : Int) => (⟨[(0, some (.h 0 0)), (1, some (.v (.string with'))), (5, some (.v (.string out))), (6, some (.v (vI i40)))], [(0, some (.shr none (.l 1 eStr list)))], 1⟩ : St)) i.2.1 i.2.2) (Tv list with') (fun i => i.1) (Qbr list) (fun i => (fun (out : ByteArray) (i40 : Int) => (.seq (.seq .no (.cond .no .no)) (.seq (.blk (.seq (.seq .no (.cond .no .no)) .no)) (.reg [(1, .bnd)])))) i.2.1 i.2.2)))) (.seq .no .no)))) Tryz.func52 (fun (hp : list.length ≤ 8 ∧ (∀ k : Nat, (list.getD k default).size ≤ 1048576) ∧ with'.size ≤ 1) => have hpre0 := hp.1; have hpre1 := hp.2.1; have hpre2 := hp.2.2; kn list fun _ => kn list fun _ => ai (en52_0 list with' (by refine ⟨?_, ?_⟩ <;> ((try simp only [Qh, sz0] at *); omega))) (fun (i0 : Nat × (ByteArray × Int)) (hi0 : Tv list with' i0) => (fun (m0 : Nat) (out : ByteArray) (i40 : Int) (hh0 : Qwo list with' i0 m0 out i40) => have hI0 := hh0.1; have hl0 := hh0.2.1; have _ := hh0.2.2.1; have _ := hh0.2.2.2; ifd (i40 < (list.length : Int)) (fun h2 _ => ifd (i40 > 0) (fun h3 _ => ai (by have hz := (by assumption : ∀ k : Nat, (list.getD k default).size ≤ 1048576) (Int.toNat i40); (try simp only [Qh, sz0] at *); omega : ((out.size + with'.size : Nat) : Int) ≤ 9223372036854775807) (ai (by omega : ib i40 list) (ai (by have hz := (by assumption : ∀ k : Nat, (list.getD k default).size ≤ 1048576) (Int.toNat i40); (try simp only [Qh, sz0] at *); omega : (((out ++ with').size + (list.getD (Int.toNat i40) default).size : Nat) : Int) ≤ 9223372036854775807) (ai (iok (i40 + 1) (by omega)) (Qsi list with' i0 m0 ((out ++ with') ++ (list.getD (Int.toNat i40) default)) (i40 + 1) hl0 (Qd hI0 (condT h2 (condT h3 rfl))) (by refine ⟨?_, ?_, ?_⟩ <;> (have hz := (by assumption : ∀ k : Nat, (list.getD k default).size ≤ 1048576) (Int.toNat i40); (try simp only [Qh, sz0] at *); omega))))))) (fun h3 _ => ai (by omega : ib i40 list) (ai (by have hz := (by assumption : ∀ k : Nat, (list.getD k default).size ≤ 1048576) (Int.toNat i40); (try simp only [Qh, sz0] at *); omega : ((out.size + (list.getD (Int.toNat i40) default).size : Nat) : Int) ≤ 9223372036854775807) (ai (iok (i40 + 1) (by omega)) (Qsi list with' i0 m0 (out ++ (list.getD (Int.toNat i40) default)) (i40 + 1) hl0 (Qd hI0 (condT h2 (condF h3 rfl))) (by refine ⟨?_, ?_, ?_⟩ <;> (have hz := (by assumption : ∀ k : Nat, (list.getD k default).size ≤ 1048576) (Int.toNat i40); (try simp only [Qh, sz0] at *); omega))))))) (fun h2 _ => have hD0_4 : Quf list with' = Lp.done (out, i40) := Qk hI0 (condF h2 rfl); fiS out (F52 list with') (finD hD0_4 rfl))) (i0.1 - 1) i0.2.1 i0.2.2 (un52_0 list with' i0 hi0))) (by kernel_rfl)
def Zr (b : UInt8) : Bool := decide (48 ≤ b.toNat ∧ b.toNat ≤ 57)
def valL (acc : Nat) (l : List UInt8) : Nat := l.foldl (fun a b => a * 10 + (b.toNat - 48)) acc
theorem Qcp (acc : Nat) (l : List UInt8) (b : UInt8) : valL acc (l ++ [b]) = valL acc l * 10 + (b.toNat - 48) := by
 simp [valL, List.foldl_append]
def Zf (l : List UInt8) : Bool := !l.isEmpty && l.all Zr && !(decide (l.length > 1) && (l.getD 0 0 == 48))
theorem Qnw : ∀ (l : List UInt8) (acc : Nat), acc ≤ valL acc l
 | [], acc => Nat.le_refl _
 | b :: l, acc => Nat.le_trans (by omega) (Qnw l (acc * 10 + (b.toNat - 48)))
theorem Wu {b : UInt8} (h : Zr b = true) : 48 ≤ b.toNat ∧ b.toNat ≤ 57 := of_decide_eq_true h
theorem Qdf {b : UInt8} (h : Zr b = true) : UInt8.ofNat (48 + (b.toNat - 48)) = b := by
 have := Wu h
 rw [show 48 + (b.toNat - 48) = b.toNat by omega]
 exact UInt8.ofNat_toNat
theorem Qcy {b : UInt8} {l : List UInt8} (h : Zf (b :: l) = true) (hl : l ≠ []) : 1 ≤ valL 0 (b :: l) := by
 unfold Zf at h
 simp only [Bool.and_eq_true, Bool.not_eq_true', List.all_cons] at h
 obtain ⟨⟨_, hb, _⟩, h0⟩ := h
 have hd := Wu hb
 have hlen : decide ((b :: l).length > 1) = true := decide_eq_true (by
  cases l with
  | nil => exact absurd rfl hl
  | cons a l => simp)
 rw [hlen, Bool.true_and] at h0
 have hne : b ≠ 48 := by
  have : (b == 48) = false := h0
  exact beq_eq_false_iff_ne.1 this
 have h48 : b.toNat ≠ 48 := fun e => hne (UInt8.toNat_inj.1 e)
 refine Nat.le_trans ?_ (Qnw l (0 * 10 + (b.toNat - 48)))
 omega
theorem Qqj {l : List UInt8} {b : UInt8} (hl : l ≠ []) (h : Zf (l ++ [b]) = true) : Zf l = true := by
 unfold Zf at h ⊢
 simp only [Bool.and_eq_true, Bool.not_eq_true', List.all_append] at h ⊢
 obtain ⟨⟨_, ha, _⟩, h0⟩ := h
 cases l with
 | nil => exact absurd rfl hl
 | cons a l =>
  refine ⟨⟨rfl, ha⟩, ?_⟩
  have hlen : decide ((a :: l ++ [b]).length > 1) = true := decide_eq_true (by simp)
  rw [hlen, Bool.true_and] at h0
  have : (a == 48) = false := h0
  have e : ((a :: l).getD 0 0 == (48 : UInt8)) = false := this
  rw [e, Bool.and_false]
theorem Qoz : ∀ (n : Nat) (l : List UInt8), l.length = n → Zf l = true → Lib.decDigits (valL 0 l) = l
 | 0, l, hn, h => by
  rw [List.length_eq_zero_iff.1 hn] at h; cases h
 | n + 1, l, hn, h => by
  have hne : l ≠ [] := fun e => by rw [e] at hn; cases hn
  obtain ⟨i, b, rfl⟩ : ∃ i b, l = i ++ [b] := ⟨l.dropLast, l.getLast hne, (List.dropLast_concat_getLast hne).symm⟩
  have hdb : Zr b = true := by
   unfold Zf at h
   simp only [Bool.and_eq_true, List.all_append, List.all_cons] at h
   exact h.1.2.2.1
  have hb := Wu hdb
  rw [Qcp]
  by_cases hi : i = []
  ·subst hi
   have e : valL 0 ([] : List UInt8) * 10 + (b.toNat - 48) = b.toNat - 48 := by simp [valL]
   rw [e, Lib.decDigits_one (by omega), Qdf hdb]; rfl
  ·have hin := Qqj hi h
   have hpos : 1 ≤ valL 0 i * 10 + (b.toNat - 48) := by
    cases i with
    | nil => exact absurd rfl hi
    | cons a i =>
     have := Qcy (b := a) (l := i ++ [b]) h (by simp)
     have e := Qcp 0 (a :: i) b
     rw [List.cons_append] at e
     omega
   have hip : 1 ≤ valL 0 i := by
    cases i with
    | nil => exact absurd rfl hi
    | cons a i =>
     by_cases hi2 : i = []
     ·subst hi2
      have h0 := h
      unfold Zf at h0
      simp only [Bool.and_eq_true, Bool.not_eq_true', List.all_append, List.all_cons] at h0
      have hd := Wu h0.1.2.1.1
      have h1 : (a == 48) = false := by
       have := h0.2
       rw [show decide (([a] ++ [b]).length > 1) = true from rfl, Bool.true_and] at this
       exact this
      have h48 : a.toNat ≠ 48 := fun e => beq_eq_false_iff_ne.1 h1 (UInt8.toNat_inj.1 e)
      simp only [valL, List.foldl_cons, List.foldl_nil]
      omega
     ·exact Qcy hin hi2
   rw [Lib.decDigits, dif_neg (by omega)]
   have e1 : (valL 0 i * 10 + (b.toNat - 48)) / 10 = valL 0 i := by omega
   have e2 : (valL 0 i * 10 + (b.toNat - 48)) % 10 = b.toNat - 48 := by omega
   have hlen : i.length = n := by
    rw [List.length_append] at hn
    simpa using hn
   rw [e1, e2, Qoz n i hlen hin, Qdf hdb]
theorem Qom (u : Nat) (h : u < 10) : Zr (UInt8.ofNat (48 + u)) = true := by
 unfold Zr
 rw [UInt8.toNat_ofNat']
 exact decide_eq_true (by omega)
theorem Qei : ∀ (n u : Nat), u ≤ n → Lib.decDigits u ≠ [] ∧ (Lib.decDigits u).all Zr = true ∧ (1 ≤ u → (Lib.decDigits u).getD 0 0 ≠ 48)
 | n, u, hu => by
  by_cases h : u < 10
  ·rw [Lib.decDigits_one h]
   refine ⟨by simp, by rw [List.all_cons, Qom u h]; rfl, fun h1 e => ?_⟩
   have e1 : UInt8.ofNat (48 + u) = 48 := e
   have := congrArg UInt8.toNat e1
   rw [UInt8.toNat_ofNat'] at this
   have h48 : (48 : UInt8).toNat = 48 := rfl
   omega
  ·cases n with
   | zero => omega
   | succ n =>
    obtain ⟨h1, h2, h3⟩ := Qei n (u / 10) (by omega)
    rw [Lib.decDigits, dif_neg h]
    refine ⟨by simp, by rw [List.all_append, h2, List.all_cons, Qom _ (by omega)]; rfl, fun _ => ?_⟩
    cases hd : Lib.decDigits (u / 10) with
    | nil => exact absurd hd h1
    | cons a l =>
     rw [hd] at h3
     exact h3 (by omega)
theorem Qza (u : Nat) : Zf (Lib.decDigits u) = true := by
 obtain ⟨h1, h2, h3⟩ := Qei u u (Nat.le_refl _)
 unfold Zf
 have e1 : (Lib.decDigits u).isEmpty = false := by
  cases hd : Lib.decDigits u with
  | nil => exact absurd hd h1
  | cons a l => rfl
 rw [e1, h2]
 by_cases hu : 1 ≤ u
 ·have e : ((Lib.decDigits u).getD 0 0 == (48 : UInt8)) = false := beq_eq_false_iff_ne.2 (h3 hu)
  rw [e, Bool.and_false]; rfl
 ·have e : Lib.decDigits u = [UInt8.ofNat (48 + u)] := Lib.decDigits_one (by omega)
  rw [e]; rfl
theorem Qea : ∀ (l : List UInt8) (acc : Nat), l.all Zr = true → (acc + 1) * 10 ^ l.length ≤ 1000000000000000000 → Lib.parseUint10 acc l = .ok (valL acc l)
 | [], acc, _, _ => rfl
 | b :: l, acc, h, hb => by
  rw [List.all_cons, Bool.and_eq_true] at h
  have hd := Wu h.1
  have hp : 1 ≤ 10 ^ l.length := Nat.one_le_pow _ _ (by omega)
  have e : (acc + 1) * 10 ^ (b :: l).length = ((acc + 1) * 10) * 10 ^ l.length := by
   rw [List.length_cons, Nat.pow_succ, Nat.mul_comm (10 ^ l.length) 10, Nat.mul_assoc]
  rw [e] at hb
  have h1 : (acc + 1) * 10 ≤ 1000000000000000000 := Nat.le_trans (Nat.le_mul_of_pos_right _ hp) hb
  rw [Lib.parseUint10, if_pos hd, if_neg (by omega), if_neg (by omega)]
  exact Qea l _ h.2 (Nat.le_trans (Nat.mul_le_mul_right _ (by omega)) hb)
theorem Qfi : ∀ (l : List UInt8) (acc : Nat), l.all Zr = true → valL acc l < (acc + 1) * 10 ^ l.length
 | [], acc, _ => by simp [valL]
 | b :: l, acc, h => by
  rw [List.all_cons, Bool.and_eq_true] at h
  have hd := Wu h.1
  have e : (acc + 1) * 10 ^ (b :: l).length = ((acc + 1) * 10) * 10 ^ l.length := by
   rw [List.length_cons, Nat.pow_succ, Nat.mul_comm (10 ^ l.length) 10, Nat.mul_assoc]
  rw [e]
  exact Nat.lt_of_lt_of_le (Qfi l (acc * 10 + (b.toNat - 48)) h.2) (Nat.mul_le_mul_right _ (by omega))
def num6 (l : List UInt8) : Int := bif Zf l && decide (l.length ≤ 6) then (valL 0 l : Int) else -1
theorem Qgb (v : Int) (h : 0 ≤ v) : Lib.itoa v = Lib.decDigits v.toNat := by
 unfold Lib.itoa
 rw [if_neg (by omega)]
theorem Hw (s : ByteArray) (h : s.size ≤ 6) : decN s = num6 s.data.toList := by
 have hl : s.data.toList.length = s.size := Array.length_toList
 unfold num6
 rw [decide_eq_true (show s.data.toList.length ≤ 6 by omega), Bool.and_true]
 cases hn : Zf s.data.toList with
 | true =>
  have hd := Qoz _ _ rfl hn
  have hn2 := hn
  unfold Zf at hn2
  simp only [Bool.and_eq_true] at hn2
  have hall := hn2.1.2
  have hp := Qea s.data.toList 0 hall (by
   have : 10 ^ s.data.toList.length ≤ 10 ^ 6 := Nat.pow_le_pow_right (by omega) (by omega)
   omega)
  unfold decN
  cases hs : s.data.toList with
  | nil => rw [hs] at hn; cases hn
  | cons b l =>
   rw [hs] at hall hp hd
   have hb := Wu (List.all_eq_true.1 hall b List.mem_cons_self)
   have hlt := Lib.parseUint10_lt _ 0 _ (by omega) hp
   have hsmall : valL 0 (b :: l) < 9223372036854775808 := by
    have h1 := Qfi (b :: l) 0 hall
    have h2 : 10 ^ (b :: l).length ≤ 10 ^ 6 := Nat.pow_le_pow_right (by omega) (by rw [← hs]; omega)
    omega
   have ea : Lib.atoiAll (b :: l) = .ok (valL 0 (b :: l) : Int) := by
    unfold Lib.atoiAll
    simp only [if_neg (show ¬ (b.toNat = 43 ∨ b.toNat = 45) by omega), Lib.parseMag, if_neg (show ¬ (b :: l = []) by simp), hp]
    rw [if_neg (by omega), if_neg (by omega), if_neg (by omega)]
   rw [ea]
   have ei : Lib.itoa (valL 0 (b :: l) : Int) = b :: l := by
    rw [Qgb _ (by omega), Int.toNat_natCast, hd]
   simp only [ei]
   rw [decide_eq_true (by omega)]
   simp
 | false =>
  unfold decN
  cases ha : Lib.atoiAll s.data.toList with
  | ok v =>
   by_cases h0 : 0 ≤ v
   ·have e : (Lib.itoa v == s.data.toList) = false := by
     rw [beq_eq_false_iff_ne]
     intro e
     rw [Qgb v h0] at e
     rw [← e, Qza] at hn
     cases hn
    simp only [e, Bool.and_false]; rfl
   ·simp only [decide_eq_false h0, Bool.false_and]; rfl
  | _ => rfl
theorem u8sub (b : UInt8) (h : Zr b = true) : IntKind.i64.wrap (IntKind.u8.wrap ((b.toNat : Int) - 48)) = ((b.toNat - 48 : Nat) : Int) := by
 have hd := Wu h
 have e : IntKind.u8.wrap ((b.toNat : Int) - 48) = ((b.toNat : Int) - 48) % 256 := by
  simp [IntKind.wrap, IntKind.signed, IntKind.bits]
 rw [e, Yu (by omega) (by omega)]
 omega
theorem Qtk (b : UInt8) : decide ((48 : Int) ≤ (b.toNat : Int) ∧ (b.toNat : Int) ≤ 57) = Zr b := by
 unfold Zr
 congr 1
 exact propext ⟨fun h => by omega, fun h => by omega⟩
theorem Qwz (s : ByteArray) (a i : Nat) (hi : i < s.size) (ha : a ≤ 100000000) (b : UInt8) (hb : s.data.toList.getD i 0 = b) : Ji s ((a : Int), (i : Int)) =
  if Zr b = false then .ret (-1) else .next (((a * 10 + (b.toNat - 48) : Nat) : Int), ((i + 1 : Nat) : Int)) := by
 simp only [Ji, decide_eq_true (show (i : Int) < (s.size : Int) by omega), cond_true, Int.toNat_natCast, Zl, hb, Qgj, Qtk]
 cases hd : Zr b with
 | false => rfl
 | true =>
  have h1 := Wu hd
  rw [u8sub b hd, Yu (n := (a : Int) * 10) (by omega) (by omega), Yu (by omega) (by omega)]
  simp only [Bool.not_true, cond_false, Bool.true_eq_false, if_false]
  congr 2
theorem Qic (s : ByteArray) : ∀ (m i a : Nat), i + m = s.size → (a + 1) * 10 ^ m ≤ 10000000 → ∀ fuel, m < fuel →
  (runL (Ji s) fuel ((a : Int), (i : Int))).fin (fun r => r) (fun (n, i40) => n) = bif (s.data.toList.drop i).all Zr then (valL a (s.data.toList.drop i) : Int) else -1
 | m, i, a, _, _, 0, hf => absurd hf (Nat.not_lt_zero _)
 | 0, i, a, h, _, fuel + 1, hf => by
  have hl : s.data.toList.length = s.size := Array.length_toList
  have hst : Ji s ((a : Int), (i : Int)) = .done ((a : Int), (i : Int)) := by
   simp only [Ji, decide_eq_false (show ¬ (i : Int) < (s.size : Int) by omega), cond_false]
  rw [Zg _ hst, List.drop_of_length_le (by omega)]
  rfl
 | m + 1, i, a, h, ha, fuel + 1, hf => by
  have hl : s.data.toList.length = s.size := Array.length_toList
  have hb : s.data.toList.drop i = s.data.toList.getD i 0 :: s.data.toList.drop (i + 1) := by
   rw [List.drop_eq_getElem_cons (by omega), List.getD_eq_getElem?_getD, List.getElem?_eq_getElem (by omega)]; rfl
  have hp : 1 ≤ 10 ^ m := Nat.one_le_pow _ _ (by omega)
  have e : (a + 1) * 10 ^ (m + 1) = ((a + 1) * 10) * 10 ^ m := by
   rw [Nat.pow_succ, Nat.mul_comm (10 ^ m) 10, Nat.mul_assoc]
  rw [e] at ha
  have h1 : (a + 1) * 10 ≤ 10000000 := Nat.le_trans (Nat.le_mul_of_pos_right _ hp) ha
  have hst := Qwz s a i (by omega) (by omega) _ rfl
  rw [hb, List.all_cons]
  generalize s.data.toList.getD i 0 = b at hst ⊢
  by_cases hd : Zr b = false
  ·rw [if_pos hd] at hst
   rw [Ya _ hst, hd]; rfl
  ·rw [if_neg hd] at hst
   have hd' : Zr b = true := by simpa using hd
   have hg := Wu hd'
   rw [Uj _ hst, Qic s m (i + 1) _ (by omega) (Nat.le_trans (Nat.mul_le_mul_right _ (by omega)) ha) fuel (by omega), hd', Bool.true_and]
   rfl
theorem Hc (s : ByteArray) : F63 s = num6 s.data.toList := by
 have hl : s.data.toList.length = s.size := Array.length_toList
 unfold F63 num6
 by_cases h1 : (1 : Int) ≤ (s.size : Int) ∧ (s.size : Int) ≤ 6
 ·rw [decide_eq_true h1, decide_eq_true (show s.data.toList.length ≤ 6 by omega), Bool.and_true, Bool.not_true, cond_false, Zl]
  have hp : (0 + 1) * 10 ^ s.size ≤ 10000000 := by
   have : 10 ^ s.size ≤ 10 ^ 6 := Nat.pow_le_pow_right (by omega) (by omega)
   omega
  have hlp := Qic s s.size 0 0 (by omega) hp (Int.toNat ((s.size : Int) - 0) + 1) (by omega)
  rw [List.drop_zero] at hlp
  have hne : s.data.toList.isEmpty = false := by
   cases hs : s.data.toList with
   | nil => rw [hs] at hl; simp only [List.length_nil] at hl; omega
   | cons b l => rfl
  have e48 := Qph (s.data.toList.getD 0 0) 48
  have h48 : ((48 : UInt8).toNat : Int) = 48 := rfl
  rw [h48] at e48
  have e0 : (Int.toNat 0) = 0 := rfl
  rw [e0, e48, Zf, hne]
  have eq : (s.data.toList.getD 0 0 == (48 : UInt8)) = decide (s.data.toList.getD 0 0 = 48) := by
   cases h : decide (s.data.toList.getD 0 0 = 48) with
   | true => exact beq_iff_eq.2 (of_decide_eq_true h)
   | false => exact beq_eq_false_iff_ne.2 (of_decide_eq_false h)
  rw [eq]
  have eg : decide ((s.size : Int) > 1) = decide (s.data.toList.length > 1) := by
   by_cases hg : s.size > 1
   ·rw [decide_eq_true (by omega), decide_eq_true (by omega)]
   ·rw [decide_eq_false (by omega), decide_eq_false (by omega)]
  rw [eg]
  refine (congrArg (fun z => bif (bif decide (s.data.toList.length > 1) then decide (s.data.toList.getD 0 0 = 48) else false) then (-1 : Int) else z) hlp).trans ?_
  cases decide (s.data.toList.length > 1) <;> cases decide (s.data.toList.getD 0 0 = 48) <;> cases s.data.toList.all Zr <;> rfl
 ·rw [decide_eq_false h1, Bool.not_false, cond_true, cond_true]
  by_cases h6 : s.data.toList.length ≤ 6
  ·have hz : s.data.toList = [] := List.length_eq_zero_iff.1 (by omega)
   rw [hz]; rfl
  ·rw [decide_eq_false h6, Bool.and_false]; rfl
theorem Qoa : ∀ (k u : Nat), u < 10 ^ (k + 1) → (Lib.decDigits u).length ≤ k + 1
 | 0, u, h => by
  rw [Lib.decDigits_one (by simpa using h)]; exact Nat.le_refl _
 | k + 1, u, h => by
  by_cases hu : u < 10
  ·rw [Lib.decDigits_one hu]; exact Nat.succ_le_succ (Nat.zero_le _)
  ·have h1 : u / 10 < 10 ^ (k + 1) := by
    rw [Nat.pow_succ] at h
    exact Nat.div_lt_of_lt_mul (by rw [Nat.mul_comm]; exact h)
   rw [Lib.decDigits, dif_neg hu, List.length_append]
   exact Nat.succ_le_succ (Qoa k _ h1)
theorem Hg (s : ByteArray) : decN s = -1 ∨ ∃ u : Nat, decN s = (u : Int) ∧ Lib.decDigits u = s.data.toList := by
 unfold decN
 cases ha : Lib.atoiAll s.data.toList with
 | ok v =>
  by_cases h0 : 0 ≤ v
  ·cases he : (Lib.itoa v == s.data.toList) with
   | true =>
    refine .inr ⟨v.toNat, ?_, ?_⟩
    ·simp only [decide_eq_true h0, he, Bool.and_true, cond_true]
     omega
    ·rw [← Qgb v h0]; exact beq_iff_eq.1 he
   | false => refine .inl ?_; simp only [he, Bool.and_false]; rfl
  ·refine .inl ?_; simp only [decide_eq_false h0, Bool.false_and]; rfl
 | _ => exact .inl rfl
theorem Qja (s : ByteArray) (h : decN s ≤ 999999) : decN s = num6 s.data.toList := by
 have hl : s.data.toList.length = s.size := Array.length_toList
 by_cases hs : s.size ≤ 6
 ·exact Hw s hs
 ·have e : num6 s.data.toList = -1 := by
   unfold num6
   rw [decide_eq_false (show ¬ s.data.toList.length ≤ 6 by omega), Bool.and_false]; rfl
  rw [e]
  rcases Hg s with h1 | ⟨u, h1, h2⟩
  ·exact h1
  ·have h3 := Qoa 5 u (by rw [h1] at h; have : 10 ^ (5 + 1) = 1000000 := rfl; omega)
   rw [h2] at h3
   omega
theorem Qqf (l : List UInt8) : num6 l ≤ 999999 := by
 unfold num6
 cases h : Zf l && decide (l.length ≤ 6) with
 | false => rw [cond_false]; omega
 | true =>
  rw [cond_true]
  rw [Bool.and_eq_true] at h
  have hn := h.1
  unfold Zf at hn
  simp only [Bool.and_eq_true] at hn
  have h1 := Qfi l 0 hn.1.2
  have h2 : 10 ^ l.length ≤ 10 ^ 6 := Nat.pow_le_pow_right (by omega) (of_decide_eq_true h.2)
  omega
def Yc (v : Int) : Bool := decide (0 ≤ v ∧ v ≤ 255)
def addr2 : List (List UInt8) → Int
 | [a, b] => bif Yc (num6 a) && Yc (num6 b) then 256 * num6 a + num6 b else -1
 | _ => -1
def Yp (l : List UInt8) : Int := addr2 (Qv 46 l)
theorem Qef (x y : Int) (hx : Yc x = true) (hy : Yc y = true) : IntKind.i64.wrap (IntKind.i64.wrap (256 * x) + y) = 256 * x + y := by
 have h1 := of_decide_eq_true hx
 have h2 := of_decide_eq_true hy
 rw [Yu (n := 256 * x) (by omega) (by omega), Yu (by omega) (by omega)]
theorem No (s : ByteArray) : F60 s = Yp s.data.toList := by
 have hc : F19 s 46 = (Qv 46 s.data.toList).map mkB := Vj s 46
 unfold F60 Yp
 rw [hc]
 simp only [Hc]
 cases Qv 46 s.data.toList with
 | nil => rfl
 | cons a t => cases t with
  | nil => rfl
  | cons b t => cases t with
   | nil =>
    show (bif (bif (!(Yc (num6 a))) then true else (!(Yc (num6 b)))) then (-1) else (IntKind.i64.wrap ((IntKind.i64.wrap (256 * num6 a)) + num6 b))) = bif Yc (num6 a) && Yc (num6 b) then 256 * num6 a + num6 b else -1
    cases ha : Yc (num6 a) <;> cases hb : Yc (num6 b) <;> try rfl
    exact Qef _ _ ha hb
   | cons c t =>
    have : (((List.map mkB (a :: b :: c :: t)).length : Int) != 2) = true := by
     rw [bne_iff_ne]
     simp only [List.map_cons, List.length_cons, List.length_map]
     omega
    rw [this]; rfl
theorem Qjd (l : List UInt8) : -1 ≤ Yp l ∧ Yp l ≤ 65535 := by
 unfold Yp
 cases Qv 46 l with
 | nil => exact ⟨Int.le_refl _, (show (-1 : Int) ≤ 65535 by omega)⟩
 | cons a t => cases t with
  | nil => exact ⟨Int.le_refl _, (show (-1 : Int) ≤ 65535 by omega)⟩
  | cons b t => cases t with
   | nil =>
    show -1 ≤ (bif Yc (num6 a) && Yc (num6 b) then 256 * num6 a + num6 b else -1) ∧ (bif Yc (num6 a) && Yc (num6 b) then 256 * num6 a + num6 b else -1) ≤ 65535
    cases h : Yc (num6 a) && Yc (num6 b) with
    | false => simp only [cond_false]; omega
    | true =>
     rw [Bool.and_eq_true] at h
     have h1 := of_decide_eq_true h.1
     have h2 := of_decide_eq_true h.2
     simp only [cond_true]; omega
   | cons c t => exact ⟨Int.le_refl _, (show (-1 : Int) ≤ 65535 by omega)⟩
end Go.Proofs.YtbaholefcgacpaaGreatDoor
