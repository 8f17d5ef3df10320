/- A part of the proof of FnExactConfCheck. Texts put together: MT, MY, MYB, MP, MX, LY, DEC, VC0, PS1, VC1, PS2, VC2, PS3, PS4, VF0, PF0, VF1, VF2, PN1, PN2, PN3, PN4, PA1, PA2. -/
import Derived.Shelf.Strings.Cut
import Derived.Shelf.Strings.Split
import Derived.Shelf.Strings.OnBuilder
import Derived.Shelf.Slices.In.SortAlone
import Derived.Shelf.Slices.In.SortNone
import Derived.Sort.EveryDepth
import Derived.Test.YtmoodkjkecjeaaaGreatDoorRows
import Derived.Shelf.LaysM
import Derived.Shelf.Strconv.AtoiAll
import Derived.Shelf.Strconv.Itoa3
import Derived.WalkKit
import Derived.BigCall
import Derived.BigGuard
import Derived.Lib.Walk
import Derived.Lib.Hide
import Derived.Lib.IndexBytes
import Derived.Lib.SplitLaws
import Derived.Lib.CutLaws
import Derived.Lib.AtoiAll
import Derived.Lib.ItoaNum
import Derived.Test.YtmoodkjkecjeaaaGreatDoorZC38B
namespace Go.Proofs.YtmoodkjkecjeaaaGreatDoor
open Go.RowKit
set_option maxRecDepth 100000
set_option linter.unusedVariables false
set_option linter.unusedSimpArgs false
def first (p : Nat → Bool) (n : Nat) : Option Nat := (List.range n).find? p
theorem first_some {p : Nat → Bool} {n k : Nat} : first p n = some k ↔ k < n ∧ p k = true ∧ ∀ j, j < k → p j = false := by
 unfold first
 rw [List.find?_range_eq_some]
 constructor
 ·rintro ⟨h1, h2, h3⟩
  exact ⟨by simpa using h2, h1, fun j hj => by simpa using h3 j hj⟩
 ·rintro ⟨h1, h2, h3⟩
  exact ⟨h2, by simpa using h1, fun j hj => by simpa using h3 j hj⟩
theorem first_none {p : Nat → Bool} {n : Nat} : first p n = none ↔ ∀ k, k < n → p k = false := by
 unfold first
 rw [List.find?_range_eq_none]
 simp
theorem search {ρ τ : Type} (p : Nat → Bool) (r : Nat → ρ) (n : Nat) (step : Int → Lp Int ρ) (hs : ∀ k : Nat, k < n → step (k : Int) = bif p k then .ret (r k) else .next ((k : Int) + 1)) (he : step (n : Int) = .done (n : Int)) (f : ρ → τ) (g : Int → τ) :
  (runL step ((Int.toNat ((n : Int) - 0)) + 1) 0).fin f g = match first p n with | some k => f (r k) | none => g n := by
 have h := Kv (step := step) (fun (k : Nat) (_ : Unit) => (k : Int)) n (fun k _ => ∀ j, j < k → p j = false) (fun x => ∃ k, first p n = some k ∧ x = r k)
  (fun k _ hk hI => by
   cases hp : p k with
   | false =>
    refine .inl ⟨(), by rw [hs k hk, hp]; rfl, fun j hj => ?_⟩
    rcases Nat.lt_succ_iff_lt_or_eq.1 hj with h | rfl
    ·exact hI j h
    ·exact hp
   | true => exact .inr ⟨r k, by rw [hs k hk, hp]; rfl, k, first_some.2 ⟨hk, hp, hI⟩, rfl⟩)
  (fun _ _ => he) n 0 () (by omega) (fun j hj => by omega) (n + 1) (Nat.lt_succ_self _)
 rw [n0]
 rcases h with ⟨_, h, hI⟩ | ⟨x, h, k, hk, rfl⟩
 ·have h : runL step (n + 1) 0 = .done (n : Int) := h
  rw [h, first_none.2 hI]; rfl
 ·have h : runL step (n + 1) 0 = .ret (r k) := h
  rw [h, hk]; rfl
def oix : Option Nat → Int
 | some k => (k : Int)
 | none => -1
theorem oix_lt {p : Nat → Bool} {n : Nat} : oix (first p n) < (n : Int) := by
 cases h : first p n with
 | none => simp only [oix]; omega
 | some k => have := (first_some.1 h).1; simp only [oix]; omega
theorem oix_neg {o : Option Nat} : oix o < 0 ↔ o = none := by
 cases o with
 | none => simp [oix]
 | some k => simp [oix]
theorem Qux {o : Option Nat} (h : ¬ oix o < 0) : o = some (oix o).toNat := by
 cases o with
 | none => exact absurd (by decide) h
 | some k => simp [oix]
def idxI {α : Type} [Inhabited α] (p : α → Bool) (xs : List α) : Int := oix (first (fun k => p (xs.getD k default)) xs.length)
theorem Jf {α : Type} [Inhabited α] (p : α → Bool) (xs : List α) (step : Int → Lp Int Int)
  (hs : ∀ i, step i = bif decide (i < (xs.length : Int)) then (bif p (xs.getD (Int.toNat i) default) then .ret i else .next (i + 1)) else .done i) :
  (runL step ((Int.toNat ((xs.length : Int) - 0)) + 1) 0).fin (fun r => r) (fun _ => -1) = idxI p xs := by
 rw [search (fun k => p (xs.getD k default)) (fun k => (k : Int)) xs.length step (fun k hk => by rw [hs, ltD hk, nn]; rfl) (by rw [hs, geD]; rfl)]
 unfold idxI
 all_goals (cases first (fun k => p (xs.getD k default)) xs.length <;> rfl)
theorem Ms {α : Type} [Inhabited α] (p : α → Bool) (xs : List α) : decide (idxI p xs ≥ 0) = xs.any p := by
 rw [Bool.eq_iff_iff, decide_eq_true_eq, List.any_eq_true]
 constructor
 ·intro h
  have h' : ¬ idxI p xs < 0 := by omega
  have h2 := first_some.1 (Qux h')
  exact ⟨_, Wd xs h2.1, h2.2.1⟩
 ·rintro ⟨x, hx, hp⟩
  obtain ⟨k, hk, rfl⟩ := Hi hx
  rcases Int.lt_or_le (idxI p xs) 0 with h | h
  ·have := first_none.1 (oix_neg.1 h) k hk
   simp only [hp] at this
   cases this
  ·exact h
theorem Hf {α : Type} [Inhabited α] (p : α → Bool) (xs : List α) : idxI p xs < (xs.length : Int) := oix_lt
theorem beqD (a b : Int) : (a == b) = decide (a = b) := by
 by_cases h : a = b <;> simp [h]
theorem Qac {α : Type} (xs : List α) {i : Nat} (a : α) (h : i < xs.length) : (xs.set i a).take (i + 1) = xs.take i ++ [a] := by
 rw [List.take_add_one, List.take_set_of_le (Nat.le_refl _), List.getElem?_set_self h]; rfl
theorem Ka {α : Type} [Inhabited α] (p : α → Bool) (s : List α) {k : Nat} (h : k < s.length) : (s.take (k + 1)).filter p = (s.take k).filter p ++ (if p (s.getD k default) then [s.getD k default] else []) := by
 rw [Lg h, List.filter_append]
 congr 1
 simp only [List.filter_cons, List.filter_nil]
theorem Qgq {α : Type} [Inhabited α] (del : α → Bool) (s : List α) (z : α) (step : Int × Int × List α → Lp (Int × Int × List α) (List α))
  (hs : ∀ i j xs, step (i, j, xs) = bif decide (j < (xs.length : Int)) then (bif (!(del (xs.getD (Int.toNat j) default))) then .next (i + 1, j + 1, xs.set (Int.toNat i) (xs.getD (Int.toNat j) default)) else .next (i, j + 1, xs)) else .done (i, j, xs)) :
  (bif (idxI del s == (-1)) then s else (((runL step ((Int.toNat ((s.length : Int) - (idxI del s + 1))) + 1) (idxI del s, idxI del s + 1, s)).fin Lp.ret (fun x => (Lp.done (x.2.2, x.1) : Lp (List α × Int) (List α)))).fin (fun r => r) (fun x => ((x.1.take (Int.toNat x.2) ++ List.replicate (x.1.drop (Int.toNat x.2)).length z ++ x.1.drop (Int.toNat x.2 + (x.1.drop (Int.toNat x.2)).length)).take (Int.toNat x.2))))) = s.filter (fun x => !(del x)) := by
 unfold idxI
 cases e : first (fun k => del (s.getD k default)) s.length with
 | none =>
  have hn := first_none.1 e
  have e1 : (oix (none : Option Nat) == (-1 : Int)) = true := rfl
  rw [e1, cond_true]
  symm
  refine List.filter_eq_self.2 fun x hx => ?_
  obtain ⟨k, hk, rfl⟩ := Hi hx
  simpa using hn k hk
 | some k0 =>
  obtain ⟨h1, h2, h3⟩ := first_some.1 e
  have e1 : (oix (some k0) == (-1 : Int)) = false := by rw [beqD]; exact decide_eq_false (by simp only [oix]; omega)
  rw [e1, cond_false]
  simp only [oix]
  have hpre : (s.take (k0 + 1)).filter (fun x => !(del x)) = s.take k0 := by
   rw [Ka _ _ h1]
   simp only [h2, Bool.not_true, Bool.false_eq_true, if_false, List.append_nil]
   refine List.filter_eq_self.2 fun x hx => ?_
   obtain ⟨k, hk, rfl⟩ := List.mem_iff_getElem.1 hx
   have hk' : k < k0 := by simp at hk; omega
   have := h3 k hk'
   rw [Kf s (by omega)] at this
   simpa using this
  have h := Kv (step := step) (fun (k : Nat) (x : Nat × List α) => ((x.1 : Int), (k : Int), x.2)) s.length
   (fun k x => x.1 < k ∧ x.2.length = s.length ∧ x.2.take x.1 = (s.take k).filter (fun x => !(del x)) ∧ ∀ m, k ≤ m → x.2.getD m default = s.getD m default) (fun _ => False)
   (fun k x hk ⟨g1, g2, g3, g4⟩ => by
    obtain ⟨i, xs⟩ := x
    simp only at g1 g2 g3 g4
    have hx := g4 k (Nat.le_refl _)
    cases hd : del (s.getD k default) with
    | false =>
     refine .inl ⟨(i + 1, xs.set i (s.getD k default)), ?_, by simp only; omega, by simp [g2], ?_, fun m hm => ?_⟩
     ·rw [hs, g2, ltD hk, nn, hx, hd]
      simp only [cond_true, Bool.not_false, nn]
      rfl
     ·simp only
      rw [Qac xs _ (by omega), g3, Ka _ _ hk, hd]
      rfl
     ·simp only
      rw [List.getD_eq_getElem?_getD, List.getElem?_set_ne (by omega), ← List.getD_eq_getElem?_getD]
      exact g4 m (by omega)
    | true =>
     refine .inl ⟨(i, xs), ?_, by simp only; omega, g2, ?_, fun m hm => g4 m (by omega)⟩
     ·rw [hs, g2, ltD hk, nn, hx, hd]
      simp only [cond_true, Bool.not_true, cond_false]
      rfl
     ·simp only
      rw [g3, Ka _ _ hk, hd]
      simp)
   (fun x ⟨_, g2, _, _⟩ => by rw [hs, g2, geD]; rfl) (s.length - (k0 + 1)) (k0 + 1) (k0, s) (by omega) ⟨Nat.lt_succ_self _, rfl, hpre.symm, fun _ _ => rfl⟩ (s.length - (k0 + 1) + 1) (Nat.lt_succ_self _)
  have ef : Int.toNat ((s.length : Int) - ((k0 : Int) + 1)) = s.length - (k0 + 1) := by omega
  rw [ef]
  rcases h with ⟨⟨i, xs⟩, h, g1, g2, g3, g4⟩ | ⟨_, _, h⟩
  ·have h : runL step (s.length - (k0 + 1) + 1) ((k0 : Int), (k0 : Int) + 1, s) = .done ((i : Int), (s.length : Int), xs) := h
   simp only at g1 g2 g3
   rw [h]
   simp only [Lp.fin, nn]
   rw [List.take_length] at g3
   rw [← g3, List.append_assoc, List.take_append_of_le_length (by simp; omega), List.take_take, Nat.min_self]
  ·exact h.elim
def RdAll (S : Nat → Prop) (w : World) : List (Value × Dat) → Prop
 | [] => True
 | p :: r => RdV S w p.2 p.1 ∧ RdAll S w r
theorem RdAll.mono {S S' : Nat → Prop} {w w' : World} (hs : ∀ b, S b → S' b ∧ w'.heap[b]? = w.heap[b]?) : ∀ {ds : List (Value × Dat)}, RdAll S w ds → RdAll S' w' ds
 | [], _ => trivial
 | p :: r, h => ⟨RdV.mono hs p.2 p.1 h.1, RdAll.mono hs h.2⟩
def LX (ds : List (Value × Dat)) : FX where
 rd S w y := y.oneCell' = true ∧ RdAll S w ds
 ow w y fp := (y.oneCell' = true ∧ RdAll (· ∈ fp) w ds) ∧ fp.Nodup ∧ ∀ b ∈ fp, b < w.heap.size
 mono S S' w w' y hs h := ⟨h.1, h.2.mono hs⟩
 one S w y h := h.1
 keep w w' y fp hk h := ⟨⟨h.1.1, h.1.2.mono fun b hb => ⟨hb, hk b hb⟩⟩, h.2.1, fun b hb => Gc (h.2.2 b hb) (hk b hb)⟩
 lt w y fp h := h.2.2
 nd w y fp h := h.2.1
 rdo w y fp h := h.1
def BX (s : ByteArray) (n : Nat) : FX where
 rd S w y := y = .string s ∧ s.size ≤ n
 ow w y fp := (y = .string s ∧ s.size ≤ n) ∧ fp = []
 mono S S' w w' y hs h := h
 one S w y h := by rw [h.1]; rfl
 keep w w' y fp hk h := h
 lt w y fp h b hb := by rw [h.2] at hb; cases hb
 nd w y fp h := by rw [h.2]; exact List.nodup_nil
 rdo w y fp h := h.1
theorem Imp.bx {s : ByteArray} {n : Nat} (h : s.size ≤ n) : Imp (.v (.string s)) (.x (BX s n)) := ⟨fun S w y hy => ⟨hy.1, h⟩, fun w y fp hy => ⟨⟨hy.1, h⟩, hy.2.2⟩⟩
theorem Qao {P : Program} {f : FuncId} {i : ByteArray} {n : Nat} {cap : List Arg} {r : RT} {D : Bool} (h : Spec.ok P f ⟨.r (.c (.v (.string i))) :: cap, r, i.size ≤ n⟩ D) : Spec.ok P f ⟨.r (.c (.x (BX i n))) :: cap, r, True⟩ D := by
 intro _ S w vs fp hS hG ha
 obtain ⟨u, us, f1, g1, rfl, ⟨h1, h1'⟩, h2, rfl, h3⟩ := ha
 obtain ⟨rfl, hn⟩ : u = .string i ∧ i.size ≤ n := h1
 have := h hn S w (.string i :: us) (f1 ++ g1) hS hG ⟨_, us, f1, g1, rfl, ⟨⟨rfl, rfl⟩, h1'⟩, h2, rfl, h3⟩
 refine this.mono fun e w' ⟨rv, fr, fb, e1, e2, e3, e4⟩ => ⟨rv, fr, fb, e1, e2, ?_, e4⟩
 obtain ⟨u', us', f', g', k1, k2, k3, k4⟩ := e3
 simp only [List.cons.injEq] at k1
 obtain ⟨rfl, rfl⟩ := k1
 exact ⟨_, _, f', g', rfl, k2, k3, k4⟩
def PX (d : Dat) (Q : Prop) : FX where
 rd S w y := RdV S w d y ∧ Q
 ow w y fp := OwV w d y fp ∧ Q
 mono S S' w w' y hs h := ⟨RdV.mono hs d y h.1, h.2⟩
 one S w y h := h.1.one
 keep w w' y fp hk h := ⟨OwV.keep d y fp hk h.1, h.2⟩
 lt w y fp h := OwV.lt d y fp h.1
 nd w y fp h := h.1.nd
 rdo w y fp h := ⟨OwV.rd d y fp h.1, h.2⟩
theorem Imp.px {d : Dat} {Q : Prop} (h : Q) : Imp d (.x (PX d Q)) := ⟨fun S w y hy => ⟨hy, h⟩, fun w y fp hy => ⟨hy, h⟩⟩
def pxH : List Dat → Prop → List Dat
 | [], _ => []
 | d :: ds, Q => .x (PX d Q) :: ds
theorem Imps.pxH {ds : List Dat} {Q : Prop} (h : Q) : Imps ds (pxH ds Q) := by
 cases ds with
 | nil => trivial
 | cons d ds => exact ⟨Imp.px h, Imps.refl ds⟩
theorem Qvb {P : Program} {f : FuncId} {a b : RA} {Q : Prop} {cap : List Arg} {r : RT} {D : Bool} (hab : ∀ S w v, Qmg S w b v → Qmg S w a v ∧ Q) (h : Spec.ok P f ⟨.r a :: cap, r, Q⟩ D) : Spec.ok P f ⟨.r b :: cap, r, True⟩ D := by
 intro _ S w vs fp hS hG ha
 obtain ⟨u, us, f1, g1, rfl, ⟨h1, h1'⟩, h2, rfl, h3⟩ := ha
 obtain ⟨k1, hn⟩ := hab S w u h1
 have := h hn S w (u :: us) (f1 ++ g1) hS hG ⟨_, us, f1, g1, rfl, ⟨k1, h1'⟩, h2, rfl, h3⟩
 refine this.mono fun e w' ⟨rv, fr, fb, e1, e2, e3, e4⟩ => ⟨rv, fr, fb, e1, e2, ?_, e4⟩
 obtain ⟨u', us', f', g', k1, k2, k3, k4⟩ := e3
 simp only [List.cons.injEq] at k1
 obtain ⟨rfl, rfl⟩ := k1
 exact ⟨_, _, f', g', rfl, k2, k3, k4⟩
theorem Vk {P : Program} {f : FuncId} {d : Dat} {Q : Prop} {cap : List Arg} {r : RT} {D : Bool} (h : Spec.ok P f ⟨.r (.c d) :: cap, r, Q⟩ D) : Spec.ok P f ⟨.r (.c (.x (PX d Q))) :: cap, r, True⟩ D :=
 Qvb (a := .c d) (Q := Q) (fun S w v hv => hv) h
theorem Qwb {P : Program} {f : FuncId} {d : Dat} {ds : List Dat} {Q : Prop} {cap : List Arg} {r : RT} {D : Bool} (h : Spec.ok P f ⟨.r (.g (d :: ds)) :: cap, r, Q⟩ D) : Spec.ok P f ⟨.r (.g (pxH (d :: ds) Q)) :: cap, r, True⟩ D :=
 Qvb (fun S w v hv => by
  obtain ⟨vs, e, u, us, rfl, h1, h2⟩ := hv
  exact ⟨⟨_, e, u, us, rfl, h1.1, h2⟩, h1.2⟩) h
def toSV : Value → SV
 | .slice a n c => ⟨a, n, c⟩
 | _ => default
theorem RdV.at_sv {S : Nat → Prop} {w : World} {d : Dat} {v : Value} {x : SV} (e : v = sv x) (h : RdV S w d v) : RdV S w d (sv x) := e ▸ h
theorem row3 {S : Nat → Prop} {w : World} {a b c : Value} {d : Dat} (h : RdV S w d c) : ∀ cs, RdVs S w [.v a, .v b, .v c] cs → RdVs S w [.v a, .v b, d] cs := fun cs hc => by
 obtain ⟨u, us, rfl, h1, v, vs, rfl, h2, x, xs, rfl, h3, rfl⟩ := hc
 obtain ⟨rfl, _⟩ := h3
 exact ⟨u, _, rfl, h1, v, _, rfl, h2, _, _, rfl, h, rfl⟩
section
variable {P : Program} {N : Nat} {fs fs' : Nat → Option Fact} {β : Nat → Nat → Value} {φ φ' : Nat → List Nat} {dom ψ IN : Nat → Prop} {w0 w : World}
theorem Rel.pack (R : Rel P fs β φ dom ψ IN w0 w) (src : Nat → List Nat)
  (hok : ∀ X f, fs' X = some f → dom X ∧ Ko P fs' β φ' dom ψ w X f)
  (hsrc : ∀ X f, fs' X = some f → f.mod = true → ∀ b ∈ φ' X, ∃ Y ∈ src X, (∃ g, fs Y = some g ∧ g.mod = true) ∧ b ∈ φ Y)
  (hd : ∀ X X', X ≠ X' → (∃ f, fs' X = some f) → (∃ f, fs' X' = some f) → ∀ Y ∈ src X, Y ∉ src X') : Rel P fs' β φ' dom ψ IN w0 w where
 ok := hok
 dis i j f g hi hj mi mj hne b hb hb' := by
  obtain ⟨Y, h1, ⟨g1, h2, h3⟩, h4⟩ := hsrc i f hi mi b hb
  obtain ⟨Y', k1, ⟨g2, k2, k3⟩, k4⟩ := hsrc j g hj mj b hb'
  have hne' : Y ≠ Y' := fun e => hd i j hne ⟨_, hi⟩ ⟨_, hj⟩ Y h1 (e ▸ k1)
  exact R.dis Y Y' g1 g2 h2 k2 h3 k3 hne' b h4 k4
 lt id f hf hm b hb := by
  obtain ⟨Y, h1, ⟨g1, h2, h3⟩, h4⟩ := hsrc id f hf hm b hb
  exact R.lt Y g1 h2 h3 b h4
 psi := R.psi
 all1 := R.all1
 chg := R.chg
 glo := R.glo
theorem Rel.fpnd (R : Rel P fs β φ dom ψ IN w0 w) {id : Nat} {g : Fact} (h : fs id = some g) (hm : g.mod = true) : (φ id).Nodup := by
 have h2 := (R.ok id g h).2
 cases g <;> simp only [Fact.mod] at hm <;> first | cases hm | skip
 case box T cs => obtain ⟨_, b, _, _, e⟩ := h2; rw [e]; exact (List.nodup_cons.2 ⟨List.not_mem_nil, List.nodup_nil⟩)
 case own V d => exact (h2.2 : OwV w d _ _).nd
 case arr n cs => obtain ⟨_, b, T, _, _, e⟩ := h2; rw [e]; exact (List.nodup_cons.2 ⟨List.not_mem_nil, List.nodup_nil⟩)
def Qhu (fs : Nat → Option Fact) (ids : List Nat) : Bool := ids.all fun id => match fs id with | some g => g.mod | none => false
theorem Qbj {ids : List Nat} (h : Qhu fs ids = true) : ∀ id ∈ ids, ∃ g, fs id = some g ∧ g.mod = true := fun id hid => by
 have := List.all_eq_true.1 h id hid
 split at this
 ·rename_i g e; exact ⟨g, e, this⟩
 ·cases this
theorem Rel.flat_nd (R : Rel P fs β φ dom ψ IN w0 w) : ∀ {ids : List Nat}, ids.Nodup → (∀ id ∈ ids, ∃ g, fs id = some g ∧ g.mod = true) → (ids.flatMap φ).Nodup
 | [], _, _ => List.nodup_nil
 | id :: ids, hn, hm => by
  obtain ⟨n1, n2⟩ := List.nodup_cons.1 hn
  obtain ⟨g, h1, h2⟩ := hm id List.mem_cons_self
  simp only [List.flatMap_cons]
  refine List.nodup_append.2 ⟨R.fpnd h1 h2, R.flat_nd n2 fun x hx => hm x (List.mem_cons_of_mem _ hx), fun b hb b' hb' e => ?_⟩
  subst e
  obtain ⟨Y, hY, hbY⟩ := List.mem_flatMap.1 hb'
  obtain ⟨g', h3, h4⟩ := hm Y (List.mem_cons_of_mem _ hY)
  exact R.dis id Y g g' h1 h3 h2 h4 (fun e => n1 (e ▸ hY)) b hb hbY
theorem Rel.flat_lt (R : Rel P fs β φ dom ψ IN w0 w) {ids : List Nat} (hm : ∀ id ∈ ids, ∃ g, fs id = some g ∧ g.mod = true) : ∀ b ∈ ids.flatMap φ, b < w.heap.size := fun b hb => by
 obtain ⟨Y, hY, hbY⟩ := List.mem_flatMap.1 hb
 obtain ⟨g, h1, h2⟩ := hm Y hY
 exact (R.lt Y g h1 h2 b hbY).1
theorem Yi (h : FnH P) (hcap : h.cap = []) (hp : h.pre) {S : Nat → Prop} (hlt : ∀ b, S b → b < w.heap.size) (hcl : Qy P h.f = true) {F : Uv} (hF : h.F = F) : FnOK false P S w F (val β (.cl h.f [])) :=
 hF ▸ FnOK.weak (h.fnOK hp hlt (cap := []) (by rw [hcap]; exact ⟨rfl, rfl⟩) hcl)
theorem Qdw (R : Rel P fs β φ dom ψ IN w0 w) {a : Nat} {T : TypeId} {cs : List AV} (ha : fs a = some (.box T cs)) : ∃ b, val β (.p a 0) = .pointer (some ⟨b, 0, none⟩) ∧ Box w b T (vals β cs) ∧ φ a = [b] := by
 obtain ⟨_, _, b, e1, e2, e3⟩ := R.ok a _ ha
 exact ⟨b, by simp only [val, e1, padd, Nat.add_zero], e2, e3⟩
theorem Wa (R : Rel P fs β φ dom ψ IN w0 w) (h : FnH P) {a c : Nat} {T U : TypeId} {x y : Value} (ha : fs a = some (.box T [.v x])) (hc : fs c = some (.box U [.v y])) (hcap : h.cap = [.rp [.v x], .rp [.v y]]) (hp : h.pre)
  {S : Nat → Prop} (h1 : ∀ b ∈ φ a, S b) (h2 : ∀ b ∈ φ c, S b) (hlt : ∀ b, S b → b < w.heap.size) (hcl : Qy P h.f = true) (hx : x.oneCell' = true) (hy : y.oneCell' = true) {F : Uv} (hF : h.F = F) : FnOK false P S w F (val β (.cl h.f [.p a 0, .p c 0])) := by
 obtain ⟨b, e1, e2, e3⟩ := Qdw R ha
 obtain ⟨b', k1, k2, k3⟩ := Qdw R hc
 have := FnOK.weak (h.fnOK hp hlt (cap := [val β (.p a 0), val β (.p c 0)]) (by
  rw [hcap]
  refine ⟨_, _, [], [], rfl, ⟨⟨b, 0, [x], e1, h1 b (by rw [e3]; exact List.mem_singleton.2 rfl), e2.has 0 [x] rfl, x, [], rfl, ⟨rfl, hx⟩, rfl⟩, rfl⟩, ?_, rfl, List.nodup_nil⟩
  exact ⟨_, _, [], [], rfl, ⟨⟨b', 0, [y], k1, h2 b' (by rw [k3]; exact List.mem_singleton.2 rfl), k2.has 0 [y] rfl, y, [], rfl, ⟨rfl, hy⟩, rfl⟩, rfl⟩, ⟨rfl, rfl⟩, rfl, List.nodup_nil⟩) hcl)
 rw [← hF]
 exact this
theorem Qvi (R : Rel P fs β φ dom ψ IN w0 w) (h : FnH P) {a o V : Nat} {T : TypeId} {d : Dat} (ha : fs a = some (.box T [.h o 0])) (ho : fs o = some (.own V d)) (hcap : h.cap = [.rp [d]]) (hp : h.pre)
  {S : Nat → Prop} (h1 : ∀ b ∈ φ a, S b) (h2 : ∀ b ∈ φ o, S b) (hlt : ∀ b, S b → b < w.heap.size) (hcl : Qy P h.f = true) {F : Uv} (hF : h.F = F) : FnOK false P S w F (val β (.cl h.f [.p a 0])) := by
 obtain ⟨b, e1, e2, e3⟩ := Qdw R ha
 obtain ⟨_, _, k1⟩ := R.ok o _ ho
 have := FnOK.weak (h.fnOK hp hlt (cap := [val β (.p a 0)]) (by
  rw [hcap]
  exact ⟨_, _, [], [], rfl, ⟨⟨b, 0, [β o 0], e1, h1 b (by rw [e3]; exact List.mem_singleton.2 rfl), e2.has 0 [β o 0] rfl, β o 0, [], rfl, RdV.mono (fun b hb => ⟨h2 b hb, rfl⟩) _ _ (OwV.rd _ _ _ k1), rfl⟩, rfl⟩, ⟨rfl, rfl⟩, rfl, List.nodup_nil⟩) hcl)
 rw [← hF]
 exact this
def FnsOK (P : Program) (S : Nat → Prop) (w : World) {α : Type} (F : α → Uv) : List α → List Value → Prop
 | [], vs => vs = []
 | p :: ps, vs => ∃ u us, vs = u :: us ∧ FnOK false P S w (F p) u ∧ FnsOK P S w F ps us
theorem FnsOK.at {S : Nat → Prop} {α : Type} {F : α → Uv} : ∀ {ps : List α} {vs : List Value}, FnsOK P S w F ps vs → vs.length = ps.length ∧ ∀ (i : Nat) (p : α), ps[i]? = some p → ∃ u, vs[i]? = some u ∧ FnOK false P S w (F p) u
 | [], vs, h => by rw [h]; exact ⟨rfl, fun i p hp => by simp at hp⟩
 | p :: ps, vs, h => by
  obtain ⟨u, us, rfl, h1, h2⟩ := h
  obtain ⟨e, h3⟩ := FnsOK.at h2
  refine ⟨by simp [e], fun i q hq => ?_⟩
  cases i with
  | zero => simp only [List.getElem?_cons_zero, Option.some.injEq] at hq; subst hq; exact ⟨u, rfl, h1⟩
  | succ i => simpa using h3 i q (by simpa using hq)
theorem Ks (R : Rel P fs β φ dom ψ IN w0 w) {α : Type} [Inhabited α] {o n : Nat} {cs : List AV} {ps : List α} {F : α → Uv} {enc : α → List Dat} (ho : fs o = some (.arr n cs)) (hn : n = ps.length) (hm : n ≤ 9223372036854775807) (he : ∀ p, enc p = [.x (FnX P (F p))])
  {S : Nat → Prop} (h1 : ∀ b ∈ φ o, S b) (hF : FnsOK P S w F ps (vals β cs)) : RdV S w (.l 1 enc ps) (β o 0) := by
 obtain ⟨_, _, b, T, e1, e2, e3⟩ := R.ok o _ ho
 obtain ⟨_, hF⟩ := hF.at
 subst hn
 refine ⟨some ⟨b, 0, none⟩, ps.length, e1, Nat.le_refl _, hm, fun i p hp => ⟨rfl, h1 b (by rw [e3]; exact List.mem_singleton.2 rfl), ?_⟩⟩
 obtain ⟨u, hu, hf⟩ := hF i p hp
 refine ⟨[u], rfl, ?_, ?_⟩
 ·refine e2.has _ _ ?_
  simp only [ao, Option.getD_some, Nat.zero_add, Nat.mul_one, List.length_singleton]
  apply List.ext_getElem?
  intro j
  rw [List.getElem?_take]
  cases j with
  | zero => simpa using hu
  | succ j => simp
 ·rw [he]
  exact ⟨u, [], rfl, hf, rfl⟩
theorem Jm (R : Rel P fs β φ dom ψ IN w0 w) {o n : Nat} {cs : List AV} (ho : fs o = some (.arr n cs)) : β o 0 = sv (toSV (β o 0)) := by
 obtain ⟨_, _, b, T, e1, _⟩ := R.ok o _ ho
 rw [e1]; rfl
theorem Qyu (R : Rel P fs β φ dom ψ IN w0 w) {α : Type} [Inhabited α] {o n sz : Nat} {cs : List AV} {ys : List α} {enc : α → List Dat} (ho : fs o = some (.arr n cs)) (hn : n = ys.length) (hm : n ≤ 9223372036854775807) (hl : ∀ y, (enc y).length = sz)
  (he : (ys.map enc).flatten = (vals β cs).map .v) : OwV w (.l sz enc ys) (β o 0) (φ o) := by
 obtain ⟨_, ⟨hw, hone⟩, b, T, e1, e2, e3⟩ := R.ok o _ ho
 have h1 : OwVs w (ys.map enc).flatten (vals β cs) [] := by
  rw [he]; exact OwVs.flat (El R.one hone hw)
 obtain ⟨gs, g1, g2, g3, g4⟩ := h1.split (sz := sz) (fun y _ => hl y)
 subst hn
 have hlen : (vals β cs).length = ys.length * sz := g2
 refine ⟨some ⟨b, 0, none⟩, ys.length, e1, Nat.le_refl _, hm, .inr ⟨b, 0, T, vals β cs, gs, rfl, e2, by omega, g1, fun i y g hy hg => ?_, by rw [e3, ← g3], ?_⟩⟩
 ·obtain ⟨k1, k2⟩ := g4 i y g hy hg
  have hi : i < ys.length := (List.getElem?_eq_some_iff.1 hy).1
  have hfit : i * sz + sz ≤ (vals β cs).length := by
   rw [hlen]
   calc i * sz + sz = (i + 1) * sz := by rw [Nat.succ_mul]
    _ ≤ ys.length * sz := Nat.mul_le_mul_right _ hi
  refine ⟨by simp; omega, ?_⟩
  simpa using k2
 ·rw [e3]; exact (List.nodup_cons.2 ⟨List.not_mem_nil, List.nodup_nil⟩)
def Rel2 {α γ : Type} (Q : α → γ → Prop) : List α → List γ → Prop
 | [], [] => True
 | a :: azz, c :: cs => Q a c ∧ Rel2 Q azz cs
 | _, _ => False
theorem Rel2.filter {α γ : Type} {Q : α → γ → Prop} {p : α → Bool} {q : γ → Bool} (hpq : ∀ a c, Q a c → p a = q c) : ∀ {azz : List α} {cs : List γ}, Rel2 Q azz cs → Rel2 Q (azz.filter p) (cs.filter q)
 | [], [], _ => trivial
 | a :: azz, c :: cs, h => by
  have e := hpq a c h.1
  cases hp : p a with
  | true => rw [List.filter_cons_of_pos hp, List.filter_cons_of_pos (e ▸ hp)]; exact ⟨h.1, Rel2.filter hpq h.2⟩
  | false => rw [List.filter_cons_of_neg (by simp [hp]), List.filter_cons_of_neg (by simp [← e, hp])]; exact Rel2.filter hpq h.2
 | [], _ :: _, h => h.elim
 | _ :: _, [], h => h.elim
theorem Rel2.at {α γ : Type} {Q : α → γ → Prop} : ∀ {azz : List α} {cs : List γ}, Rel2 Q azz cs → azz.length = cs.length ∧ ∀ (i : Nat) (c : γ), cs[i]? = some c → ∃ a, azz[i]? = some a ∧ Q a c
 | [], [], _ => ⟨rfl, fun i c h => by simp at h⟩
 | a :: azz, c :: cs, h => by
  obtain ⟨e, k⟩ := Rel2.at h.2
  refine ⟨by simp [e], fun i x hx => ?_⟩
  cases i with
  | zero => simp only [List.getElem?_cons_zero, Option.some.injEq] at hx; subst hx; exact ⟨a, rfl, h.1⟩
  | succ i => simpa using k i x (by simpa using hx)
 | [], _ :: _, h => h.elim
 | _ :: _, [], h => h.elim
theorem Rel2.mono {α γ : Type} {Q Q' : α → γ → Prop} (hq : ∀ a c, Q a c → Q' a c) : ∀ {azz : List α} {cs : List γ}, Rel2 Q azz cs → Rel2 Q' azz cs
 | [], [], _ => trivial
 | a :: azz, c :: cs, h => ⟨hq _ _ h.1, Rel2.mono hq h.2⟩
 | [], _ :: _, h => h.elim
 | _ :: _, [], h => h.elim
theorem Qns {α γ : Type} [Inhabited α] [Inhabited γ] {sz : Nat} {enc : α → List Dat} {enc' : γ → List Dat} {ys : List α} {zs : List γ} {v : Value} {fp : List Nat} {S : Nat → Prop} (h : OwV w (.l sz enc ys) v fp) (hS : ∀ b ∈ fp, S b)
  (hr : Rel2 (fun y z => ∀ cs, RdVs S w (enc y) cs → RdVs S w (enc' z) cs) ys zs) : RdV S w (.l sz enc' zs) v := by
 obtain ⟨a, c, e1, e2, e3, e4⟩ := RdV.mono (fun b hb => ⟨hS b hb, rfl⟩) _ _ (OwV.rd _ _ _ h)
 obtain ⟨hl, hr⟩ := hr.at
 refine ⟨a, c, by rw [← hl]; exact e1, by omega, by omega, fun i z hz => ?_⟩
 obtain ⟨y, hy, hq⟩ := hr i z hz
 obtain ⟨g1, g2, cs, g3, g4, g5⟩ := e4 i y hy
 exact ⟨g1, g2, cs, g3, g4, hq cs g5⟩
end
theorem fsG1 {a : Fact} {X : Nat} {f : Fact} (h : fsG [(0, some a)] X = some f) : X = 0 ∧ f = a := by
 simp only [fsG] at h
 cases hb : Nat.beq 0 X with
 | true => rw [hb] at h; cases h; exact ⟨(Nat.eq_of_beq_eq_true hb).symm, rfl⟩
 | false => rw [hb] at h; cases h
theorem fsG3 {a b c : Fact} {X : Nat} {f : Fact} (h : fsG [(0, some a), (1, some b), (2, some c)] X = some f) : (X = 0 ∧ f = a) ∨ (X = 1 ∧ f = b) ∨ (X = 2 ∧ f = c) := by
 simp only [fsG] at h
 cases h0 : Nat.beq 0 X with
 | true => rw [h0] at h; cases h; exact .inl ⟨(Nat.eq_of_beq_eq_true h0).symm, rfl⟩
 | false =>
  rw [h0] at h
  cases h1 : Nat.beq 1 X with
  | true => rw [h1] at h; cases h; exact .inr (.inl ⟨(Nat.eq_of_beq_eq_true h1).symm, rfl⟩)
  | false =>
   rw [h1] at h
   cases h2 : Nat.beq 2 X with
   | true => rw [h2] at h; cases h; exact .inr (.inr ⟨(Nat.eq_of_beq_eq_true h2).symm, rfl⟩)
   | false => rw [h2] at h; cases h
section
variable {P : Program} {N : Nat} {ψ IN : Nat → Prop} {w0 w : World} {a : Act}
theorem pack3 {s : St} {T : TypeId} {bx : List Value} {α : Type} [Inhabited α] {sz : Nat} {enc : α → List Dat} {ys : List α} {X : FX} {rest : List Nat} {β : Nat → Nat → Value} {φ : Nat → List Nat} {dom : Nat → Prop} (V : StOK P N ψ IN w0 s a w β φ dom)
  (h0 : fsG s.fs 0 = some (.box T (bx.map .v))) (h1 : ∃ g, fsG s.fs 1 = some g ∧ g.mod = true) (hr : Qhu (fsG s.fs) rest = true) (hnd : Kn (0 :: 1 :: rest) = true) (hd2 : dom 2)
  (ho : OwV w (.l sz enc ys) (β 1 0) (φ 1)) (hx : (rest.flatMap φ).Nodup → (∀ b ∈ rest.flatMap φ, b < w.heap.size) → X.ow w (β 2 0) (rest.flatMap φ)) :
  Yp P N ψ IN w0 ⟨s.sl, [(0, some (.box T (bx.map .v))), (1, some (.own 1 (.l sz enc ys))), (2, some (.own 2 (.x X)))], s.nx⟩ a w := by
 have R := V.rel
 have hnn := Kx hnd
 have hm := Qbj hr
 obtain ⟨n1, n2⟩ := List.nodup_cons.1 hnn
 obtain ⟨n3, n4⟩ := List.nodup_cons.1 n2
 obtain ⟨g1, h1, h1m⟩ := h1
 refine ⟨β, fun X => if X = 2 then rest.flatMap φ else φ X, dom, V.size, V.defers, V.has, ?_, V.bound⟩
 refine R.pack (fun X => if X = 2 then rest else [X]) (fun Y f hY => ?_) (fun Y f hY hmod b hb => ?_) (fun Y Y' hne hY hY' Z hZ hZ' => ?_)
 ·rcases fsG3 hY with ⟨rfl, rfl⟩ | ⟨rfl, rfl⟩ | ⟨rfl, rfl⟩
  ·exact ⟨(R.ok 0 _ h0).1, (R.ok 0 _ h0).2⟩
  ·exact ⟨(R.ok 1 _ h1).1, (R.ok 1 _ h1).1, ho⟩
  ·exact ⟨hd2, hd2, by simp only [if_true]; exact hx (R.flat_nd n4 hm) (R.flat_lt hm)⟩
 ·rcases fsG3 hY with ⟨rfl, rfl⟩ | ⟨rfl, rfl⟩ | ⟨rfl, rfl⟩
  ·exact ⟨0, List.mem_singleton.2 rfl, ⟨_, h0, rfl⟩, hb⟩
  ·exact ⟨1, List.mem_singleton.2 rfl, ⟨_, h1, h1m⟩, hb⟩
  ·simp only [if_true] at hb ⊢
   obtain ⟨Z, k1, k2⟩ := List.mem_flatMap.1 hb
   exact ⟨Z, k1, hm Z k1, k2⟩
 ·obtain ⟨f, hf⟩ := hY
  obtain ⟨f', hf'⟩ := hY'
  have n1' : (0 : Nat) ∉ rest := fun h => n1 (List.mem_cons_of_mem _ h)
  rcases fsG3 hf with ⟨rfl, _⟩ | ⟨rfl, _⟩ | ⟨rfl, _⟩ <;> rcases fsG3 hf' with ⟨rfl, _⟩ | ⟨rfl, _⟩ | ⟨rfl, _⟩ <;> simp only [if_true, if_neg (show ¬ (0 : Nat) = 2 by decide), if_neg (show ¬ (1 : Nat) = 2 by decide), List.mem_singleton] at hZ hZ'
  all_goals first | exact hne rfl | (subst hZ; exact n1' hZ') | (subst hZ; exact n3 hZ') | (subst hZ'; exact n1' hZ) | (subst hZ'; exact n3 hZ) | (subst hZ; cases hZ')
theorem pack1 {s : St} {t : Nat} {d : Dat} {X : FX} {e : Dat} {nx : Nat} (hfs : s.fs = [(0, some (.own 0 d)), (1, some (.own 1 (.x X)))]) (hnx : s.nx = nx) (hsl : slG s.sl t = some (.h 0 0))
  (hr : ∀ (v y : Value) (f g : List Nat), OwV w d v f → X.ow w y g → RdV (fun b => b ∈ f ++ g) w e v) (H : Yp P N ψ IN w0 s a w) :
  Yp P N ψ IN w0 ⟨[(t, some (.h 0 0))], [(0, some (.own 0 (.b e)))], nx⟩ a w := by
 obtain ⟨β, φ, dom, V⟩ := H
 have R := V.rel
 have h0 : fsG s.fs 0 = some (.own 0 d) := by rw [hfs]; rfl
 have h1 : fsG s.fs 1 = some (.own 1 (.x X)) := by rw [hfs]; rfl
 obtain ⟨k1, _, k2⟩ := R.ok 0 _ h0
 obtain ⟨q1, _, q2⟩ := R.ok 1 _ h1
 have hm : ∀ id ∈ [0, 1], ∃ g, fsG s.fs id = some g ∧ g.mod = true := fun id hid => by
  rcases List.mem_cons.1 hid with rfl | hid
  ·exact ⟨_, h0, rfl⟩
  ·obtain rfl := List.mem_singleton.1 hid; exact ⟨_, h1, rfl⟩
 have hfm : [0, 1].flatMap φ = φ 0 ++ φ 1 := by simp
 have hnd := R.flat_nd (ids := [0, 1]) (by decide) hm
 have hlt := R.flat_lt (ids := [0, 1]) hm
 rw [hfm] at hnd hlt
 refine ⟨β, fun X => if X = 0 then φ 0 ++ φ 1 else φ X, dom, V.size, V.defers, fun t' av ht => ?_, ?_, fun id hid => hnx ▸ V.bound id hid⟩
 ·simp only [slG] at ht
  cases hb : Nat.beq t t' with
  | true =>
   rw [hb] at ht
   cases ht
   have e := Nat.eq_of_beq_eq_true hb
   subst e
   exact V.has t _ hsl
  | false => rw [hb] at ht; cases ht
 ·refine R.pack (fun X => if X = 0 then [0, 1] else [X]) (fun Y f hY => ?_) (fun Y f hY hmod b hb => ?_) (fun Y Y' hne hY hY' Z hZ hZ' => ?_)
  ·obtain ⟨rfl, rfl⟩ := fsG1 hY
   exact ⟨k1, k1, by simp only [if_true]; exact ⟨hr _ _ _ _ k2 q2, hnd, hlt⟩⟩
  ·obtain ⟨rfl, rfl⟩ := fsG1 hY
   simp only [if_true] at hb ⊢
   rcases List.mem_append.1 hb with hb | hb
   ·exact ⟨0, by simp, hm 0 (by simp), hb⟩
   ·exact ⟨1, by simp, hm 1 (by simp), hb⟩
  ·obtain ⟨f, hf⟩ := hY
   obtain ⟨f', hf'⟩ := hY'
   exact hne ((fsG1 hf).1.trans (fsG1 hf').1.symm)
end
theorem ifb (c : Bool) {A B : Prop} (a : c = true → A) (b : c = false → B) : (c = true → A) ∧ (c = false → B) := ⟨a, b⟩
theorem ifd (p : Prop) [Decidable p] {A B : Prop} (a : decide p = true → p → A) (b : decide p = false → ¬ p → B) : (decide p = true → A) ∧ (decide p = false → B) :=
 ⟨fun h => a h (of_decide_eq_true h), fun h => b h (of_decide_eq_false h)⟩
theorem ife (x y : Int) {A B : Prop} (a : (x == y) = true → x = y → A) (b : (x == y) = false → ¬ x = y → B) : ((x == y) = true → A) ∧ ((x == y) = false → B) :=
 ⟨fun h => a h (eq_of_beq h), fun h => b h (beqF h)⟩
theorem ifn (x y : Int) {A B : Prop} (a : (x != y) = true → ¬ x = y → A) (b : (x != y) = false → x = y → B) : ((x != y) = true → A) ∧ ((x != y) = false → B) :=
 ⟨fun h => a h (bneT h), fun h => b h (bneF h)⟩
theorem kn {α : Type} (xs : List α) {K : Prop} (k : xs.length ≤ 9223372036854775807 → K) : xs.length ≤ 9223372036854775807 → K := k
abbrev ib (k : Int) {α : Type} (l : List α) : Prop := 0 ≤ k ∧ k < (l.length : Int)
theorem fiB (r c : Bool) (h : r = c) : (.bool r : Value) = .bool c ∧ True := ⟨h ▸ rfl, trivial⟩
theorem fiS (r c : ByteArray) (h : r = c) : (.string r : Value) = .string c ∧ True := ⟨h ▸ rfl, trivial⟩
theorem fiI (r c : Int) (h : r = c) : (.int .i64 r : Value) = .int .i64 c ∧ True := ⟨h ▸ rfl, trivial⟩
abbrev Rf (x : Value) : Prop := x = x
abbrev Im (x : Dat) : Prop := Imp x x
abbrev Ims (x : List Dat) : Prop := Imps x x
abbrev LpX {σ ρ : Type} (step : σ → Lp σ ρ) (N : Nat × σ) : Lp σ ρ := runL step N.1 N.2
abbrev LpJ {σ ρ : Type} (step : σ → Lp σ ρ) (N i : Nat × σ) (I : Prop) : Prop := runL step i.1 i.2 = runL step N.1 N.2 ∧ I
abbrev LpH {σ ρ : Type} (step : σ → Lp σ ρ) (N i : Nat × σ) (m : Nat) (v : σ) (I : Prop) : Prop := runL step (m + 1) v = runL step N.1 N.2 ∧ m < i.1 ∧ I
theorem iok (x : Int) (h : -9223372036854775808 ≤ x ∧ x ≤ 9223372036854775807) : i64ok x := h
theorem bokr {α : Type} [Inhabited α] (sz : Nat) (enc : α → List Dat) (ys : List α) (hl : ∀ y, (enc y).length = sz) : BuildOK ys.length sz (ys.map enc).flatten (.l sz enc ys) := BuildOK.mk enc ys rfl (Imps.refl _) hl
theorem appr {α : Type} [Inhabited α] (sz : Nat) (enc : α → List Dat) (xs ys : List α) (hl : ∀ y, (enc y).length = sz) : AppA (.l sz enc xs) ys.length sz (ys.map enc).flatten (.l sz enc (xs ++ ys)) := AppA.mk enc xs ys (Imp.refl _) rfl (Imps.refl _) hl
theorem setr {α : Type} [Inhabited α] (sz : Nat) (enc : α → List Dat) (xs : List α) (k : Nat) (x : α) : SetOK (.l sz enc xs) k (enc (xs.getD k default)) (enc x) (.l sz enc (xs.set k x)) := SetOK.mk enc xs x rfl (Imps.refl _)
def datV : Dat → Value
 | .v x => x
 | _ => default
def Plain {α : Type} (k : Nat) (e : α → List Dat) : Prop := ∀ x, (e x).length = k ∧ ∀ d ∈ e x, ∃ v, d = .v v ∧ v.oneCell' = true
def encV {α : Type} (e : α → List Dat) (x : α) : List Value := (e x).map datV
theorem Plain.len {α : Type} {k : Nat} {e : α → List Dat} (h : Plain k e) (x : α) : (encV e x).length = k := by rw [encV, List.length_map, (h x).1]
theorem Plain.one {α : Type} {k : Nat} {e : α → List Dat} (h : Plain k e) (x : α) : ∀ v ∈ encV e x, v.oneCell' = true := fun v hv => by
 obtain ⟨d, hd, rfl⟩ := List.mem_map.1 hv
 obtain ⟨v, rfl, h1⟩ := (h x).2 d hd
 exact h1
end Go.Proofs.YtmoodkjkecjeaaaGreatDoor
namespace Go.Proofs.YtmoodkjkecjeaaaGreatDoor
open Go.RowKit Go.Shelf
set_option linter.unusedVariables false
set_option linter.unusedSimpArgs false
section
variable {P : Program} {ρ : Go.Shelf.Ren}
theorem Qnf (SS : Nat → Prop) (w : World) (n : Nat) : Chg SS w (w.drewN n) := ⟨rfl, rfl, rfl, Nat.le_refl _, fun _ _ _ => rfl, Nat.le_add_right _ _⟩
theorem Qno (SS : Nat → Prop) (w : World) (o : Obj) : Chg SS w (w.alloc o) := Chg.of_below (Qbr w o)
def cut3 (s sep : ByteArray) : ByteArray × ByteArray × Bool := (⟨(Lib.cut s.data.toList sep.data.toList).1.toArray⟩, ⟨(Lib.cut s.data.toList sep.data.toList).2.1.toArray⟩, (Lib.cut s.data.toList sep.data.toList).2.2)
theorem cut_ok (L : Lays.n145 P ρ) (hg : ρ.g 1 ∈ GBi) (s sep : ByteArray) : Spec.ok P (ρ.f 145) ⟨[.r (.c (.v (.string s))), .r (.c (.v (.string sep)))], .tu [.v (.string (cut3 s sep).1), .v (.string (cut3 s sep).2.1), .v (.bool (cut3 s sep).2.2)], s.size ≤ 4294967280⟩ := by
 intro hs S w vs fp hS hG hA
 obtain ⟨u, us, f, g, rfl, ⟨⟨rfl, _⟩, rfl⟩, ⟨u2, us2, f2, g2, rfl, ⟨⟨rfl, _⟩, rfl⟩, ⟨rfl, rfl⟩, rfl, _⟩, rfl, _⟩ := hA
 obtain ⟨m, hm⟩ := hG.1.2.1 _ hg
 have hs : s.size ≤ 4294967280 := hs
 refine (Any.strings_Cut L s sep m w (by omega) hm).mono fun e w' ⟨h1, n, h2⟩ => ?_
 subst h2
 exact ⟨_, [], [], h1, ⟨[_, _, _], rfl, _, _, [], [], rfl, ⟨rfl, rfl, rfl⟩, ⟨_, _, [], [], rfl, ⟨rfl, rfl, rfl⟩, ⟨_, _, [], [], rfl, ⟨rfl, rfl, rfl⟩, ⟨rfl, rfl⟩, rfl⟩, rfl⟩, rfl⟩,
  ⟨_, _, [], [], rfl, rfl, ⟨_, _, [], [], rfl, rfl, rfl, rfl⟩, rfl⟩, List.nodup_nil, fun b hb => by simp at hb, Qnf _ w n⟩
def Qw (s sep : ByteArray) : List ByteArray := Lib.splitB sep 0 (Lib.countB s sep) s
theorem Qlh (w : World) : ∀ ys : List ByteArray, OwVs w (ys.map eStr).flatten (ys.map Value.string) []
 | [] => ⟨rfl, rfl⟩
 | y :: ys => ⟨.string y, ys.map Value.string, [], [], rfl, ⟨rfl, rfl, rfl⟩, Qlh w ys, rfl, List.nodup_nil⟩
theorem Bw (s sep : ByteArray) (h1 : 1 ≤ sep.size) : (Qw s sep).length = Lib.countB s sep + 1 := Lib.splitB_all sep h1 0 _ s rfl
theorem Quy (L : Lays.n146 P ρ) (hi9 : (P.info? (ρ.t 9)).map (fun i => (i.zero, i.size, i.bytes)) = some (some (.string ByteArray.empty), 1, 16)) (hg : ρ.g 1 ∈ GBi) (s sep : ByteArray) :
  Spec.ok P (ρ.f 146) ⟨[.r (.c (.v (.string s))), .r (.c (.v (.string sep)))], .ow (.l 1 eStr (Qw s sep)), s.size ≤ 4294967280 ∧ 1 ≤ sep.size⟩ := by
 intro ⟨hs, h1⟩ S w vs fp hS hG hA
 obtain ⟨u, us, f, g, rfl, ⟨⟨rfl, _⟩, rfl⟩, ⟨u2, us2, f2, g2, rfl, ⟨⟨rfl, _⟩, rfl⟩, ⟨rfl, rfl⟩, rfl, _⟩, rfl, _⟩ := hA
 obtain ⟨m, hm⟩ := hG.1.2.1 _ hg
 have hle := Lib.countB_le sep h1 s.size s (Nat.le_refl _)
 have hlen := Bw s sep h1
 refine (Any.strings_Split L hi9 s sep m w (by omega) hm h1).mono fun e w' ⟨h2, h3⟩ => ?_
 subst h3
 refine ⟨_, [w.heap.size], [], h2, ?_, ⟨_, _, [], [], rfl, rfl, ⟨_, _, [], [], rfl, rfl, rfl, rfl⟩, rfl⟩, by simp, fun b hb => ?_, (Qno _ w _).toD _⟩
 ·rw [← hlen]
  refine Hd (ys := Qw s sep) (vs := (Qw s sep).map Value.string) (rest := []) (c := (Qw s sep).length) (T := ρ.t 9) (Qlh _ _) (fun y _ => rfl) (Qbr w _) (by simp) ?_ (by simp) (Nat.le_refl _) (by omega)
  simp only [List.append_nil]
  exact heap_alloc_new w _
 ·have hb : b = w.heap.size := by simpa using hb
  subst hb
  exact ⟨by simp, .inr (Nat.le_refl _)⟩
theorem Qin (s sep : ByteArray) (h1 : 1 ≤ sep.size) : 1 ≤ (Qw s sep).length := (Bw s sep h1).symm ▸ Nat.le_add_left 1 _
theorem Qnn (s sep : ByteArray) (h1 : 1 ≤ sep.size) : (Qw s sep).length ≤ s.size + 1 := by
 rw [Bw s sep h1]
 have := Lib.countB_le sep h1 s.size s (Nat.le_refl _)
 omega
theorem Rl (s sep : ByteArray) : ((cut3 s sep).1.size : Int) ≤ (s.size : Int) := by
 have : (cut3 s sep).1.size ≤ s.size := by
  show (Lib.cut s.data.toList sep.data.toList).1.toArray.size ≤ s.data.size
  unfold Lib.cut
  split
  ·simp only [List.size_toArray, List.length_take, List.length_drop]
   have : s.data.toList.length = s.data.size := by simp
   omega
  ·simp
 omega
theorem Qwd (s sep : ByteArray) : ((cut3 s sep).2.1.size : Int) ≤ (s.size : Int) := by
 have : (cut3 s sep).2.1.size ≤ s.size := by
  show (Lib.cut s.data.toList sep.data.toList).2.1.toArray.size ≤ s.data.size
  unfold Lib.cut
  split
  ·simp only [List.size_toArray, List.length_take, List.length_drop]
   have : s.data.toList.length = s.data.size := by simp
   omega
  ·simp
 omega
def Yo (xs : List ByteArray) (sep : ByteArray) : ByteArray := ⟨(Lib.join (xs.map (·.data.toList)) sep.data.toList).toArray⟩
theorem Qxs (L : Lays.n156 P ρ) (X : Builder.Extra P ρ) (xs : List ByteArray) (sep : ByteArray) :
  Spec.ok P (ρ.f 156) ⟨[.r (.c (.l 1 eStr xs)), .r (.c (.v (.string sep)))], .v (.string (Yo xs sep)), xs.length ≤ 140737488355328 ∧ (Yo xs sep).size ≤ 140737488355328⟩ false := by
 intro ⟨hl, hj⟩ S w vs fp hS hG hA
 obtain ⟨u, us, f, g, rfl, ⟨⟨a, c, rfl, hc, h63, hx⟩, rfl⟩, ⟨u2, us2, f2, g2, rfl, ⟨⟨rfl, _⟩, rfl⟩, ⟨rfl, rfl⟩, rfl, _⟩, rfl, _⟩ := hA
 have fin : ∀ (e : Ending) (w' : World), e = .returned (.string (Yo xs sep)) → Below w.heap.size w w' → ∃ rv fr fb, e = .returned rv ∧ RTOK w' (.v (.string (Yo xs sep))) rv fr ∧ Lu w' [.r (.c (.l 1 eStr xs)), .r (.c (.v (.string sep)))] [.slice a xs.length c, .string sep] fb ∧ (fr ++ fb).Nodup ∧ (∀ b ∈ fr ++ fb, b < w'.heap.size ∧ (b ∈ ([] ++ ([] ++ []) : List Nat) ∨ w.heap.size ≤ b)) ∧ Chg (· ∈ ([] ++ ([] ++ []) : List Nat)) (atD false w) w' :=
  fun e w' h1 h2 => ⟨_, [], [], h1, ⟨rfl, rfl, rfl⟩, ⟨_, _, [], [], rfl, rfl, ⟨_, _, [], [], rfl, rfl, rfl, rfl⟩, rfl⟩, List.nodup_nil, fun b hb => by simp at hb, ⟨h2.os, h2.tape, h2.output, h2.size, fun k hk _ => h2.block k hk, Nat.zero_le _⟩⟩
 cases xs with
 | nil =>
  refine (Any.strings_Join_none L X a c sep w).mono fun e w' ⟨h1, h2⟩ => fin e w' ?_ (h2 ▸ Below.refl _ _)
  rw [h1]; rfl
 | cons x xs =>
  obtain ⟨ha, hSb, _⟩ := hx 0 x rfl
  rw [ha]
  refine (Any.strings_Join L X (ab a) (ao a) c (x :: xs) sep w (fun j y hy => ?_) (hS _ hSb).1 hl hc (by simpa [Yo, ByteArray.size] using hj)).mono fun e w' ⟨h1, h2⟩ => ?_
  ·obtain ⟨_, _, cs, h1, h2, h3⟩ := hx j y hy
   obtain ⟨u, us, rfl, ⟨rfl, _⟩, _⟩ := h3
   have := h2 0 _ rfl
   simpa using this
  ·have := fin e w' h1 h2
   rw [ha] at this
   exact this
open Go.Sort in
end
end Go.Proofs.YtmoodkjkecjeaaaGreatDoor
namespace Go.Proofs.YtmoodkjkecjeaaaGreatDoor
open Go.Shelf Go.RowKit
def Qdk : Go.Shelf.Ren := ⟨fun | 146 => 60 | 221 => 71 | 268 => 85 | 138 => 86 | 143 => 87 | 195 => 104 | 197 => 105 | 218 => 106 | 219 => 98 | 260 => 127 | 217 => 114 | 225 => 115 | 224 => 116 | 267 => 117 | 266 => 129 | 314 => 130 | n => n, fun | 9 => 9 | 31 => 22 | 3 => 3 | 4 => 4 | 0 => 0 | 105 => 103 | 21 => 21 | 5 => 5 | 46 => 110 | 119 => 133 | 139 => 136 | 138 => 135 | 146 => 119 | 51 => 118 | n => n, fun | 1 => 0 | 3 => 3 | 4 => 4 | n => n⟩
theorem Qok : Go.Proofs.Lays.n146 Tryz.prog Qdk := {
 mixed := by kernel_rfl
 f138 := Tryz.func86.trans (congrArg some (by kernel_rfl))
 f143 := Tryz.func87.trans (congrArg some (by kernel_rfl))
 f146 := Tryz.func60.trans (congrArg some (by kernel_rfl))
 f195 := Tryz.func104.trans (congrArg some (by kernel_rfl))
 f197 := Tryz.func105.trans (congrArg some (by kernel_rfl))
 f217 := Tryz.func114.trans (congrArg some (by kernel_rfl))
 f218 := Tryz.func106.trans (congrArg some (by kernel_rfl))
 f219 := Tryz.func98.trans (congrArg some (by kernel_rfl))
 f221 := Tryz.func71.trans (congrArg some (by kernel_rfl))
 f224 := Tryz.func116.trans (congrArg some (by kernel_rfl))
 f225 := Tryz.func115.trans (congrArg some (by kernel_rfl))
 f260 := Tryz.func127.trans (congrArg some (by kernel_rfl))
 f266 := Tryz.func129.trans (congrArg some (by kernel_rfl))
 f267 := Tryz.func117.trans (congrArg some (by kernel_rfl))
 f268 := Tryz.func85.trans (congrArg some (by kernel_rfl))
 f314 := Tryz.func130.trans (congrArg some (by kernel_rfl))
 t0 := Tryz.underlying0
 a0 := Tryz.isAgg0
 z0 := Tryz.sizeOf0
 v0 := Tryz.zeroValue0
 t3 := Tryz.underlying3
 a3 := Tryz.isAgg3
 z3 := Tryz.sizeOf3
 v3 := Tryz.zeroValue3
 t4 := Tryz.underlying4
 a4 := Tryz.isAgg4
 z4 := Tryz.sizeOf4
 v4 := Tryz.zeroValue4
 t5 := Tryz.underlying5
 a5 := Tryz.isAgg5
 z5 := Tryz.sizeOf5
 v5 := Tryz.zeroValue5
 t9 := Tryz.underlying9
 a9 := Tryz.isAgg9
 z9 := Tryz.sizeOf9
 v9 := Tryz.zeroValue9
 t21 := Tryz.underlying21
 a21 := Tryz.isAgg21
 z21 := Tryz.sizeOf21
 v21 := Tryz.zeroValue21
 t31 := Tryz.underlying22
 a31 := Tryz.isAgg22
 z31 := Tryz.sizeOf22
 v31 := Tryz.zeroValue22
 t46 := Tryz.underlying110
 a46 := Tryz.isAgg110
 z46 := Tryz.sizeOf110
 v46 := Tryz.zeroValue110
 t51 := Tryz.underlying118
 a51 := Tryz.isAgg118
 z51 := Tryz.sizeOf118
 v51 := Tryz.zeroValue118
 t105 := Tryz.underlying103
 a105 := Tryz.isAgg103
 z105 := Tryz.sizeOf103
 v105 := Tryz.zeroValue103
 t119 := Tryz.underlying133
 a119 := Tryz.isAgg133
 z119 := Tryz.sizeOf133
 t138 := Tryz.underlying135
 a138 := Tryz.isAgg135
 z138 := Tryz.sizeOf135
 v138 := Tryz.zeroValue135
 t139 := Tryz.underlying136
 a139 := Tryz.isAgg136
 z139 := Tryz.sizeOf136
 v139 := Tryz.zeroValue136
 t146 := Tryz.underlying119
 a146 := Tryz.isAgg119
 z146 := Tryz.sizeOf119
 v146 := Tryz.zeroValue119
 g1 := by kernel_rfl
 g3 := by kernel_rfl
 g4 := by kernel_rfl }
def Md : Go.Shelf.Ren := ⟨fun | 156 => 62 | 165 => 74 | 166 => 75 | 169 => 76 | 240 => 96 | 241 => 97 | 276 => 112 | 277 => 113 | n => n, fun | 31 => 22 | 9 => 9 | 3 => 3 | 4 => 4 | 0 => 0 | 20 => 20 | 72 => 87 | 76 => 91 | 70 => 85 | 37 => 63 | 75 => 90 | 127 => 101 | 164 => 107 | 5 => 5 | 80 => 93 | n => n, fun | n => n⟩
theorem Qxh : Go.Proofs.Lays.n156 Tryz.prog Md := {
 mixed := by kernel_rfl
 f156 := Tryz.func62.trans (congrArg some (by kernel_rfl))
 f165 := Tryz.func74.trans (congrArg some (by kernel_rfl))
 f166 := Tryz.func75.trans (congrArg some (by kernel_rfl))
 f169 := Tryz.func76.trans (congrArg some (by kernel_rfl))
 f240 := Tryz.func96.trans (congrArg some (by kernel_rfl))
 f241 := Tryz.func97.trans (congrArg some (by kernel_rfl))
 f276 := Tryz.func112.trans (congrArg some (by kernel_rfl))
 f277 := Tryz.func113.trans (congrArg some (by kernel_rfl))
 t0 := Tryz.underlying0
 a0 := Tryz.isAgg0
 z0 := Tryz.sizeOf0
 v0 := Tryz.zeroValue0
 t3 := Tryz.underlying3
 a3 := Tryz.isAgg3
 z3 := Tryz.sizeOf3
 v3 := Tryz.zeroValue3
 t4 := Tryz.underlying4
 a4 := Tryz.isAgg4
 z4 := Tryz.sizeOf4
 v4 := Tryz.zeroValue4
 t9 := Tryz.underlying9
 a9 := Tryz.isAgg9
 z9 := Tryz.sizeOf9
 v9 := Tryz.zeroValue9
 t20 := Tryz.underlying20
 a20 := Tryz.isAgg20
 z20 := Tryz.sizeOf20
 v20 := Tryz.zeroValue20
 t31 := Tryz.underlying22
 a31 := Tryz.isAgg22
 z31 := Tryz.sizeOf22
 v31 := Tryz.zeroValue22
 t37 := Tryz.underlying63
 a37 := Tryz.isAgg63
 z37 := Tryz.sizeOf63
 v37 := Tryz.zeroValue63
 t70 := Tryz.underlying85
 a70 := Tryz.isAgg85
 z70 := Tryz.sizeOf85
 v70 := Tryz.zeroValue85
 t72 := Tryz.underlying87
 a72 := Tryz.isAgg87
 z72 := Tryz.sizeOf87
 v72 := Tryz.zeroValue87
 t75 := Tryz.underlying90
 a75 := Tryz.isAgg90
 z75 := Tryz.sizeOf90
 v75 := Tryz.zeroValue90
 t76 := Tryz.underlying91
 a76 := Tryz.isAgg91
 z76 := Tryz.sizeOf91
 v76 := Tryz.zeroValue91
 t127 := Tryz.underlying101
 a127 := Tryz.isAgg101
 z127 := Tryz.sizeOf101
 v127 := Tryz.zeroValue101
 t164 := Tryz.underlying107
 a164 := Tryz.isAgg107
 z164 := Tryz.sizeOf107
 v164 := Tryz.zeroValue107 }
def Qhm : Go.Shelf.Ren := ⟨fun | 145 => 64 | 220 => 77 | 219 => 98 | 217 => 114 | 225 => 115 | 224 => 116 | 267 => 117 | 266 => 129 | 314 => 130 | n => n, fun | 9 => 9 | 4 => 4 | 59 => 78 | 3 => 3 | 5 => 5 | 46 => 110 | 146 => 119 | 51 => 118 | n => n, fun | 1 => 0 | n => n⟩
theorem layCut : Go.Proofs.Lays.n145 Tryz.prog Qhm := {
 mixed := by kernel_rfl
 f145 := Tryz.func64.trans (congrArg some (by kernel_rfl))
 f217 := Tryz.func114.trans (congrArg some (by kernel_rfl))
 f219 := Tryz.func98.trans (congrArg some (by kernel_rfl))
 f220 := Tryz.func77.trans (congrArg some (by kernel_rfl))
 f224 := Tryz.func116.trans (congrArg some (by kernel_rfl))
 f225 := Tryz.func115.trans (congrArg some (by kernel_rfl))
 f266 := Tryz.func129.trans (congrArg some (by kernel_rfl))
 f267 := Tryz.func117.trans (congrArg some (by kernel_rfl))
 f314 := Tryz.func130.trans (congrArg some (by kernel_rfl))
 t3 := Tryz.underlying3
 a3 := Tryz.isAgg3
 z3 := Tryz.sizeOf3
 v3 := Tryz.zeroValue3
 t4 := Tryz.underlying4
 a4 := Tryz.isAgg4
 z4 := Tryz.sizeOf4
 v4 := Tryz.zeroValue4
 t5 := Tryz.underlying5
 a5 := Tryz.isAgg5
 z5 := Tryz.sizeOf5
 v5 := Tryz.zeroValue5
 t9 := Tryz.underlying9
 a9 := Tryz.isAgg9
 z9 := Tryz.sizeOf9
 v9 := Tryz.zeroValue9
 t46 := Tryz.underlying110
 a46 := Tryz.isAgg110
 z46 := Tryz.sizeOf110
 v46 := Tryz.zeroValue110
 t51 := Tryz.underlying118
 a51 := Tryz.isAgg118
 z51 := Tryz.sizeOf118
 v51 := Tryz.zeroValue118
 t59 := Tryz.underlying78
 a59 := Tryz.isAgg78
 z59 := Tryz.sizeOf78
 v59 := Tryz.zeroValue78
 t146 := Tryz.underlying119
 a146 := Tryz.isAgg119
 z146 := Tryz.sizeOf119
 v146 := Tryz.zeroValue119
 g1 := by kernel_rfl }
def Qfz : Go.Shelf.Ren := ⟨fun | 145 => 64 | 220 => 77 | 219 => 98 | 217 => 114 | 225 => 115 | 224 => 116 | 267 => 117 | 266 => 129 | 314 => 130 | n => n, fun | 9 => 9 | 4 => 4 | 59 => 78 | 3 => 3 | 5 => 5 | 46 => 110 | 146 => 119 | 51 => 118 | n => n, fun | 1 => 0 | n => n⟩
theorem layCutM : Go.Proofs.LaysM.n145 Tryz.prog Qfz := {
 mixed := by kernel_rfl
 f145 := Tryz.func64.trans (congrArg some (by kernel_rfl))
 f217 := Tryz.func114.trans (congrArg some (by kernel_rfl))
 f219 := Tryz.func98.trans (congrArg some (by kernel_rfl))
 f220 := Tryz.func77.trans (congrArg some (by kernel_rfl))
 f224 := Tryz.func116.trans (congrArg some (by kernel_rfl))
 f225 := Tryz.func115.trans (congrArg some (by kernel_rfl))
 f266 := Tryz.func129.trans (congrArg some (by kernel_rfl))
 f267 := Tryz.func117.trans (congrArg some (by kernel_rfl))
 f314 := Tryz.func130.trans (congrArg some (by kernel_rfl))
 t3 := Tryz.underlying3
 a3 := Tryz.isAgg3
 z3 := Tryz.sizeOf3
 v3 := Tryz.zeroValue3
 t4 := Tryz.underlying4
 a4 := Tryz.isAgg4
 z4 := Tryz.sizeOf4
 v4 := Tryz.zeroValue4
 t5 := Tryz.underlying5
 a5 := Tryz.isAgg5
 z5 := Tryz.sizeOf5
 v5 := Tryz.zeroValue5
 t9 := Tryz.underlying9
 a9 := Tryz.isAgg9
 z9 := Tryz.sizeOf9
 v9 := Tryz.zeroValue9
 t46 := Tryz.underlying110
 a46 := Tryz.isAgg110
 z46 := Tryz.sizeOf110
 v46 := Tryz.zeroValue110
 t51 := Tryz.underlying118
 a51 := Tryz.isAgg118
 z51 := Tryz.sizeOf118
 v51 := Tryz.zeroValue118
 t59 := Tryz.underlying78
 a59 := Tryz.isAgg78
 z59 := Tryz.sizeOf78
 v59 := Tryz.zeroValue78
 t146 := Tryz.underlying119
 a146 := Tryz.isAgg119
 z146 := Tryz.sizeOf119
 v146 := Tryz.zeroValue119
 g1 := by kernel_rfl
 i3 := by kernel_rfl
 i4 := by kernel_rfl
 i5 := by kernel_rfl
 i9 := by kernel_rfl
 i46 := by kernel_rfl
 i51 := by kernel_rfl
 i59 := by kernel_rfl
 i146 := by kernel_rfl
 m1 := by kernel_rfl
 s1_3 := fun w h => Go.Proofs.cell_of_shapedOpen_int (zero := #[.int .i64 0]) (t := 3) h (of_decide_eq_true (by kernel_rfl)) (by kernel_rfl) rfl (by kernel_rfl) (by kernel_rfl) Tryz.underlying3 }
def layAtoi_ren : Go.Shelf.Ren := ⟨fun | 172 => 78 | 244 => 99 | 245 => 100 | 247 => 118 | 279 => 119 | 280 => 120 | 281 => 121 | 282 => 122 | 287 => 131 | 316 => 132 | 171 => 79 | 205 => 133 | 321 => 139 | 322 => 140 | 243 => 101 | 246 => 123 | 283 => 134 | 284 => 135 | 285 => 136 | 286 => 137 | 129 => 142 | 317 => 141 | 318 => 143 | 319 => 144 | 320 => 145 | 337 => 146 | 338 => 147 | n => n, fun | 9 => 9 | 3 => 3 | 75 => 90 | 76 => 91 | 4 => 4 | 5 => 5 | 167 => 111 | 37 => 63 | 0 => 0 | 85 => 112 | 2 => 2 | 168 => 114 | 53 => 121 | 175 => 122 | 46 => 110 | 210 => 125 | 127 => 101 | 145 => 140 | 143 => 138 | 21 => 21 | 171 => 127 | 173 => 130 | 212 => 142 | 51 => 118 | 20 => 20 | 213 => 143 | 232 => 146 | 233 => 147 | 80 => 93 | n => n, fun | 15 => 1 | 16 => 2 | 17 => 5 | 18 => 6 | 19 => 7 | n => n⟩
theorem Qcl : Go.Proofs.LaysC.n172 Tryz.prog layAtoi_ren := {
 mixed := by kernel_rfl
 f129 := Tryz.func142.trans (congrArg some (by kernel_rfl))
 f171 := Tryz.func79.trans (congrArg some (by kernel_rfl))
 f172 := Tryz.func78.trans (congrArg some (by kernel_rfl))
 f205 := Tryz.func133.trans (congrArg some (by kernel_rfl))
 f243 := Tryz.func101.trans (congrArg some (by kernel_rfl))
 f244 := Tryz.func99.trans (congrArg some (by kernel_rfl))
 f245 := Tryz.func100.trans (congrArg some (by kernel_rfl))
 f246 := Tryz.func123.trans (congrArg some (by kernel_rfl))
 f247 := Tryz.func118.trans (congrArg some (by kernel_rfl))
 f279 := Tryz.func119.trans (congrArg some (by kernel_rfl))
 f280 := Tryz.func120.trans (congrArg some (by kernel_rfl))
 f281 := Tryz.func121.trans (congrArg some (by kernel_rfl))
 f282 := Tryz.func122.trans (congrArg some (by kernel_rfl))
 f283 := Tryz.func134.trans (congrArg some (by kernel_rfl))
 f284 := Tryz.func135.trans (congrArg some (by kernel_rfl))
 f285 := Tryz.func136.trans (congrArg some (by kernel_rfl))
 f286 := Tryz.func137.trans (congrArg some (by kernel_rfl))
 f287 := Tryz.func131.trans (congrArg some (by kernel_rfl))
 f316 := Tryz.func132.trans (congrArg some (by kernel_rfl))
 f317 := Tryz.func141.trans (congrArg some (by kernel_rfl))
 f318 := Tryz.func143.trans (congrArg some (by kernel_rfl))
 f319 := Tryz.func144.trans (congrArg some (by kernel_rfl))
 f320 := Tryz.func145.trans (congrArg some (by kernel_rfl))
 f321 := Tryz.func139.trans (congrArg some (by kernel_rfl))
 f322 := Tryz.func140.trans (congrArg some (by kernel_rfl))
 f337 := Tryz.func146.trans (congrArg some (by kernel_rfl))
 f338 := Tryz.func147.trans (congrArg some (by kernel_rfl))
 t0 := Tryz.underlying0
 a0 := Tryz.isAgg0
 z0 := Tryz.sizeOf0
 v0 := Tryz.zeroValue0
 t2 := Tryz.underlying2
 a2 := Tryz.isAgg2
 z2 := Tryz.sizeOf2
 v2 := Tryz.zeroValue2
 t3 := Tryz.underlying3
 a3 := Tryz.isAgg3
 z3 := Tryz.sizeOf3
 v3 := Tryz.zeroValue3
 t4 := Tryz.underlying4
 a4 := Tryz.isAgg4
 z4 := Tryz.sizeOf4
 v4 := Tryz.zeroValue4
 t5 := Tryz.underlying5
 a5 := Tryz.isAgg5
 z5 := Tryz.sizeOf5
 v5 := Tryz.zeroValue5
 t9 := Tryz.underlying9
 a9 := Tryz.isAgg9
 z9 := Tryz.sizeOf9
 v9 := Tryz.zeroValue9
 t20 := Tryz.underlying20
 a20 := Tryz.isAgg20
 z20 := Tryz.sizeOf20
 v20 := Tryz.zeroValue20
 t21 := Tryz.underlying21
 a21 := Tryz.isAgg21
 z21 := Tryz.sizeOf21
 v21 := Tryz.zeroValue21
 t37 := Tryz.underlying63
 a37 := Tryz.isAgg63
 z37 := Tryz.sizeOf63
 v37 := Tryz.zeroValue63
 t46 := Tryz.underlying110
 a46 := Tryz.isAgg110
 z46 := Tryz.sizeOf110
 v46 := Tryz.zeroValue110
 t51 := Tryz.underlying118
 a51 := Tryz.isAgg118
 z51 := Tryz.sizeOf118
 v51 := Tryz.zeroValue118
 t53 := Tryz.underlying121
 a53 := Tryz.isAgg121
 z53 := Tryz.sizeOf121
 v53 := Tryz.zeroValue121
 t75 := Tryz.underlying90
 a75 := Tryz.isAgg90
 z75 := Tryz.sizeOf90
 v75 := Tryz.zeroValue90
 t76 := Tryz.underlying91
 a76 := Tryz.isAgg91
 z76 := Tryz.sizeOf91
 v76 := Tryz.zeroValue91
 t85 := Tryz.underlying112
 a85 := Tryz.isAgg112
 z85 := Tryz.sizeOf112
 v85 := Tryz.zeroValue112
 t127 := Tryz.underlying101
 a127 := Tryz.isAgg101
 z127 := Tryz.sizeOf101
 v127 := Tryz.zeroValue101
 t143 := Tryz.underlying138
 a143 := Tryz.isAgg138
 z143 := Tryz.sizeOf138
 v143 := Tryz.zeroValue138
 t145 := Tryz.underlying140
 a145 := Tryz.isAgg140
 z145 := Tryz.sizeOf140
 v145 := Tryz.zeroValue140
 t167 := Tryz.underlying111
 a167 := Tryz.isAgg111
 z167 := Tryz.sizeOf111
 v167 := Tryz.zeroValue111
 t168 := Tryz.underlying114
 a168 := Tryz.isAgg114
 z168 := Tryz.sizeOf114
 v168 := Tryz.zeroValue114
 t171 := Tryz.underlying127
 a171 := Tryz.isAgg127
 z171 := Tryz.sizeOf127
 v171 := Tryz.zeroValue127
 t173 := Tryz.underlying130
 a173 := Tryz.isAgg130
 z173 := Tryz.sizeOf130
 v173 := Tryz.zeroValue130
 t175 := Tryz.underlying122
 a175 := Tryz.isAgg122
 z175 := Tryz.sizeOf122
 v175 := Tryz.zeroValue122
 t210 := Tryz.underlying125
 a210 := Tryz.isAgg125
 z210 := Tryz.sizeOf125
 v210 := Tryz.zeroValue125
 t212 := Tryz.underlying142
 a212 := Tryz.isAgg142
 z212 := Tryz.sizeOf142
 v212 := Tryz.zeroValue142
 t213 := Tryz.underlying143
 a213 := Tryz.isAgg143
 z213 := Tryz.sizeOf143
 t232 := Tryz.underlying146
 a232 := Tryz.isAgg146
 z232 := Tryz.sizeOf146
 v232 := Tryz.zeroValue146
 t233 := Tryz.underlying147
 a233 := Tryz.isAgg147
 z233 := Tryz.sizeOf147
 v233 := Tryz.zeroValue147
 g15 := by kernel_rfl
 g16 := by kernel_rfl
 g17 := by kernel_rfl
 g18 := by kernel_rfl
 g19 := by kernel_rfl
 t80 := Tryz.underlying93
 a80 := Tryz.isAgg93
 z80 := Tryz.sizeOf93
 v80 := Tryz.zeroValue93
 i0 := by kernel_rfl
 i2 := by kernel_rfl
 i3 := by kernel_rfl
 i4 := by kernel_rfl
 i5 := by kernel_rfl
 i9 := by kernel_rfl
 i20 := by kernel_rfl
 i21 := by kernel_rfl
 i37 := by kernel_rfl
 i46 := by kernel_rfl
 i51 := by kernel_rfl
 i53 := by kernel_rfl
 i75 := by kernel_rfl
 i76 := by kernel_rfl
 i80 := by kernel_rfl
 i85 := by kernel_rfl
 i127 := by kernel_rfl
 i143 := by kernel_rfl
 i145 := by kernel_rfl
 i167 := by kernel_rfl
 i168 := by kernel_rfl
 i171 := by kernel_rfl
 i173 := by kernel_rfl
 i175 := by kernel_rfl
 i210 := by kernel_rfl
 i212 := by kernel_rfl
 i232 := by kernel_rfl
 i233 := by kernel_rfl
 m15 := by kernel_rfl
 m16 := by kernel_rfl
 m17 := by kernel_rfl
 m18 := by kernel_rfl
 m19 := by kernel_rfl
 c0 := by kernel_rfl
 c2 := by kernel_rfl
 c3 := by kernel_rfl
 c4 := by kernel_rfl
 c5 := by kernel_rfl
 c9 := by kernel_rfl
 c20 := by kernel_rfl
 c21 := by kernel_rfl
 c37 := by kernel_rfl
 c46 := by kernel_rfl
 c51 := by kernel_rfl
 c53 := by kernel_rfl
 c75 := by kernel_rfl
 c76 := by kernel_rfl
 c80 := by kernel_rfl
 c85 := by kernel_rfl
 c127 := by kernel_rfl
 c143 := by kernel_rfl
 c145 := by kernel_rfl
 c167 := by kernel_rfl
 c168 := by kernel_rfl
 c171 := by kernel_rfl
 c173 := by kernel_rfl
 c175 := by kernel_rfl
 c210 := by kernel_rfl
 c212 := by kernel_rfl
 c213 := by kernel_rfl
 c232 := by kernel_rfl
 c233 := by kernel_rfl }
def layItoa_ren : Go.Shelf.Ren := ⟨fun | 171 => 79 | 243 => 101 | 246 => 123 | 283 => 134 | 284 => 135 | 285 => 136 | 286 => 137 | 129 => 142 | 317 => 141 | 318 => 143 | 319 => 144 | 320 => 145 | 337 => 146 | 338 => 147 | n => n, fun | 3 => 3 | 9 => 9 | 2 => 2 | 4 => 4 | 171 => 127 | 0 => 0 | 53 => 121 | 37 => 63 | 5 => 5 | 173 => 130 | 212 => 142 | 51 => 118 | 20 => 20 | 213 => 143 | 46 => 110 | 232 => 146 | 233 => 147 | n => n, fun | 17 => 5 | 18 => 6 | 19 => 7 | n => n⟩
theorem layItoa : Go.Proofs.LaysM.n171 Tryz.prog layItoa_ren := {
 mixed := by kernel_rfl
 f129 := Tryz.func142.trans (congrArg some (by kernel_rfl))
 f171 := Tryz.func79.trans (congrArg some (by kernel_rfl))
 f243 := Tryz.func101.trans (congrArg some (by kernel_rfl))
 f246 := Tryz.func123.trans (congrArg some (by kernel_rfl))
 f283 := Tryz.func134.trans (congrArg some (by kernel_rfl))
 f284 := Tryz.func135.trans (congrArg some (by kernel_rfl))
 f285 := Tryz.func136.trans (congrArg some (by kernel_rfl))
 f286 := Tryz.func137.trans (congrArg some (by kernel_rfl))
 f317 := Tryz.func141.trans (congrArg some (by kernel_rfl))
 f318 := Tryz.func143.trans (congrArg some (by kernel_rfl))
 f319 := Tryz.func144.trans (congrArg some (by kernel_rfl))
 f320 := Tryz.func145.trans (congrArg some (by kernel_rfl))
 f337 := Tryz.func146.trans (congrArg some (by kernel_rfl))
 f338 := Tryz.func147.trans (congrArg some (by kernel_rfl))
 t0 := Tryz.underlying0
 a0 := Tryz.isAgg0
 z0 := Tryz.sizeOf0
 v0 := Tryz.zeroValue0
 t2 := Tryz.underlying2
 a2 := Tryz.isAgg2
 z2 := Tryz.sizeOf2
 v2 := Tryz.zeroValue2
 t3 := Tryz.underlying3
 a3 := Tryz.isAgg3
 z3 := Tryz.sizeOf3
 v3 := Tryz.zeroValue3
 t4 := Tryz.underlying4
 a4 := Tryz.isAgg4
 z4 := Tryz.sizeOf4
 v4 := Tryz.zeroValue4
 t5 := Tryz.underlying5
 a5 := Tryz.isAgg5
 z5 := Tryz.sizeOf5
 v5 := Tryz.zeroValue5
 t9 := Tryz.underlying9
 a9 := Tryz.isAgg9
 z9 := Tryz.sizeOf9
 v9 := Tryz.zeroValue9
 t20 := Tryz.underlying20
 a20 := Tryz.isAgg20
 z20 := Tryz.sizeOf20
 v20 := Tryz.zeroValue20
 t37 := Tryz.underlying63
 a37 := Tryz.isAgg63
 z37 := Tryz.sizeOf63
 v37 := Tryz.zeroValue63
 t46 := Tryz.underlying110
 a46 := Tryz.isAgg110
 z46 := Tryz.sizeOf110
 v46 := Tryz.zeroValue110
 t51 := Tryz.underlying118
 a51 := Tryz.isAgg118
 z51 := Tryz.sizeOf118
 v51 := Tryz.zeroValue118
 t53 := Tryz.underlying121
 a53 := Tryz.isAgg121
 z53 := Tryz.sizeOf121
 v53 := Tryz.zeroValue121
 t171 := Tryz.underlying127
 a171 := Tryz.isAgg127
 z171 := Tryz.sizeOf127
 v171 := Tryz.zeroValue127
 t173 := Tryz.underlying130
 a173 := Tryz.isAgg130
 z173 := Tryz.sizeOf130
 v173 := Tryz.zeroValue130
 t212 := Tryz.underlying142
 a212 := Tryz.isAgg142
 z212 := Tryz.sizeOf142
 v212 := Tryz.zeroValue142
 t213 := Tryz.underlying143
 a213 := Tryz.isAgg143
 z213 := Tryz.sizeOf143
 t232 := Tryz.underlying146
 a232 := Tryz.isAgg146
 z232 := Tryz.sizeOf146
 v232 := Tryz.zeroValue146
 t233 := Tryz.underlying147
 a233 := Tryz.isAgg147
 z233 := Tryz.sizeOf147
 v233 := Tryz.zeroValue147
 g17 := by kernel_rfl
 g18 := by kernel_rfl
 g19 := by kernel_rfl
 i0 := by kernel_rfl
 i2 := by kernel_rfl
 i3 := by kernel_rfl
 i4 := by kernel_rfl
 i5 := by kernel_rfl
 i9 := by kernel_rfl
 i20 := by kernel_rfl
 i37 := by kernel_rfl
 i46 := by kernel_rfl
 i51 := by kernel_rfl
 i53 := by kernel_rfl
 i171 := by kernel_rfl
 i173 := by kernel_rfl
 i212 := by kernel_rfl
 i232 := by kernel_rfl
 i233 := by kernel_rfl
 m17 := by kernel_rfl
 m18 := by kernel_rfl
 m19 := by kernel_rfl }
theorem Qvj : Builder.Extra Tryz.prog Md where
 sizeBuilder := by kernel_rfl
 liesBuilder := by kernel_rfl
 t5 := Tryz.underlying5
 a5 := Tryz.isAgg5
 z5 := Tryz.sizeOf5
 v5 := Tryz.zeroValue5
 infoByte := by kernel_rfl
 cellsByte := by kernel_rfl
 sizeByte := by kernel_rfl
 neB5 := by decide
end Go.Proofs.YtmoodkjkecjeaaaGreatDoor
namespace Go.Proofs.YtmoodkjkecjeaaaGreatDoor
open Go.RowKit
set_option maxRecDepth 100000
set_option linter.unusedVariables false
set_option linter.unusedSimpArgs false
open Go.Shelf
def decN (s : ByteArray) : Int := match Lib.atoiAll s.data.toList with
 | .ok v => bif decide (0 ≤ v) && (Lib.itoa v == s.data.toList) then v else -1
 | _ => -1
theorem GP.tab {w : World} (h : GP w) : Lib.TabIs Tryz.prog w "internal/strconv.uint64pow10" .u64 Lib.pow10Tab := by
 obtain ⟨T, fz, h1⟩ := h.2.2 _ (List.mem_append_right _ (List.mem_singleton.2 rfl))
 have hg := layItoa.m17
 unfold Lib.TabIs World.var?
 rw [hg]
 simp only [Option.bind_some]
 exact (congrArg (fun o => match o with | some (Obj.cells cs _ _) => some cs | _ => none) h1)
theorem GP.err1 {w : World} (h : GP w) : ∃ e, w.cell? ⟨layAtoi_ren.g 15, 0, none⟩ = some e ∧ (e = .nilIface ∨ ∃ te pe, e = .iface te pe) := h.1 _ (by decide)
theorem GP.err2 {w : World} (h : GP w) : ∃ e, w.cell? ⟨layAtoi_ren.g 16, 0, none⟩ = some e ∧ (e = .nilIface ∨ ∃ te pe, e = .iface te pe) := h.1 _ (by decide)
theorem Qpn {w w' : World} (h : Lib.TabIs Tryz.prog w "internal/strconv.uint64pow10" .u64 Lib.pow10Tab) (hb : Below w.heap.size w w') : Lib.TabIs Tryz.prog w' "internal/strconv.uint64pow10" .u64 Lib.pow10Tab := by
 unfold Lib.TabIs World.var? at h ⊢
 rw [layItoa.m17] at h ⊢
 simp only [Option.bind_some] at h ⊢
 have hlt : layItoa_ren.g 17 < w.heap.size := by
  rcases Nat.lt_or_ge (layItoa_ren.g 17) w.heap.size with h1 | h1
  ·exact h1
  ·rw [Array.getElem?_eq_none h1] at h; cases h
 rw [hb.block _ hlt]
 exact h
set_option maxHeartbeats 1000000 in
theorem Qgk (s : ByteArray) (w : World) (v0 : Int) (R : World → Prop) (hI : Calls Tryz.prog 78 #[.string s] w fun e w' => (∃ N, e = .returned (.tuple #[.int .i64 v0, .iface (layAtoi_ren.t 168) (.pointer (some ⟨N, 0, none⟩))])) ∧ Below w.heap.size w w') :
  Calls Tryz.prog 65 #[.string s] w fun e w' => e = .returned (.int .i64 (-1)) ∧ Below w.heap.size w w' := by
 go_enter Tryz.func65, Tryz.ntmps65
 go_wp2_with (go_at_call 78; refine hI.mono ?_; rintro e W1 ⟨⟨N, rfl⟩, hW⟩)
 go_ret
 exact ⟨rfl, hW⟩
set_option maxHeartbeats 1000000 in
theorem Qyj (s : ByteArray) (w : World) (v : Int) (hv : decide (v < 0) = true) (hI : Calls Tryz.prog 78 #[.string s] w fun e w' => e = .returned (.tuple #[.int .i64 v, .nilIface]) ∧ Below w.heap.size w w') :
  Calls Tryz.prog 65 #[.string s] w fun e w' => e = .returned (.int .i64 (-1)) ∧ Below w.heap.size w w' := by
 go_enter Tryz.func65, Tryz.ntmps65
 go_wp2_with (go_at_call 78; refine hI.mono ?_; rintro e W1 ⟨rfl, hW⟩)
 go_ret
 exact ⟨rfl, hW⟩
set_option maxHeartbeats 1000000 in
theorem Qyg (s : ByteArray) (w : World) (v : Int) (hv : decide (v < 0) = false) (hv2 : v ≤ 9223372036854775807) (ht : Lib.TabIs Tryz.prog w "internal/strconv.uint64pow10" .u64 Lib.pow10Tab)
  (hI : Calls Tryz.prog 78 #[.string s] w fun e w' => e = .returned (.tuple #[.int .i64 v, .nilIface]) ∧ Below w.heap.size w w') :
  Calls Tryz.prog 65 #[.string s] w fun e w' => e = .returned (.int .i64 (bif Lib.itoa v == s.data.toList then v else -1)) ∧ Below w.heap.size w w' := by
 have hv0 : 0 ≤ v := by simpa using hv
 have hT : ∀ W1, Below w.heap.size w W1 → Calls Tryz.prog 79 #[.int .i64 v] W1 fun e w' => e = .returned (.string ⟨(Lib.itoa v).toArray⟩) ∧ Below W1.heap.size W1 w' := fun W1 hW => by
  refine (Any.strconv_Itoa layItoa v (by omega) hv2 W1 (Qpn ht hW)).mono ?_
  rintro e w' ⟨rfl, k, os, rfl⟩
  exact ⟨rfl, ⟨rfl, rfl, rfl, by simp [Go.Sort.grow], fun b hb => by simp [Go.Sort.grow, Array.getElem?_append_left hb]⟩⟩
 have H := Lib.hid hT
 clear hT
 have key : (bif Lib.itoa v == s.data.toList then v else -1) = (bif (!(Lib.itoa v == s.toList)) then -1 else v) := by
  have e : s.toList = s.data.toList := Ua s
  rw [e]
  cases (Lib.itoa v == s.data.toList) <;> rfl
 rw [key]
 clear key
 go_enter Tryz.func65, Tryz.ntmps65
 go_wp2_with (first | (go_at_call 78; refine hI.mono ?_; rintro e W1 ⟨rfl, hW⟩) | (go_at_call 79; refine (H.out _ hW).mono ?_; rintro e W2 ⟨rfl, hW2⟩))
 all_goals
  rename_i hq
  rw [hq]
  go_ret
  exact ⟨rfl, hW.trans (hW2.mono hW.size)⟩
theorem dec_ok (s : ByteArray) (hs : s.size ≤ 281474976710656) (w : World) (hG : GP w) :
  Calls Tryz.prog 65 #[.string s] w fun e w' => e = .returned (.int .i64 (decN s)) ∧ Below w.heap.size w w' := by
 unfold decN
 cases h : Lib.atoiAll s.data.toList with
 | ok v =>
  obtain ⟨b0, b1⟩ := Lib.atoiAll_bounds h
  have hI : Calls Tryz.prog 78 #[.string s] w fun e w' => e = .returned (.tuple #[.int .i64 v, .nilIface]) ∧ Below w.heap.size w w' := by
   refine (Any.strconv_Atoi_ok Qcl s (by omega) v h w).mono ?_
   rintro e w' ⟨rfl, hw⟩
   refine ⟨rfl, ?_⟩
   rcases hw with rfl | ⟨t, rfl⟩
   ·exact Below.refl _ _
   ·exact Lib.bytesWorld_below _ _ _
  by_cases hv : v < 0
  ·have e1 : (bif decide (0 ≤ v) && (Lib.itoa v == s.data.toList) then v else -1) = -1 := by
    rw [decide_eq_false (by omega)]; rfl
   simp only [e1]
   exact Qyj s w v (decide_eq_true hv) hI
  ·have e1 : (bif decide (0 ≤ v) && (Lib.itoa v == s.data.toList) then v else -1) = (bif Lib.itoa v == s.data.toList then v else -1) := by
    rw [decide_eq_true (by omega), Bool.true_and]
   simp only [e1]
   exact Qyg s w v (decide_eq_false hv) (by omega) hG.tab hI
 | range =>
  obtain ⟨ev, h1, h2⟩ := hG.err2
  refine Qgk s w (Lib.atoiSat s.data.toList) (fun _ => True) ((Any.strconv_Atoi_range Qcl s hs h ev w h1 h2).mono ?_)
  rintro e w' ⟨N, rfl, _, _, hb⟩
  exact ⟨⟨N, rfl⟩, hb⟩
 | _ =>
  obtain ⟨ev, h1, h2⟩ := hG.err1
  refine Qgk s w 0 (fun _ => True) ((Any.strconv_Atoi_syntax Qcl s hs h ev w h1 h2).mono ?_)
  rintro e w' ⟨N, rfl, _, _, hb⟩
  exact ⟨⟨N, rfl⟩, hb⟩
theorem Qke (s : ByteArray) : Spec.ok Tryz.prog 65 ⟨[.r (.c (.v (.string s)))], .v (.int .i64 (decN s)), s.size ≤ 281474976710656⟩ false := by
 intro hs S w vs fp hS hG hA
 obtain ⟨u, us, f, g, rfl, ⟨⟨rfl, _⟩, rfl⟩, ⟨rfl, rfl⟩, rfl, _⟩ := hA
 refine (dec_ok s hs w hG.1).mono fun e w' ⟨h1, h2⟩ => ?_
 exact ⟨_, [], [], h1, ⟨rfl, rfl, rfl⟩, ⟨_, _, [], [], rfl, rfl, rfl, rfl⟩, List.nodup_nil, fun b hb => by simp at hb, ⟨h2.os, h2.tape, h2.output, h2.size, fun k hk _ => h2.block k hk, Nat.zero_le _⟩⟩
end Go.Proofs.YtmoodkjkecjeaaaGreatDoor
namespace Go.Proofs.YtmoodkjkecjeaaaGreatDoor
theorem ai {a b : Prop} (h : a) (k : b) : a ∧ b := ⟨h, k⟩
theorem ir {d:Dat}:Imp d d := Imp.refl d
abbrev vI (x : Int) : Value := .int .i64 x
open Go.RowKit
set_option maxRecDepth 100000
set_option linter.unusedVariables false
set_option linter.unusedSimpArgs false
theorem mixed : Tryz.prog.follows .mixedOrders = true := Checked.mixed Tryz.checked
def F64 (s : ByteArray) (sep : ByteArray) : ByteArray × ByteArray × Bool :=
 cut3 s sep
def S64 (s : ByteArray) (sep : ByteArray) : Spec := ⟨[.r (.c (.v (.string s))), .r (.c (.v (.string sep)))], .tu [.v (.string ((F64 s sep).1)), .v (.string ((F64 s sep).2.1)), .v (.bool ((F64 s sep).2.2))], s.size ≤ 4294967280⟩
theorem ok64 (s : ByteArray) (sep : ByteArray) : (S64 s sep).ok Tryz.prog 64 :=
 cut_ok layCut (by decide) s sep
theorem g64_0 (s : ByteArray) (sep : ByteArray) : (F64 s sep).1.size ≤ (s.size : Int) := by
 exact Rl s sep
theorem g64_1 (s : ByteArray) (sep : ByteArray) : (F64 s sep).2.1.size ≤ (s.size : Int) := by
 exact Qwd s sep
def F65 (text : ByteArray) : Int :=
 decN text
def S65 (text : ByteArray) : Spec := ⟨[.r (.c (.v (.string text)))], .v (vI (F65 text)), text.size ≤ 281474976710656⟩
theorem ok65 (text : ByteArray) : (S65 text).ok Tryz.prog 65 false :=
 Qke text
def F51 (n : Int) (low : Int) (high : Int) : Bool :=
 (bif decide (low ≤ n) then decide (n ≤ high) else false)
def S51 (R : Bool) (n : Int) (low : Int) (high : Int) : Spec := ⟨[.r (.c (.v (vI n))), .r (.c (.v (vI low))), .r (.c (.v (vI high)))], .v (.bool R), True⟩
theorem ok51 (n : Int) (low : Int) (high : Int) : (S51 (F51 n low high) n low high).ok Tryz.prog 51 :=
 Ql mixed (fn := Tryz.f51) (ct := .seq .no (.seq .no .no)) Tryz.func51 (fun (_ : True) => fiB (bif decide (low ≤ n) then decide (n ≤ high) else false) (F51 n low high) rfl) (by kernel_rfl)
theorem as51 (n : Int) (low : Int) (high : Int) : F51 n low high = (decide (low ≤ n ∧ n ≤ high)) := by
 simp only [F51, Bool.decide_and, bandd]
theorem oa51 (n : Int) (low : Int) (high : Int) : (S51 (decide (low ≤ n ∧ n ≤ high)) n low high).ok Tryz.prog 51 := by
 intro hp; have h := ok51 n low high hp; rw [as51 n low high] at h; exact h
theorem kc64 (s : ByteArray) (sep : ByteArray) {K_ : Prop} (p0_ : s.size ≤ 4294967280) (k_ : ((F64 s sep).1.size ≤ (s.size : Int)) → ((F64 s sep).2.1.size ≤ (s.size : Int)) → K_) : (s.size ≤ 4294967280) ∧ (Imp (.v (.string s)) (.v (.string s))) ∧ (Imp (.v (.string sep)) (.v (.string sep))) ∧ K_ := ⟨p0_, Imp.refl _, Imp.refl _, k_ (g64_0 s sep) (g64_1 s sep)⟩
theorem kc65 (text : ByteArray) {K_ : Prop} (p0_ : text.size ≤ 281474976710656) (k_ : K_) : (text.size ≤ 281474976710656) ∧ (Imp (.v (.string text)) (.v (.string text))) ∧ K_ := ⟨p0_, Imp.refl _, k_⟩
abbrev Qub (s : ByteArray) (sep : ByteArray) : Hint false Tryz.prog := .call 64 (S64 s sep) ((ok64 s sep).to false) none
abbrev kh65 (text : ByteArray) : Hint false Tryz.prog := .call 65 (S65 text) (ok65 text) none
theorem Qfu (n : Int) (low : Int) (high : Int) {K_ : Prop} (k_ : K_) : (True) ∧ (Imp (.v (vI n)) (.v (vI n))) ∧ (Imp (.v (vI low)) (.v (vI low))) ∧ (Imp (.v (vI high)) (.v (vI high))) ∧ K_ := ⟨trivial, Imp.refl _, Imp.refl _, Imp.refl _, k_⟩
theorem Qmi {K_ : Prop} (c_ b_ : Bool) (n : Int) (low : Int) (high : Int) (k_ : K_) : (c_ = b_ → True) ∧ (c_ = b_ → Imp (.v (vI n)) (.v (vI n))) ∧ (c_ = b_ → Imp (.v (vI low)) (.v (vI low))) ∧ (c_ = b_ → Imp (.v (vI high)) (.v (vI high))) ∧ K_ := ⟨fun _ => trivial, fun _ => Imp.refl _, fun _ => Imp.refl _, fun _ => Imp.refl _, k_⟩
abbrev Es (n : Int) (low : Int) (high : Int) : Hint false Tryz.prog := .call 51 (S51 (decide (low ≤ n ∧ n ≤ high)) n low high) ((oa51 n low high).to false) none
abbrev w0_ : ByteArray := ⟨#[46]⟩
def F45 (text : ByteArray) : Int :=
 bif (bif (bif (!((F64 text (⟨#[46]⟩ : ByteArray)).2.2)) then true else (!(decide (0 ≤ (F65 ((F64 text (⟨#[46]⟩ : ByteArray)).1)) ∧ (F65 ((F64 text (⟨#[46]⟩ : ByteArray)).1)) ≤ 255)))) then true else (!(decide (0 ≤ (F65 ((F64 text (⟨#[46]⟩ : ByteArray)).2.1)) ∧ (F65 ((F64 text (⟨#[46]⟩ : ByteArray)).2.1)) ≤ 255)))) then (-1) else (IntKind.i64.wrap ((IntKind.i64.wrap (256 * (F65 ((F64 text (⟨#[46]⟩ : ByteArray)).1)))) + (F65 ((F64 text (⟨#[46]⟩ : ByteArray)).2.1))))
def S45 (text : ByteArray) : Spec := ⟨[.r (.c (.v (.string text)))], .v (vI (F45 text)), text.size ≤ 1048576⟩
theorem ok45 (text : ByteArray) : (S45 text).ok Tryz.prog 45 false :=
 Ql mixed (fn := Tryz.f45) (ct := .seq .no (.seq (.reg [(1, Qub text w0_)]) (.seq (.reg [(1, kh65 ((F64 text w0_).1)), (3, kh65 ((F64 text w0_).2.1))]) (.seq (.seq (.reg [(4, Es (F65 ((F64 text w0_).1)) 0 255), (9, Es (F65 ((F64 text w0_).2.1)) 0 255)]) (.cond (.seq .no .no) .no)) (.seq .no .no))))) Tryz.func45 (fun (hpre0 : text.size ≤ 1048576) => kc64 text w0_ (by omega) (fun gv1 gv2 => kc65 ((F64 text w0_).1) (by omega) (kc65 ((F64 text w0_).2.1) (by omega) (Qmi (!((F64 text w0_).2.2)) false (F65 ((F64 text w0_).1)) 0 255 (Qmi (bif (!((F64 text w0_).2.2)) then true else (!(decide (0 ≤ (F65 ((F64 text w0_).1)) ∧ (F65 ((F64 text w0_).1)) ≤ 255)))) false (F65 ((F64 text w0_).2.1)) 0 255 (ifb (bif (bif (!((F64 text w0_).2.2)) then true else (!(decide (0 ≤ (F65 ((F64 text w0_).1)) ∧ (F65 ((F64 text w0_).1)) ≤ 255)))) then true else (!(decide (0 ≤ (F65 ((F64 text w0_).2.1)) ∧ (F65 ((F64 text w0_).2.1)) ≤ 255)))) (fun h5 => fiI (-1) (F45 text) (condT h5 rfl)) (fun h5 => have _ : (F64 text w0_).2.2 = true := (Ym (orF1 (orF1 h5))); have _ : 0 ≤ (F65 ((F64 text w0_).1)) ∧ (F65 ((F64 text w0_).1)) ≤ 255 := of_decide_eq_true (Ym (orF2 (orF1 h5))); have _ : 0 ≤ (F65 ((F64 text w0_).2.1)) ∧ (F65 ((F64 text w0_).2.1)) ≤ 255 := of_decide_eq_true (Ym (orF2 h5)); fiI (IntKind.i64.wrap ((IntKind.i64.wrap (256 * (F65 ((F64 text w0_).1)))) + (F65 ((F64 text w0_).2.1)))) (F45 text) (condF h5 rfl)))))))) (by kernel_rfl)
structure Qb where
 Addr : Int
 Len : Int
 deriving DecidableEq, Inhabited
def Qg (x : Qb) : List Dat := [.v (vI x.Addr), .v (vI x.Len)]
def F80 (p : Qb) : Int :=
 (IntKind.i64.wrap (1 * 2 ^ (min (16 - p.Len).toNat IntKind.i64.bits)))
def S80 (p : Qb) : Spec := ⟨[.r (.g (Qg p))], .v (vI (F80 p)), 0 ≤ p.Len ∧ p.Len ≤ 16⟩
theorem ok80 (p : Qb) : (S80 p).ok Tryz.prog 80 :=
 Ql mixed (fn := Tryz.f80) (ct := .seq .no (.seq (.reg [(2, .bnd)]) .no)) Tryz.func80 (fun (hp : 0 ≤ p.Len ∧ p.Len ≤ 16) => have hpre0 := hp.1; have hpre1 := hp.2; ai (iok (16 - p.Len) (by omega)) (ai (by omega : 0 ≤ (16 - p.Len)) (fiI (IntKind.i64.wrap (1 * 2 ^ (min (16 - p.Len).toNat IntKind.i64.bits))) (F80 p) rfl))) (by kernel_rfl)
theorem Qwe (p : Qb) : 0 ≤ p.Len → p.Len ≤ 16 → 1 ≤ (F80 p) ∧ (F80 p) ≤ 65536 := by
 obtain ⟨a, l⟩ := p; intro h1 h2; simp only at h1 h2; have h3 : l = 0 ∨ l = 1 ∨ l = 2 ∨ l = 3 ∨ l = 4 ∨ l = 5 ∨ l = 6 ∨ l = 7 ∨ l = 8 ∨ l = 9 ∨ l = 10 ∨ l = 11 ∨ l = 12 ∨ l = 13 ∨ l = 14 ∨ l = 15 ∨ l = 16 := by omega
 rcases h3 with rfl | rfl | rfl | rfl | rfl | rfl | rfl | rfl | rfl | rfl | rfl | rfl | rfl | rfl | rfl | rfl | rfl <;> exact of_decide_eq_true rfl
abbrev Qlk (n : Int) (low : Int) (high : Int) : Hint true Tryz.prog := .call 51 (S51 (decide (low ≤ n ∧ n ≤ high)) n low high) (oa51 n low high) none
theorem kc80 (p : Qb) {K_ : Prop} (p0_ : 0 ≤ p.Len) (p1_ : p.Len ≤ 16) (q0_ : 0 ≤ p.Len) (q1_ : p.Len ≤ 16) (k_ : (1 ≤ (F80 p) ∧ (F80 p) ≤ 65536) → (0 ≤ p.Len → p.Len ≤ 16 → 1 ≤ (F80 p) ∧ (F80 p) ≤ 65536) → K_) : (0 ≤ p.Len ∧ p.Len ≤ 16) ∧ (Imps (Qg p) (Qg p)) ∧ K_ := ⟨⟨p0_, p1_⟩, Imps.refl _, k_ (Qwe p q0_ q1_) (Qwe p)⟩
theorem kg80 {K_ : Prop} (c_ b_ : Bool) (p : Qb) (p_ : c_ = b_ → 0 ≤ p.Len ∧ p.Len ≤ 16) (k_ : K_) : (c_ = b_ → 0 ≤ p.Len ∧ p.Len ≤ 16) ∧ (c_ = b_ → Imps (Qg p) (Qg p)) ∧ K_ := ⟨p_, fun _ => Imps.refl _, k_⟩
abbrev kh80 (p : Qb) : Hint true Tryz.prog := .call 80 (S80 p) (ok80 p) none
def F68 (p : Qb) : Bool :=
 (bif (bif (decide (0 ≤ p.Len ∧ p.Len ≤ 16)) then (decide (0 ≤ p.Addr ∧ p.Addr ≤ 65535)) else false) then ((p.Addr.tmod (F80 p)) == 0) else false)
def S68 (p : Qb) : Spec := ⟨[.r (.g (Qg p))], .v (.bool (F68 p)), True⟩
theorem ok68 (p : Qb) : (S68 p).ok Tryz.prog 68 :=
 Ql mixed (fn := Tryz.f68) (ct := .seq .no (.seq (.reg [(2, Qlk p.Len 0 16), (6, Qlk p.Addr 0 65535), (12, kh80 p)]) .no)) Tryz.func68 (fun (_ : True) => Qfu p.Len 0 16 (Qmi (decide (0 ≤ p.Len ∧ p.Len ≤ 16)) true p.Addr 0 65535 (kg80 (bif (decide (0 ≤ p.Len ∧ p.Len ≤ 16)) then (decide (0 ≤ p.Addr ∧ p.Addr ≤ 65535)) else false) true p (fun k4 => have _ := of_decide_eq_true (Qh k4); have _ := of_decide_eq_true (Qv k4); ⟨(by omega), (by omega)⟩) (ai (fun k5 : (bif (decide (0 ≤ p.Len ∧ p.Len ≤ 16)) then (decide (0 ≤ p.Addr ∧ p.Addr ≤ 65535)) else false) = true => have _ := of_decide_eq_true (Qh k5); have _ := of_decide_eq_true (Qv k5); (by have h9 := Qwe p (by omega) (by omega); omega : ¬ (F80 p) = 0)) (fiB (bif (bif (decide (0 ≤ p.Len ∧ p.Len ≤ 16)) then (decide (0 ≤ p.Addr ∧ p.Addr ≤ 65535)) else false) then ((p.Addr.tmod (F80 p)) == 0) else false) (F68 p) rfl))))) (by kernel_rfl)
theorem kc45 (text : ByteArray) {K_ : Prop} (p0_ : text.size ≤ 1048576) (k_ : K_) : (text.size ≤ 1048576) ∧ (Imp (.v (.string text)) (.v (.string text))) ∧ K_ := ⟨p0_, Imp.refl _, k_⟩
abbrev kh45 (text : ByteArray) : Hint false Tryz.prog := .call 45 (S45 text) (ok45 text) none
abbrev w1_ : ByteArray := ⟨#[47]⟩
def F49 (text : ByteArray) : Qb × Bool :=
 bif (bif (!((F64 text (⟨#[47]⟩ : ByteArray)).2.2)) then true else (!(F68 (⟨(F45 ((F64 text (⟨#[47]⟩ : ByteArray)).1)), (F65 ((F64 text (⟨#[47]⟩ : ByteArray)).2.1))⟩ : Qb)))) then ((⟨0, 0⟩ : Qb), false) else ((⟨(F45 ((F64 text (⟨#[47]⟩ : ByteArray)).1)), (F65 ((F64 text (⟨#[47]⟩ : ByteArray)).2.1))⟩ : Qb), true)
theorem fi49 (text : ByteArray) (r : Qb × Bool) (hF : r = (F49 text)) : ((.int .i64 r.1.Addr : Value) = .int .i64 (((F49 text).1).Addr)) ∧ ((.int .i64 r.1.Len : Value) = .int .i64 (((F49 text).1).Len)) ∧ ((.bool r.2 : Value) = .bool ((F49 text).2)) ∧ True := by cases hF; exact ⟨rfl, rfl, rfl, trivial⟩
def S49 (text : ByteArray) : Spec := ⟨[.r (.c (.v (.string text)))], .tu [.ag [.v (vI (((F49 text).1).Addr)), .v (vI (((F49 text).1).Len))], .v (.bool ((F49 text).2))], text.size ≤ 1048576⟩
theorem ok49 (text : ByteArray) : (S49 text).ok Tryz.prog 49 false :=
 Ql mixed (fn := Tryz.f49) (ct := .seq .no (.seq (.reg [(1, Qub text w1_)]) (.seq (.reg [(1, kh45 ((F64 text w1_).1)), (3, kh65 ((F64 text w1_).2.1))]) (.seq (.seq (.reg [(4, .call 68 (S68 (⟨(F45 ((F64 text w1_).1)), (F65 ((F64 text w1_).2.1))⟩ : Qb)) ((ok68 (⟨(F45 ((F64 text w1_).1)), (F65 ((F64 text w1_).2.1))⟩ : Qb)).to false) none)]) (.cond (.seq .no .no) .no)) (.seq .no .no))))) Tryz.func49 (fun (hpre0 : text.size ≤ 1048576) => kc64 text w1_ (by omega) (fun gv1 gv2 => kc45 ((F64 text w1_).1) (by omega) (kc65 ((F64 text w1_).2.1) (by omega) (ai (fun k3 : (!((F64 text w1_).2.2)) = false => have _ : (F64 text w1_).2.2 = true := (Ym k3); trivial) (ai (fun k4 : (!((F64 text w1_).2.2)) = false => have _ : (F64 text w1_).2.2 = true := (Ym k4); (Imps.refl (Qg (⟨(F45 ((F64 text w1_).1)), (F65 ((F64 text w1_).2.1))⟩ : Qb)))) (ifb (bif (!((F64 text w1_).2.2)) then true else (!(F68 (⟨(F45 ((F64 text w1_).1)), (F65 ((F64 text w1_).2.1))⟩ : Qb)))) (fun h5 => fi49 text ((⟨0, 0⟩ : Qb), false) (condT h5 rfl)) (fun h5 => have _ : (F64 text w1_).2.2 = true := (Ym (orF1 h5)); fi49 text ((⟨(F45 ((F64 text w1_).1)), (F65 ((F64 text w1_).2.1))⟩ : Qb), true) (condF h5 rfl)))))))) (by kernel_rfl)
def F60 (s : ByteArray) (sep : ByteArray) : List ByteArray :=
 Qw s sep
def S60 (s : ByteArray) (sep : ByteArray) : Spec := ⟨[.r (.c (.v (.string s))), .r (.c (.v (.string sep)))], .ow (.l 1 eStr (F60 s sep)), s.size ≤ 4294967280 ∧ 1 ≤ sep.size⟩
theorem ok60 (s : ByteArray) (sep : ByteArray) : (S60 s sep).ok Tryz.prog 60 :=
 Quy Qok (by kernel_rfl) (by decide) s sep
def Xy (s : List ByteArray) (v1 : ByteArray) : Int → Lp Int Int := fun v8 =>
 bif (decide (v8 < (s.length : Int))) then (bif (v1.toList == (s.getD (Int.toNat v8) default).toList) then (.ret v8) else (.next (v8 + 1))) else (.done v8)
def F128 (s : List ByteArray) (v1 : ByteArray) : Int :=
 (runL (Xy s v1) ((Int.toNat ((s.length : Int) - 0)) + 1) 0).fin (fun r => r) (fun v8 => (-1))
abbrev Gl (s : List ByteArray) : Nat × Int := (((Int.toNat ((s.length : Int) - 0)) + 1), 0)
abbrev Qdb (s : List ByteArray) (m39 : Nat) (v8 : Int) : Prop := Int.toNat ((s.length : Int) - v8) < m39 ∧ (0 : Int) ≤ v8
abbrev Qlp (s : List ByteArray) (v1 : ByteArray) : Lp Int Int := LpX (Xy s v1) (Gl s)
abbrev Gr (s : List ByteArray) (v1 : ByteArray) (i : Nat × Int) : Prop := LpJ (Xy s v1) (Gl s) i (Qdb s i.1 i.2)
abbrev Qku (s : List ByteArray) (v1 : ByteArray) (i : Nat × Int) (m39 : Nat) (v8 : Int) : Prop := LpH (Xy s v1) (Gl s) i m39 v8 (Qdb s (m39 + 1) v8)
abbrev Qlv (s : List ByteArray) (v1 : ByteArray) (v8 : Int) (v8_ : Int) (K39 : Prop) : Prop := (Rf (.string v1)) ∧ (Rf (.int .i64 (s.length : Int))) ∧ ((.int .i64 v8 : Value) = .int .i64 v8_) ∧ (Im (.l 1 eStr s)) ∧ K39
theorem Qyb (s : List ByteArray) (v1 : ByteArray) (i : Nat × Int) (h : Gr s v1 i) : Qku s v1 i (i.1 - 1) i.2 := ⟨hd1 h.1 h.2.1, hd3 h.2.1, hd2 h.2.1, h.2.2⟩
theorem Qyc (s : List ByteArray) (v1 : ByteArray) (i : Nat × Int) (m39 : Nat) (v8 : Int) (hl : m39 < i.1) (e : runL (Xy s v1) m39 v8 = Qlp s v1) (h : Qdb s m39 v8) : ∃ j : Nat × Int, Qlv s v1 v8 j.2 (Gr s v1 j ∧ j.1 < i.1) := ⟨(m39, v8), rfl, rfl, rfl, Imp.refl _, ⟨e, h⟩, hl⟩
theorem Qwv (s : List ByteArray) (v1 : ByteArray) (h : (0 : Int) ≤ 0) : Qlv s v1 0 0 (Gr s v1 (Gl s)) := ⟨rfl, rfl, rfl, Imp.refl _, rfl, Nat.lt_succ_self _, h⟩
def S128 (s : List ByteArray) (v1 : ByteArray) : Spec := ⟨[.r (.c (.l 1 eStr s)), .r (.c (.v (.string v1)))], .v (vI (F128 s v1)), True⟩
theorem ok128 (s : List ByteArray) (v1 : ByteArray) : (S128 s v1).ok Tryz.prog 128 :=
 Ql mixed (fn := Tryz.f128) (ct := .seqk [(0, 0)] .no (.seq (.seqk [(0, 0)] .no (.blk (.loop (ι := Nat × Int) (fun i => (fun (v8 : Int) => (⟨[(0, some (.h 0 0)), (1, some (.v (.string v1))), (7, some (.v (vI (s.length : Int)))), (8, some (.v (vI v8)))], [(0, some (.shr none (.l 1 eStr s)))], 1⟩ : St)) i.2) (Gr s v1) (fun i => i.1) (Gl s) (fun i => (fun (v8 : Int) => (.seq .no (.seq (.cond .no .no) (.seq (.blk (.seq .no (.seq .no (.cond (.seq .no .no) .no)))) (.reg [(0, .bnd)]))))) i.2)))) (.seq .no .no))) Tryz.func128 (fun (_ : True) => kn s fun _ => kn s fun _ => ai (Qwv s v1 (by omega)) (fun (i0 : Nat × Int) (hi0 : Gr s v1 i0) => (fun (m0 : Nat) (v8 : Int) (hh0 : Qku s v1 i0 m0 v8) => have hI0 := hh0.1; have hl0 := hh0.2.1; have _ := hh0.2.2.1; have _ := hh0.2.2.2; ifd (v8 < (s.length : Int)) (fun h2 _ => ai (by omega : ib v8 s) (ifb (v1.toList == (s.getD (Int.toNat v8) default).toList) (fun h3 => fiI v8 (F128 s v1) (finR (Qt hI0 (condT h2 (condT h3 rfl))) rfl)) (fun h3 => ai (iok (v8 + 1) (by omega)) (Qyc s v1 i0 m0 (v8 + 1) hl0 (Qe hI0 (condT h2 (condF h3 rfl))) (by refine ⟨?_, ?_⟩ <;> omega))))) (fun h2 _ => have hD0_4 : Qlp s v1 = Lp.done v8 := Qk hI0 (condF h2 rfl); fiI (-1) (F128 s v1) (finD hD0_4 rfl))) (i0.1 - 1) i0.2 (Qyb s v1 i0 hi0))) (by kernel_rfl)
theorem kc128 (s : List ByteArray) (v1 : ByteArray) {K_ : Prop} (k_ : K_) : (True) ∧ (Imp (.l 1 eStr s) (.l 1 eStr s)) ∧ (Imp (.v (.string v1)) (.v (.string v1))) ∧ K_ := ⟨trivial, Imp.refl _, Imp.refl _, k_⟩
abbrev kh128 (s : List ByteArray) (v1 : ByteArray) : Hint true Tryz.prog := .call 128 (S128 s v1) (ok128 s v1) none
def F110 (s : List ByteArray) (v1 : ByteArray) : Bool :=
 decide ((F128 s v1) ≥ 0)
def S110 (s : List ByteArray) (v1 : ByteArray) : Spec := ⟨[.r (.c (.l 1 eStr s)), .r (.c (.v (.string v1)))], .v (.bool (F110 s v1)), True⟩
theorem ok110 (s : List ByteArray) (v1 : ByteArray) : (S110 s v1).ok Tryz.prog 110 :=
 Ql mixed (fn := Tryz.f110) (ct := .seqk [(0, 0)] .no (.seq (.reg [(2, kh128 s v1)]) .no)) Tryz.func110 (fun (_ : True) => kn s fun _ => kc128 s v1 (fiB (decide ((F128 s v1) ≥ 0)) (F110 s v1) rfl)) (by kernel_rfl)
theorem kc60 (s : ByteArray) (sep : ByteArray) {K_ : Prop} (p0_ : s.size ≤ 4294967280) (p1_ : 1 ≤ sep.size) (q0_ : 1 ≤ sep.size) (q1_ : 1 ≤ sep.size) (k_ : ((F60 s sep).length ≤ s.size + 1) → (1 ≤ (F60 s sep).length) → K_) : (s.size ≤ 4294967280 ∧ 1 ≤ sep.size) ∧ (Imp (.v (.string s)) (.v (.string s))) ∧ (Imp (.v (.string sep)) (.v (.string sep))) ∧ K_ := ⟨⟨p0_, p1_⟩, Imp.refl _, Imp.refl _, k_ (Qnn s sep q0_) (Qin s sep q1_)⟩
abbrev kh60 (s : ByteArray) (sep : ByteArray) : Hint true Tryz.prog := .call 60 (S60 s sep) (ok60 s sep) none
theorem kc110 (s : List ByteArray) (v1 : ByteArray) {K_ : Prop} (k_ : K_) : (True) ∧ (Imp (.l 1 eStr s) (.l 1 eStr s)) ∧ (Imp (.v (.string v1)) (.v (.string v1))) ∧ K_ := ⟨trivial, Imp.refl _, Imp.refl _, k_⟩
abbrev kh110 (s : List ByteArray) (v1 : ByteArray) : Hint true Tryz.prog := .call 110 (S110 s v1) (ok110 s v1) none
abbrev w2_ : ByteArray := ⟨#[44]⟩
abbrev w3_ : ByteArray := ⟨#[100, 111, 111, 114]⟩
abbrev w4_ : ByteArray := ⟨#[104, 111, 115, 116]⟩
abbrev w5_ : ByteArray := ⟨#[110, 97, 116]⟩
abbrev w6_ : ByteArray := ⟨#[112, 101, 101, 114]⟩
abbrev w7_ : ByteArray := ⟨#[112, 111, 114, 116]⟩
abbrev w8_ : ByteArray := ⟨#[114, 111, 117, 116, 101]⟩
abbrev w9_ : ByteArray := ⟨#[114, 117, 108, 101]⟩
abbrev w10_ : ByteArray := ⟨#[117, 115, 101, 114]⟩
abbrev w11_ : ByteArray := ⟨#[97, 108, 108]⟩
abbrev w12_ : ByteArray := ⟨#[110, 111, 110, 101]⟩
def Ww (word : ByteArray) : Int → Lp Int (List ByteArray × Bool) := fun v19 =>
 bif (decide (v19 < ((F60 word (⟨#[44]⟩ : ByteArray)).length : Int))) then (bif (bif (!(F110 ([(⟨#[100, 111, 111, 114]⟩ : ByteArray), (⟨#[104, 111, 115, 116]⟩ : ByteArray), (⟨#[110, 97, 116]⟩ : ByteArray), (⟨#[112, 101, 101, 114]⟩ : ByteArray), (⟨#[112, 111, 114, 116]⟩ : ByteArray), (⟨#[114, 111, 117, 116, 101]⟩ : ByteArray), (⟨#[114, 117, 108, 101]⟩ : ByteArray), (⟨#[117, 115, 101, 114]⟩ : ByteArray)] : List ByteArray) ((F60 word (⟨#[44]⟩ : ByteArray)).getD (Int.toNat v19) default))) then true else (bif decide (v19 > 0) then (!(Op.bytesLess ((F60 word (⟨#[44]⟩ : ByteArray)).getD (Int.toNat (v19 - 1)) default).toList ((F60 word (⟨#[44]⟩ : ByteArray)).getD (Int.toNat v19) default).toList)) else false)) then (.ret (([] : List ByteArray), false)) else (.next (v19 + 1))) else (.done v19)
def F108 (word : ByteArray) : List ByteArray × Bool :=
 bif (bif (word.toList == (⟨#[97, 108, 108]⟩ : ByteArray).toList) then true else (word.toList == (⟨#[110, 111, 110, 101]⟩ : ByteArray).toList)) then (([word] : List ByteArray), true) else ((runL (Ww word) ((Int.toNat (((F60 word (⟨#[44]⟩ : ByteArray)).length : Int) - 0)) + 1) 0).fin (fun r => r) (fun v19 => ((F60 word (⟨#[44]⟩ : ByteArray)), true)))
abbrev Gh (word : ByteArray) : Nat × Int := (((Int.toNat (((F60 word w2_).length : Int) - 0)) + 1), 0)
abbrev Qcw (word : ByteArray) (m39 : Nat) (v19 : Int) : Prop := Int.toNat (((F60 word w2_).length : Int) - v19) < m39 ∧ (0 : Int) ≤ v19
abbrev Qky (word : ByteArray) : Lp Int (List ByteArray × Bool) := LpX (Ww word) (Gh word)
abbrev Gn (word : ByteArray) (i : Nat × Int) : Prop := LpJ (Ww word) (Gh word) i (Qcw word i.1 i.2)
abbrev Qlu (word : ByteArray) (i : Nat × Int) (m39 : Nat) (v19 : Int) : Prop := LpH (Ww word) (Gh word) i m39 v19 (Qcw word (m39 + 1) v19)
abbrev Qma (word : ByteArray) (v19 : Int) (v19_ : Int) (K39 : Prop) : Prop := (Rf (.int .i64 ((F60 word w2_).length : Int))) ∧ ((.int .i64 v19 : Value) = .int .i64 v19_) ∧ (Im (.l 1 eStr (F60 word w2_))) ∧ K39
theorem Qym (word : ByteArray) (i : Nat × Int) (h : Gn word i) : Qlu word i (i.1 - 1) i.2 := ⟨hd1 h.1 h.2.1, hd3 h.2.1, hd2 h.2.1, h.2.2⟩
theorem Qyt (word : ByteArray) (i : Nat × Int) (m39 : Nat) (v19 : Int) (hl : m39 < i.1) (e : runL (Ww word) m39 v19 = Qky word) (h : Qcw word m39 v19) : ∃ j : Nat × Int, Qma word v19 j.2 (Gn word j ∧ j.1 < i.1) := ⟨(m39, v19), rfl, rfl, Imp.refl _, ⟨e, h⟩, hl⟩
theorem Qwn (word : ByteArray) (h : (0 : Int) ≤ 0) : Qma word 0 0 (Gn word (Gh word)) := ⟨rfl, rfl, Imp.refl _, rfl, Nat.lt_succ_self _, h⟩
theorem fi108 (word : ByteArray) (r : List ByteArray × Bool) (hF : r = (F108 word)) : (Imp (.l 1 eStr r.1) (.l 1 eStr ((F108 word).1))) ∧ ((.bool r.2 : Value) = .bool ((F108 word).2)) ∧ True := by cases hF; exact ⟨Imp.refl _, rfl, trivial⟩
def S108 (word : ByteArray) : Spec := ⟨[.r (.c (.v (.string word)))], .tu [.ow (.l 1 eStr ((F108 word).1)), .v (.bool ((F108 word).2))], word.size ≤ 1048576⟩
theorem ok108 (word : ByteArray) : (S108 word).ok Tryz.prog 108 :=
 Ql mixed (fn := Tryz.f108) (ct := .seq .no (.seq (.seq .no (.cond (.seq (.reg [(1, .dat (.l 1 eStr ([word] : List ByteArray)))]) .no) .no)) (.seq (.reg [(1, kh60 word w2_)]) (.seq (.seqk [(4, 0), (17, 0)] .no (.blk (.loop (ι := Nat × Int) (fun i => (fun (v19 : Int) => (⟨[(4, some (.h 0 0)), (17, some (.h 0 0)), (18, some (.v (vI ((F60 word w2_).length : Int)))), (19, some (.v (vI v19)))], [(0, some (.own 0 (.l 1 eStr (F60 word w2_))))], 1⟩ : St)) i.2) (Gn word) (fun i => i.1) (Gh word) (fun i => (fun (v19 : Int) => (.seq .no (.seq (.cond .no .no) (.seq (.blk (.seq .no (.seq (.reg [(0, .dat (.l 1 eStr ([w3_, w4_, w5_, w6_, w7_, w8_, w9_, w10_] : List ByteArray))), (2, kh110 ([w3_, w4_, w5_, w6_, w7_, w8_, w9_, w10_] : List ByteArray) ((F60 word w2_).getD (Int.toNat v19) default)), (10, .bnd)]) (.cond (.seq .no .no) .no)))) (.reg [(0, .bnd)]))))) i.2)))) (.seq .no .no))))) Tryz.func108 (fun (hpre0 : word.size ≤ 1048576) => ifb (bif (word.toList == w11_.toList) then true else (word.toList == w12_.toList)) (fun h1 => ai (bokr 1 eStr ([word] : List ByteArray) fun _ => rfl) (fi108 word (([word] : List ByteArray), true) (condT h1 rfl))) (fun h1 => have _ : (word.toList == w11_.toList) = false := (orF1 h1); have _ : (word.toList == w12_.toList) = false := (orF2 h1); kc60 word w2_ (by omega) (by decide) (by decide) (by decide) (fun gv2 gv3 => kn (F60 word w2_) fun _ => kn (F60 word w2_) fun _ => ai (Qwn word (by omega)) (fun (i0 : Nat × Int) (hi0 : Gn word i0) => (fun (m0 : Nat) (v19 : Int) (hh0 : Qlu word i0 m0 v19) => have hI0 := hh0.1; have hl0 := hh0.2.1; have _ := hh0.2.2.1; have _ := hh0.2.2.2; ifd (v19 < ((F60 word w2_).length : Int)) (fun h5 _ => ai (by omega : ib v19 (F60 word w2_)) (ai (bokr 1 eStr ([w3_, w4_, w5_, w6_, w7_, w8_, w9_, w10_] : List ByteArray) fun _ => rfl) (kc110 ([w3_, w4_, w5_, w6_, w7_, w8_, w9_, w10_] : List ByteArray) ((F60 word w2_).getD (Int.toNat v19) default) (ai (fun k7 : (decide (v19 > 0)) = true => have _ := of_decide_eq_true k7; (fun k6 : (!(F110 ([w3_, w4_, w5_, w6_, w7_, w8_, w9_, w10_] : List ByteArray) ((F60 word w2_).getD (Int.toNat v19) default))) = false => iok (v19 - 1) (by omega))) (ai (fun k9 : (decide (v19 > 0)) = true => have _ := of_decide_eq_true k9; (fun k8 : (!(F110 ([w3_, w4_, w5_, w6_, w7_, w8_, w9_, w10_] : List ByteArray) ((F60 word w2_).getD (Int.toNat v19) default))) = false => (by omega : ib (v19 - 1) (F60 word w2_)))) (ifb (bif (!(F110 ([w3_, w4_, w5_, w6_, w7_, w8_, w9_, w10_] : List ByteArray) ((F60 word w2_).getD (Int.toNat v19) default))) then true else (bif decide (v19 > 0) then (!(Op.bytesLess ((F60 word w2_).getD (Int.toNat (v19 - 1)) default).toList ((F60 word w2_).getD (Int.toNat v19) default).toList)) else false)) (fun h10 => (fun hF : (([] : List ByteArray), false) = (F108 word) => ai ((Imp.nil 1 eStr).trans (Imp.of_eq (congrArg (fun r : List ByteArray × Bool => Dat.l 1 eStr r.1) hF))) (ai (congrArg (fun r : List ByteArray × Bool => (.bool r.2 : Value)) hF) trivial)) (condF h1 (finR (Qt hI0 (condT h5 (condT h10 rfl))) rfl))) (fun h10 => ai (iok (v19 + 1) (by omega)) (Qyt word i0 m0 (v19 + 1) hl0 (Qe hI0 (condT h5 (condF h10 rfl))) (by refine ⟨?_, ?_⟩ <;> omega))))))))) (fun h5 _ => have hD0_11 : Qky word = Lp.done v19 := Qk hI0 (condF h5 rfl); fi108 word ((F60 word w2_), true) (condF h1 (finD hD0_11 rfl)))) (i0.1 - 1) i0.2 (Qym word i0 hi0))))) (by kernel_rfl)
abbrev w13_ : ByteArray := ⟨#[]⟩
def F83 (w1 : ByteArray) : Bool :=
 (w1.toList == (⟨#[]⟩ : ByteArray).toList)
def S83 (w1 : ByteArray) : Spec := ⟨[.r (.c (.v (.string w1)))], .v (.bool (F83 w1)), True⟩
theorem ok83 (w1 : ByteArray) : (S83 w1).ok Tryz.prog 83 :=
 Ql mixed (fn := Tryz.f83) (ct := .seq .no (.seq .no .no)) Tryz.func83 (fun (_ : True) => fiB (w1.toList == w13_.toList) (F83 w1) rfl) (by kernel_rfl)
def Yu (Q : ByteArray → Prop) (p : ByteArray → Bool) : Uv := ⟨ByteArray, fun i => [.c (.x (PX (.v (.string i)) (Q i)))], fun i => .bool (p i)⟩
def Lb (s : List ByteArray) (f : ByteArray → Bool) : Int → Lp Int Int := fun v8 =>
 bif (decide (v8 < (s.length : Int))) then (bif (f (s.getD (Int.toNat v8) default)) then (.ret v8) else (.next (v8 + 1))) else (.done v8)
def F58 (s : List ByteArray) (f : ByteArray → Bool) : Int :=
 (runL (Lb s f) ((Int.toNat ((s.length : Int) - 0)) + 1) 0).fin (fun r => r) (fun v8 => (-1))
abbrev Rs (s : List ByteArray) : Nat × Int := (((Int.toNat ((s.length : Int) - 0)) + 1), 0)
abbrev Qki (s : List ByteArray) (m39 : Nat) (v8 : Int) : Prop := Int.toNat ((s.length : Int) - v8) < m39 ∧ (0 : Int) ≤ v8
abbrev Qpx (s : List ByteArray) (f : ByteArray → Bool) : Lp Int Int := LpX (Lb s f) (Rs s)
abbrev Pt (s : List ByteArray) (f : ByteArray → Bool) (i : Nat × Int) : Prop := LpJ (Lb s f) (Rs s) i (Qki s i.1 i.2)
abbrev Qse (s : List ByteArray) (f : ByteArray → Bool) (i : Nat × Int) (m39 : Nat) (v8 : Int) : Prop := LpH (Lb s f) (Rs s) i m39 v8 (Qki s (m39 + 1) v8)
abbrev Qoh (Qf : ByteArray → Prop) (s : List ByteArray) (f : ByteArray → Bool) (v8 : Int) (v8_ : Int) (K39 : Prop) : Prop := (Rf (.int .i64 (s.length : Int))) ∧ ((.int .i64 v8 : Value) = .int .i64 v8_) ∧ (Im (.l 1 eStr s)) ∧ (Yu Qf f = Yu Qf f) ∧ K39
theorem un58_0 (s : List ByteArray) (f : ByteArray → Bool) (i : Nat × Int) (h : Pt s f i) : Qse s f i (i.1 - 1) i.2 := ⟨hd1 h.1 h.2.1, hd3 h.2.1, hd2 h.2.1, h.2.2⟩
theorem bk58_0 (Qf : ByteArray → Prop) (s : List ByteArray) (f : ByteArray → Bool) (i : Nat × Int) (m39 : Nat) (v8 : Int) (hl : m39 < i.1) (e : runL (Lb s f) m39 v8 = Qpx s f) (h : Qki s m39 v8) : ∃ j : Nat × Int, Qoh Qf s f v8 j.2 (Pt s f j ∧ j.1 < i.1) := ⟨(m39, v8), rfl, rfl, Imp.refl _, rfl, ⟨e, h⟩, hl⟩
theorem en58_0 (Qf : ByteArray → Prop) (s : List ByteArray) (f : ByteArray → Bool) (h : (0 : Int) ≤ 0) : Qoh Qf s f 0 0 (Pt s f (Rs s)) := ⟨rfl, rfl, Imp.refl _, rfl, rfl, Nat.lt_succ_self _, h⟩
def S58 (R : Int) (s : List ByteArray) (f : ByteArray → Bool) (Qf : ByteArray → Prop) : Spec := ⟨[.r (.c (.l 1 eStr s)), .fn (Yu Qf f)], .v (vI R), (∀ k : Nat, k < s.length → Qf (s.getD k default))⟩
theorem ok58 (s : List ByteArray) (f : ByteArray → Bool) (Qf : ByteArray → Prop) : (S58 (F58 s f) s f Qf).ok Tryz.prog 58 false :=
 Ql mixed (fn := Tryz.f58) (ct := .seqk [(0, 0)] .no (.seq (.seqk [(0, 0)] .no (.blk (.loop (ι := Nat × Int) (fun i => (fun (v8 : Int) => (⟨[(0, some (.h 0 0)), (1, some (.h 1 0)), (7, some (.v (vI (s.length : Int)))), (8, some (.v (vI v8)))], [(0, some (.shr none (.l 1 eStr s))), (1, some (.fn (Yu Qf f)))], 2⟩ : St)) i.2) (Pt s f) (fun i => i.1) (Rs s) (fun i => (fun (v8 : Int) => (.seq .no (.seq (.cond .no .no) (.seq (.blk (.seq .no (.seq (.reg [(5, .fnv (Yu Qf f) (s.getD (Int.toNat v8) default))]) (.cond (.seq .no .no) .no)))) (.reg [(0, .bnd)]))))) i.2)))) (.seq .no .no))) Tryz.func58 (fun (hpre0 : ∀ k : Nat, k < s.length → Qf (s.getD k default)) => kn s fun _ => kn s fun _ => ai (en58_0 Qf s f (by omega)) (fun (i0 : Nat × Int) (hi0 : Pt s f i0) => (fun (m0 : Nat) (v8 : Int) (hh0 : Qse s f i0 m0 v8) => have hI0 := hh0.1; have hl0 := hh0.2.1; have _ := hh0.2.2.1; have _ := hh0.2.2.2; ifd (v8 < (s.length : Int)) (fun h2 _ => ai (by omega : ib v8 s) (ai (Eq.refl (Yu Qf f)) (ai (Imp.px (d := .v (.string (s.getD (Int.toNat v8) default))) (hpre0 (Int.toNat v8) (by omega))) (ifb (f (s.getD (Int.toNat v8) default)) (fun h3 => fiI v8 (F58 s f) (finR (Qt hI0 (condT h2 (condT h3 rfl))) rfl)) (fun h3 => ai (iok (v8 + 1) (by omega)) (bk58_0 Qf s f i0 m0 (v8 + 1) hl0 (Qe hI0 (condT h2 (condF h3 rfl))) (by refine ⟨?_, ?_⟩ <;> omega))))))) (fun h2 _ => have hD0_4 : Qpx s f = Lp.done v8 := Qk hI0 (condF h2 rfl); fiI (-1) (F58 s f) (finD hD0_4 rfl))) (i0.1 - 1) i0.2 (un58_0 s f i0 hi0))) (by kernel_rfl)
theorem as58 (s : List ByteArray) (f : ByteArray → Bool) : F58 s f = (idxI f s) := by
 exact Jf f s (Lb s f) (fun i => rfl)
theorem oa58 (s : List ByteArray) (f : ByteArray → Bool) (Qf : ByteArray → Prop) : (S58 (idxI f s) s f Qf).ok Tryz.prog 58 false := by
 intro hp; have h := ok58 s f Qf hp; rw [as58 s f] at h; exact h
theorem g58_0 (s : List ByteArray) (f : ByteArray → Bool) : (idxI f s) < (s.length : Int) := by
 exact Hf f s
theorem g58_1 (s : List ByteArray) (f : ByteArray → Bool) : -1 ≤ (idxI f s) := by
 (show -1 ≤ idxI f s; unfold idxI; cases first (fun k => f (s.getD k default)) s.length <;> simp only [oix] <;> omega)
theorem kc58a (s : List ByteArray) (f : ByteArray → Bool) (Qf : ByteArray → Prop) {K_ : Prop} (p0_ : ∀ k : Nat, k < s.length → Qf (s.getD k default)) (k_ : ((idxI f s) < (s.length : Int)) → (-1 ≤ (idxI f s)) → K_) : (∀ k : Nat, k < s.length → Qf (s.getD k default)) ∧ (Imp (.l 1 eStr s) (.l 1 eStr s)) ∧ (Yu Qf f = Yu Qf f) ∧ K_ := ⟨p0_, Imp.refl _, rfl, k_ (g58_0 s f) (g58_1 s f)⟩
abbrev kh58a (s : List ByteArray) (f : ByteArray → Bool) (Qf : ByteArray → Prop) : Hint false Tryz.prog := .call 58 (S58 (idxI f s) s f Qf) (oa58 s f Qf) none
def Hr (s : List ByteArray) (del : ByteArray → Bool) : (Int × Int × List ByteArray) → Lp (Int × Int × List ByteArray) (List ByteArray) := fun (i41, j1, xs) =>
 bif (decide (j1 < (xs.length : Int))) then (bif (!(del (xs.getD (Int.toNat j1) default))) then (.next ((i41 + 1), (j1 + 1), (xs.set (i41).toNat (xs.getD (Int.toNat j1) default)))) else (.next (i41, (j1 + 1), xs))) else (.done (i41, j1, xs))
def Qda (s : List ByteArray) (del : ByteArray → Bool) : Lp (List ByteArray × Int) (List ByteArray) :=
 (runL (Hr s del) ((Int.toNat ((s.length : Int) - ((idxI del s) + 1))) + 1) ((idxI del s), ((idxI del s) + 1), s)).fin Lp.ret (fun (i41, j1, xs) => .done (xs, i41))
def F82 (s : List ByteArray) (del : ByteArray → Bool) : List ByteArray :=
 bif ((idxI del s) == (-1)) then s else ((Qda s del).fin (fun r => r) (fun (s1, i40) => ((s1.take (Int.toNat i40) ++ List.replicate (s1.drop (Int.toNat i40)).length ((⟨#[]⟩ : ByteArray) : ByteArray) ++ s1.drop ((Int.toNat i40) + (s1.drop (Int.toNat i40)).length)).take (Int.toNat i40))))
abbrev Tb (s : List ByteArray) (del : ByteArray → Bool) : Nat × (Int × Int × List ByteArray) := (((Int.toNat ((s.length : Int) - ((idxI del s) + 1))) + 1), ((idxI del s), ((idxI del s) + 1), s))
abbrev Qiy (Qdel : ByteArray → Prop) (s : List ByteArray) (m39 : Nat) (i41 : Int) (j1 : Int) (xs : List ByteArray) : Prop := Int.toNat ((xs.length : Int) - j1) < m39 ∧ (0 ≤ i41 ∧ i41 < j1) ∧ j1 ≤ (xs.length : Int) ∧ xs.length ≤ 1000000000 ∧ (∀ k : Nat, j1 ≤ (k : Int) → k < xs.length → Qdel (xs.getD k default)) ∧ xs.length = s.length
abbrev Qqp (s : List ByteArray) (del : ByteArray → Bool) : Lp (Int × Int × List ByteArray) (List ByteArray) := LpX (Hr s del) (Tb s del)
abbrev Tr (Qdel : ByteArray → Prop) (s : List ByteArray) (del : ByteArray → Bool) (i : Nat × (Int × Int × List ByteArray)) : Prop := LpJ (Hr s del) (Tb s del) i (Qiy Qdel s i.1 i.2.1 i.2.2.1 i.2.2.2)
abbrev Qti (Qdel : ByteArray → Prop) (s : List ByteArray) (del : ByteArray → Bool) (i : Nat × (Int × Int × List ByteArray)) (m39 : Nat) (i41 : Int) (j1 : Int) (xs : List ByteArray) : Prop := LpH (Hr s del) (Tb s del) i m39 (i41, j1, xs) (Qiy Qdel s (m39 + 1) i41 j1 xs)
abbrev Qou (Qdel : ByteArray → Prop) (del : ByteArray → Bool) (i41 : Int) (j1 : Int) (xs : List ByteArray) (i41_ : Int) (j1_ : Int) (xs_ : List ByteArray) (K39 : Prop) : Prop := ((.int .i64 i41 : Value) = .int .i64 i41_) ∧ ((.int .i64 j1 : Value) = .int .i64 j1_) ∧ (Imp (.l 1 eStr xs) (.l 1 eStr xs_)) ∧ (Yu Qdel del = Yu Qdel del) ∧ K39
theorem un82_0 (Qdel : ByteArray → Prop) (s : List ByteArray) (del : ByteArray → Bool) (i : Nat × (Int × Int × List ByteArray)) (h : Tr Qdel s del i) : Qti Qdel s del i (i.1 - 1) i.2.1 i.2.2.1 i.2.2.2 := ⟨hd1 h.1 h.2.1, hd3 h.2.1, hd2 h.2.1, h.2.2⟩
theorem Qop (Qdel : ByteArray → Prop) (s : List ByteArray) (del : ByteArray → Bool) (i : Nat × (Int × Int × List ByteArray)) (m39 : Nat) (i41 : Int) (j1 : Int) (xs : List ByteArray) (hl : m39 < i.1) (e : runL (Hr s del) m39 (i41, j1, xs) = Qqp s del) (h : Qiy Qdel s m39 i41 j1 xs) : ∃ j : Nat × (Int × Int × List ByteArray), Qou Qdel del i41 j1 xs j.2.1 j.2.2.1 j.2.2.2 (Tr Qdel s del j ∧ j.1 < i.1) := ⟨(m39, (i41, j1, xs)), rfl, rfl, Imp.refl _, rfl, ⟨e, h⟩, hl⟩
theorem en82_0 (Qdel : ByteArray → Prop) (s : List ByteArray) (del : ByteArray → Bool) (h : (0 ≤ (idxI del s) ∧ (idxI del s) < ((idxI del s) + 1)) ∧ ((idxI del s) + 1) ≤ (s.length : Int) ∧ s.length ≤ 1000000000 ∧ (∀ k : Nat, ((idxI del s) + 1) ≤ (k : Int) → k < s.length → Qdel (s.getD k default)) ∧ s.length = s.length) : Qou Qdel del (idxI del s) ((idxI del s) + 1) s (idxI del s) ((idxI del s) + 1) s (Tr Qdel s del (Tb s del)) := ⟨rfl, rfl, Imp.refl _, rfl, rfl, Nat.lt_succ_self _, h⟩
abbrev Qim (s : List ByteArray) (del : ByteArray → Bool) (s1 : List ByteArray) (i40 : Int) : Prop := (0 ≤ i40 ∧ i40 ≤ (s1.length : Int)) ∧ True
abbrev Qkb (s : List ByteArray) (del : ByteArray → Bool) (j : List ByteArray × Int) : Prop := (Qda s del) = Lp.done j ∧ Qim s del j.1 j.2
theorem jn82_0 (s : List ByteArray) (del : ByteArray → Bool) (s1 : List ByteArray) (i40 : Int) (e : (Qda s del) = Lp.done (s1, i40)) (h : Qim s del s1 i40) : ∃ j : List ByteArray × Int, ((.int .i64 i40 : Value) = .int .i64 j.2) ∧ (Imp (.l 1 eStr s1) (.l 1 eStr j.1)) ∧ Qkb s del j := ⟨(s1, i40), rfl, Imp.refl _, e, h⟩
theorem fi82 (s : List ByteArray) (del : ByteArray → Bool) (r : List ByteArray) (hF : r = (F82 s del)) : (Imp (.l 1 eStr r) (.l 1 eStr (F82 s del))) ∧ True := by cases hF; exact ⟨Imp.refl _, trivial⟩
def S82 (R : List ByteArray) (s : List ByteArray) (del : ByteArray → Bool) (Qdel : ByteArray → Prop) : Spec := ⟨[.ow (.l 1 eStr s) none, .fn (Yu Qdel del)], .ow (.l 1 eStr R), s.length ≤ 1000000000 ∧ (∀ k : Nat, k < s.length → Qdel (s.getD k default))⟩
theorem ok82 (s : List ByteArray) (del : ByteArray → Bool) (Qdel : ByteArray → Prop) : (S82 (F82 s del) s del Qdel).ok Tryz.prog 82 false :=
 Ql mixed (fn := Tryz.f82) (ct := .seqk [(0, 0)] .no (.seq (.reg [(2, kh58a s del Qdel)]) (.seq (.seq .no (.cond (.seq .no .no) .no)) (.cut (ι := List ByteArray × Int) (fun j => (fun (s1 : List ByteArray) (i40 : Int) => (⟨[(0, some (.h 0 0)), (5, some (.v (vI i40)))], [(0, some (.own 0 (.l 1 eStr s1)))], 1⟩ : St)) j.1 j.2) (Qkb s del) (.seqk [(0, 0)] (.reg [(1, .bnd)]) (.blk (.loop (ι := Nat × (Int × Int × List ByteArray)) (fun i => (fun (i41 : Int) (j1 : Int) (xs : List ByteArray) => (⟨[(0, some (.h 0 0)), (1, some (.h 1 0)), (5, some (.v (vI i41))), (6, some (.v (vI j1)))], [(0, some (.own 0 (.l 1 eStr xs))), (1, some (.fn (Yu Qdel del)))], 2⟩ : St)) i.2.1 i.2.2.1 i.2.2.2) (Tr Qdel s del) (fun i => i.1) (Tb s del) (fun i => (fun (i41 : Int) (j1 : Int) (xs : List ByteArray) => (.seq (.seq .no (.cond .no .no)) (.seq (.blk (.seq .no (.seq (.reg [(2, .fnv (Yu Qdel del) (xs.getD (Int.toNat j1) default))]) (.cond (.seq (.reg [(4, .dat (.l 1 eStr (xs.set (i41).toNat (xs.getD (Int.toNat j1) default))))]) (.reg [(1, .bnd)])) .no)))) (.reg [(1, .bnd)])))) i.2.1 i.2.2.1 i.2.2.2)))) (fun j => (fun (s1 : List ByteArray) (i40 : Int) => (.seq (.reg [(2, .part), (3, .dat (.l 1 eStr (s1.take (Int.toNat i40) ++ List.replicate (s1.drop (Int.toNat i40)).length (w13_ : ByteArray) ++ s1.drop ((Int.toNat i40) + (s1.drop (Int.toNat i40)).length))))]) (.seq (.reg [(2, .own)]) .no))) j.1 j.2))))) Tryz.func82 (fun (hp : s.length ≤ 1000000000 ∧ (∀ k : Nat, k < s.length → Qdel (s.getD k default))) => have hpre0 := hp.1; have hpre1 := hp.2; kn s fun _ => kc58a s del Qdel (by first | assumption | exact hpre1 _ | exact fun k _ => hpre1 k | (intros; exact trivial) | (intros; exact Nat.zero_le _)) (fun gv1 gv2 => ife (idxI del s) (-1) (fun h3 _ => fi82 s del s (condT h3 rfl)) (fun h3 _ => ai (ai (iok ((idxI del s) + 1) (by first | omega | (simp only [lens, ib] at * <;> omega))) (kn s fun _ => ai (en82_0 Qdel s del (by refine ⟨?_, ?_, ?_, ?_, ?_⟩ <;> first | omega | (simp only [lens, ib] at * <;> omega) | (intro k hk hk2; first | exact (by assumption : ∀ k : Nat, k < s.length → Qdel (s.getD k default)) k hk2 | exact (by assumption : ∀ k : Nat, j1 ≤ (k : Int) → k < xs.length → Qdel (xs.getD k default)) k (by first | omega | (simp only [lens, ib] at * <;> omega)) hk2 | (rw [Qu _ _ _ _ (by first | omega | (simp only [lens, ib] at * <;> omega))]; exact (by assumption : ∀ k : Nat, j1 ≤ (k : Int) → k < xs.length → Qdel (xs.getD k default)) k (by first | omega | (simp only [lens, ib] at * <;> omega)) (by simpa using hk2))))) (fun (i0 : Nat × (Int × Int × List ByteArray)) (hi0 : Tr Qdel s del i0) => (fun (m0 : Nat) (i41 : Int) (j1 : Int) (xs : List ByteArray) (hh0 : Qti Qdel s del i0 m0 i41 j1 xs) => have hI0 := hh0.1; have hl0 := hh0.2.1; have _ := hh0.2.2.1; have _ := hh0.2.2.2.1; have _ := hh0.2.2.2.2.1; have _ := hh0.2.2.2.2.2.1; have _ := hh0.2.2.2.2.2.2.1; have _ := hh0.2.2.2.2.2.2.2; ifd (j1 < (xs.length : Int)) (fun h5 _ => ai (by first | omega | (simp only [lens, ib] at * <;> omega) : ib j1 xs) (ai (Eq.refl (Yu Qdel del)) (ai (Imp.px (d := .v (.string (xs.getD (Int.toNat j1) default))) ((by assumption : ∀ k : Nat, j1 ≤ (k : Int) → k < xs.length → Qdel (xs.getD k default)) (Int.toNat j1) (by first | omega | (simp only [lens, ib] at * <;> omega)) (by first | omega | (simp only [lens, ib] at * <;> omega)))) (ifb (!(del (xs.getD (Int.toNat j1) default))) (fun h6 => have _ := (Wv h6); ai (by first | omega | (simp only [lens, ib] at * <;> omega) : ib i41 xs) (ai (setr 1 eStr xs (i41).toNat (xs.getD (Int.toNat j1) default)) (ai (iok (i41 + 1) (by first | omega | (simp only [lens, ib] at * <;> omega))) (ai (iok (j1 + 1) (by first | omega | (simp only [lens, ib] at * <;> omega))) (Qop Qdel s del i0 m0 (i41 + 1) (j1 + 1) (xs.set (i41).toNat (xs.getD (Int.toNat j1) default)) hl0 (Qe hI0 (condT h5 (condT h6 rfl))) (by refine ⟨?_, ?_, ?_, ?_, ?_, ?_⟩ <;> first | omega | (simp only [lens, ib] at * <;> omega) | (intro k hk hk2; first | exact (by assumption : ∀ k : Nat, k < s.length → Qdel (s.getD k default)) k hk2 | exact (by assumption : ∀ k : Nat, j1 ≤ (k : Int) → k < xs.length → Qdel (xs.getD k default)) k (by first | omega | (simp only [lens, ib] at * <;> omega)) hk2 | (rw [Qu _ _ _ _ (by first | omega | (simp only [lens, ib] at * <;> omega))]; exact (by assumption : ∀ k : Nat, j1 ≤ (k : Int) → k < xs.length → Qdel (xs.getD k default)) k (by first | omega | (simp only [lens, ib] at * <;> omega)) (by simpa using hk2))))))))) (fun h6 => have _ := (Ym h6); ai (iok (j1 + 1) (by first | omega | (simp only [lens, ib] at * <;> omega))) (Qop Qdel s del i0 m0 i41 (j1 + 1) xs hl0 (Qe hI0 (condT h5 (condF h6 rfl))) (by refine ⟨?_, ?_, ?_, ?_, ?_, ?_⟩ <;> first | omega | (simp only [lens, ib] at * <;> omega) | (intro k hk hk2; first | exact (by assumption : ∀ k : Nat, k < s.length → Qdel (s.getD k default)) k hk2 | exact (by assumption : ∀ k : Nat, j1 ≤ (k : Int) → k < xs.length → Qdel (xs.getD k default)) k (by first | omega | (simp only [lens, ib] at * <;> omega)) hk2 | (rw [Qu _ _ _ _ (by first | omega | (simp only [lens, ib] at * <;> omega))]; exact (by assumption : ∀ k : Nat, j1 ≤ (k : Int) → k < xs.length → Qdel (xs.getD k default)) k (by first | omega | (simp only [lens, ib] at * <;> omega)) (by simpa using hk2)))))))))) (fun h5 _ => have hD0_7 : Qqp s del = Lp.done (i41, j1, xs) := Qk hI0 (condF h5 rfl); jn82_0 s del xs i41 (Eq.symm (finD hD0_7 rfl)) (by refine ⟨?_, ?_⟩ <;> first | exact trivial | first | omega | (simp only [lens, ib] at * <;> omega)))) (i0.1 - 1) i0.2.1 i0.2.2.1 i0.2.2.2 (un82_0 Qdel s del i0 hi0)))) (fun (j : List ByteArray × Int) (hj : Qkb s del j) => (fun (s1 : List ByteArray) (i40 : Int) (hJ0_8 : (Qda s del) = Lp.done (s1, i40)) (hw : Qim s del s1 i40) => have _ := hw.1; ai (by first | omega | (simp only [lens, ib] at * <;> omega) : 0 ≤ i40 ∧ i40 ≤ (s1.length : Int) ∧ (s1.length : Int) ≤ (s1.length : Int)) (ai (ClearOK.mk eStr s1 (w13_ : ByteArray) rfl (fun y e he => by simp only [eStr, List.mem_cons, List.not_mem_nil, or_false] at he; rcases he with rfl <;> exact ⟨_, rfl⟩) : ClearOK (.l 1 eStr s1) (Int.toNat i40) (s1.drop (Int.toNat i40)).length 1 [.string w13_] (.l 1 eStr (s1.take (Int.toNat i40) ++ List.replicate (s1.drop (Int.toNat i40)).length (w13_ : ByteArray) ++ s1.drop ((Int.toNat i40) + (s1.drop (Int.toNat i40)).length)))) (ai (by first | omega | (simp only [lens, ib] at * <;> omega) : 0 ≤ (0 : Int) ∧ (0 : Int) ≤ i40 ∧ i40 ≤ ((s1.take (Int.toNat i40) ++ List.replicate (s1.drop (Int.toNat i40)).length (w13_ : ByteArray) ++ s1.drop ((Int.toNat i40) + (s1.drop (Int.toNat i40)).length)).length : Int)) (fi82 s del ((s1.take (Int.toNat i40) ++ List.replicate (s1.drop (Int.toNat i40)).length (w13_ : ByteArray) ++ s1.drop ((Int.toNat i40) + (s1.drop (Int.toNat i40)).length)).take (Int.toNat i40)) (condF h3 (finD hJ0_8 rfl)))))) j.1 j.2 hj.1 hj.2)))) (by kernel_rfl)
theorem as82 (s : List ByteArray) (del : ByteArray → Bool) : F82 s del = (s.filter (fun x => !(del x))) := by
 exact Qgq del s _ (Hr s del) (fun i j xs => rfl)
theorem oa82 (s : List ByteArray) (del : ByteArray → Bool) (Qdel : ByteArray → Prop) : (S82 (s.filter (fun x => !(del x))) s del Qdel).ok Tryz.prog 82 false := by
 intro hp; have h := ok82 s del Qdel hp; rw [as82 s del] at h; exact h
def F84 (w1 : ByteArray) : Bool :=
 decide ((w1.size : Int) > 24)
def S84 (w1 : ByteArray) : Spec := ⟨[.r (.c (.v (.string w1)))], .v (.bool (F84 w1)), True⟩
theorem ok84 (w1 : ByteArray) : (S84 w1).ok Tryz.prog 84 :=
 Ql mixed (fn := Tryz.f84) (ct := .seq .no (.seq .no .no)) Tryz.func84 (fun (_ : True) => fiB (decide ((w1.size : Int) > 24)) (F84 w1) rfl) (by kernel_rfl)
def F33 (s : List ByteArray) (f : ByteArray → Bool) : Bool :=
 decide ((idxI f s) ≥ 0)
def S33 (R : Bool) (s : List ByteArray) (f : ByteArray → Bool) (Qf : ByteArray → Prop) : Spec := ⟨[.r (.c (.l 1 eStr s)), .fn (Yu Qf f)], .v (.bool R), (∀ k : Nat, k < s.length → Qf (s.getD k default))⟩
theorem ok33 (s : List ByteArray) (f : ByteArray → Bool) (Qf : ByteArray → Prop) : (S33 (F33 s f) s f Qf).ok Tryz.prog 33 false :=
 Ql mixed (fn := Tryz.f33) (ct := .seqk [(0, 0)] .no (.seq (.reg [(2, kh58a s f Qf)]) .no)) Tryz.func33 (fun (hpre0 : ∀ k : Nat, k < s.length → Qf (s.getD k default)) => kn s fun _ => kc58a s f Qf (by first | assumption | exact hpre0 _ | exact fun k _ => hpre0 k | (intros; exact trivial) | (intros; exact Nat.zero_le _)) (fun gv1 gv2 => fiB (decide ((idxI f s) ≥ 0)) (F33 s f) rfl)) (by kernel_rfl)
theorem as33 (s : List ByteArray) (f : ByteArray → Bool) : F33 s f = (s.any f) := by
 exact Ms f s
theorem oa33 (s : List ByteArray) (f : ByteArray → Bool) (Qf : ByteArray → Prop) : (S33 (s.any f) s f Qf).ok Tryz.prog 33 false := by
 intro hp; have h := ok33 s f Qf hp; rw [as33 s f] at h; exact h
abbrev kh60f (s : ByteArray) (sep : ByteArray) : Hint false Tryz.prog := .call 60 (S60 s sep) ((ok60 s sep).to false) none
abbrev w14_ : ByteArray := ⟨#[35]⟩
abbrev w15_ : ByteArray := ⟨#[32]⟩
def Ja (line : ByteArray) : Int → Lp Int (List ByteArray × Bool) := fun i40 =>
 bif (decide (i40 < (((F64 line (⟨#[35]⟩ : ByteArray)).1).size : Int))) then (bif (!(decide (32 ≤ (IntKind.i64.wrap ((((F64 line (⟨#[35]⟩ : ByteArray)).1).data.getD (Int.toNat i40) 0).toNat : Int)) ∧ (IntKind.i64.wrap ((((F64 line (⟨#[35]⟩ : ByteArray)).1).data.getD (Int.toNat i40) 0).toNat : Int)) ≤ 126))) then (.ret (([] : List ByteArray), false)) else (.next (i40 + 1))) else (.done i40)
def F70 (line : ByteArray) : List ByteArray × Bool :=
 (runL (Ja line) ((Int.toNat ((((F64 line (⟨#[35]⟩ : ByteArray)).1).size : Int) - 0)) + 1) 0).fin (fun r => r) (fun i40 => bif (bif decide ((((F60 ((F64 line (⟨#[35]⟩ : ByteArray)).1) (⟨#[32]⟩ : ByteArray)).filter (fun x => !((fun (x0 : ByteArray) => F83 x0) x))).length : Int) > 8) then true else (((F60 ((F64 line (⟨#[35]⟩ : ByteArray)).1) (⟨#[32]⟩ : ByteArray)).filter (fun x => !((fun (x0 : ByteArray) => F83 x0) x))).any (fun (x0 : ByteArray) => F84 x0))) then (([] : List ByteArray), false) else (((F60 ((F64 line (⟨#[35]⟩ : ByteArray)).1) (⟨#[32]⟩ : ByteArray)).filter (fun x => !((fun (x0 : ByteArray) => F83 x0) x))), true))
abbrev Rq (line : ByteArray) : Nat × Int := (((Int.toNat ((((F64 line w14_).1).size : Int) - 0)) + 1), 0)
abbrev Qhw (line : ByteArray) (m39 : Nat) (i40 : Int) : Prop := Int.toNat ((((F64 line w14_).1).size : Int) - i40) < m39 ∧ (0 : Int) ≤ i40
abbrev Qtw (line : ByteArray) : Lp Int (List ByteArray × Bool) := LpX (Ja line) (Rq line)
abbrev Pu (line : ByteArray) (i : Nat × Int) : Prop := LpJ (Ja line) (Rq line) i (Qhw line i.1 i.2)
abbrev Qsl (line : ByteArray) (i : Nat × Int) (m39 : Nat) (i40 : Int) : Prop := LpH (Ja line) (Rq line) i m39 i40 (Qhw line (m39 + 1) i40)
abbrev Qsv (line : ByteArray) (i40 : Int) (i40_ : Int) (K39 : Prop) : Prop := (Rf (.string ((F64 line w14_).1))) ∧ ((.int .i64 i40 : Value) = .int .i64 i40_) ∧ K39
theorem un70_0 (line : ByteArray) (i : Nat × Int) (h : Pu line i) : Qsl line i (i.1 - 1) i.2 := ⟨hd1 h.1 h.2.1, hd3 h.2.1, hd2 h.2.1, h.2.2⟩
theorem bk70_0 (line : ByteArray) (i : Nat × Int) (m39 : Nat) (i40 : Int) (hl : m39 < i.1) (e : runL (Ja line) m39 i40 = Qtw line) (h : Qhw line m39 i40) : ∃ j : Nat × Int, Qsv line i40 j.2 (Pu line j ∧ j.1 < i.1) := ⟨(m39, i40), rfl, rfl, ⟨e, h⟩, hl⟩
theorem en70_0 (line : ByteArray) (h : (0 : Int) ≤ 0) : Qsv line 0 0 (Pu line (Rq line)) := ⟨rfl, rfl, rfl, Nat.lt_succ_self _, h⟩
theorem fi70 (line : ByteArray) (r : List ByteArray × Bool) (hF : r = (F70 line)) : (Imp (.l 1 eStr r.1) (.l 1 eStr ((F70 line).1))) ∧ ((.bool r.2 : Value) = .bool ((F70 line).2)) ∧ True := by cases hF; exact ⟨Imp.refl _, rfl, trivial⟩
def S70 (line : ByteArray) : Spec := ⟨[.r (.c (.v (.string line)))], .tu [.ow (.l 1 eStr ((F70 line).1)), .v (.bool ((F70 line).2))], line.size ≤ 1048576⟩
theorem ok70 (line : ByteArray) : (S70 line).ok Tryz.prog 70 false :=
 Ql mixed (fn := Tryz.f70) (ct := .seq .no (.seq (.reg [(1, Qub line w14_)]) (.seq (.seq .no (.blk (.loop (ι := Nat × Int) (fun i => (fun (i40 : Int) => (⟨[(0, some (.v (.string ((F64 line w14_).1)))), (4, some (.v (vI i40)))], [], 0⟩ : St)) i.2) (Pu line) (fun i => i.1) (Rq line) (fun i => (fun (i40 : Int) => (.seq (.seq .no (.cond .no .no)) (.seq (.blk (.seq (.reg [(4, Es (IntKind.i64.wrap ((((F64 line w14_).1).data.getD (Int.toNat i40) 0).toNat : Int)) 32 126)]) (.cond (.seq .no .no) .no))) (.reg [(1, .bnd)])))) i.2)))) (.seq (.reg [(1, kh60f ((F64 line w14_).1) w15_), (2, .call 82 (S82 ((F60 ((F64 line w14_).1) w15_).filter (fun x => !((fun (x0 : ByteArray) => F83 x0) x))) (F60 ((F64 line w14_).1) w15_) (fun (x0 : ByteArray) => F83 x0) (fun (x0 : ByteArray) => True)) (oa82 (F60 ((F64 line w14_).1) w15_) (fun (x0 : ByteArray) => F83 x0) (fun (x0 : ByteArray) => True)) (some ⟨true, 83, Yu (fun (x0 : ByteArray) => True) (fun (x0 : ByteArray) => F83 x0), [], rfl, True, fun i => Vk (ok83 i)⟩))]) (.seq (.seq (.reg [(5, .call 33 (S33 (((F60 ((F64 line w14_).1) w15_).filter (fun x => !((fun (x0 : ByteArray) => F83 x0) x))).any (fun (x0 : ByteArray) => F84 x0)) ((F60 ((F64 line w14_).1) w15_).filter (fun x => !((fun (x0 : ByteArray) => F83 x0) x))) (fun (x0 : ByteArray) => F84 x0) (fun (x0 : ByteArray) => True)) (oa33 ((F60 ((F64 line w14_).1) w15_).filter (fun x => !((fun (x0 : ByteArray) => F83 x0) x))) (fun (x0 : ByteArray) => F84 x0) (fun (x0 : ByteArray) => True)) (some ⟨true, 84, Yu (fun (x0 : ByteArray) => True) (fun (x0 : ByteArray) => F84 x0), [], rfl, True, fun i => Vk (ok84 i)⟩))]) (.cond (.seq .no .no) .no)) (.seq .no .no)))))) Tryz.func70 (fun (hpre0 : line.size ≤ 1048576) => kc64 line w14_ (by omega) (fun gv1 gv2 => ai (en70_0 line (by omega)) (fun (i0 : Nat × Int) (hi0 : Pu line i0) => (fun (m0 : Nat) (i40 : Int) (hh0 : Qsl line i0 m0 i40) => have hI0 := hh0.1; have hl0 := hh0.2.1; have _ := hh0.2.2.1; have _ := hh0.2.2.2; ifd (i40 < (((F64 line w14_).1).size : Int)) (fun h4 _ => ai (by omega : 0 ≤ i40 ∧ i40 < (((F64 line w14_).1).size : Int)) (Qfu (IntKind.i64.wrap ((((F64 line w14_).1).data.getD (Int.toNat i40) 0).toNat : Int)) 32 126 (ifb (!(decide (32 ≤ (IntKind.i64.wrap ((((F64 line w14_).1).data.getD (Int.toNat i40) 0).toNat : Int)) ∧ (IntKind.i64.wrap ((((F64 line w14_).1).data.getD (Int.toNat i40) 0).toNat : Int)) ≤ 126))) (fun h5 => have _ : ¬ (32 ≤ (IntKind.i64.wrap ((((F64 line w14_).1).data.getD (Int.toNat i40) 0).toNat : Int)) ∧ (IntKind.i64.wrap ((((F64 line w14_).1).data.getD (Int.toNat i40) 0).toNat : Int)) ≤ 126) := of_decide_eq_false (Wv h5); (fun hF : (([] : List ByteArray), false) = (F70 line) => ai ((Imp.nil 1 eStr).trans (Imp.of_eq (congrArg (fun r : List ByteArray × Bool => Dat.l 1 eStr r.1) hF))) (ai (congrArg (fun r : List ByteArray × Bool => (.bool r.2 : Value)) hF) trivial)) (finR (Qt hI0 (condT h4 (condT h5 rfl))) rfl)) (fun h5 => have _ : 32 ≤ (IntKind.i64.wrap ((((F64 line w14_).1).data.getD (Int.toNat i40) 0).toNat : Int)) ∧ (IntKind.i64.wrap ((((F64 line w14_).1).data.getD (Int.toNat i40) 0).toNat : Int)) ≤ 126 := of_decide_eq_true (Ym h5); ai (iok (i40 + 1) (by omega)) (bk70_0 line i0 m0 (i40 + 1) hl0 (Qe hI0 (condT h4 (condF h5 rfl))) (by refine ⟨?_, ?_⟩ <;> omega)))))) (fun h4 _ => have hD0_6 : Qtw line = Lp.done i40 := Qk hI0 (condF h4 rfl); kc60 ((F64 line w14_).1) w15_ (by omega) (by decide) (by decide) (by decide) (fun gv7 gv8 => ai (ai (by omega : (F60 ((F64 line w14_).1) w15_).length ≤ 1000000000) (by first | assumption | (intros; exact trivial) | (intros; exact Nat.zero_le _) : ∀ k : Nat, k < (F60 ((F64 line w14_).1) w15_).length → (fun (x0 : ByteArray) => True) ((F60 ((F64 line w14_).1) w15_).getD k default))) (ai (Imp.refl (.l 1 eStr (F60 ((F64 line w14_).1) w15_))) (ai (Eq.refl (Yu (fun (x0 : ByteArray) => True) (fun (x0 : ByteArray) => F83 x0))) (ai trivial (ai (fun k9 : (decide ((((F60 ((F64 line w14_).1) w15_).filter (fun x => !((fun (x0 : ByteArray) => F83 x0) x))).length : Int) > 8)) = false => have _ : ¬ (((F60 ((F64 line w14_).1) w15_).filter (fun x => !((fun (x0 : ByteArray) => F83 x0) x))).length : Int) > 8 := of_decide_eq_false k9; (by first | assumption | (intros; exact trivial) | (intros; exact Nat.zero_le _) : ∀ k : Nat, k < ((F60 ((F64 line w14_).1) w15_).filter (fun x => !((fun (x0 : ByteArray) => F83 x0) x))).length → (fun (x0 : ByteArray) => True) (((F60 ((F64 line w14_).1) w15_).filter (fun x => !((fun (x0 : ByteArray) => F83 x0) x))).getD k default))) (ai (fun k10 : (decide ((((F60 ((F64 line w14_).1) w15_).filter (fun x => !((fun (x0 : ByteArray) => F83 x0) x))).length : Int) > 8)) = false => have _ : ¬ (((F60 ((F64 line w14_).1) w15_).filter (fun x => !((fun (x0 : ByteArray) => F83 x0) x))).length : Int) > 8 := of_decide_eq_false k10; (Imp.refl (.l 1 eStr ((F60 ((F64 line w14_).1) w15_).filter (fun x => !((fun (x0 : ByteArray) => F83 x0) x)))))) (ai (fun k11 : (decide ((((F60 ((F64 line w14_).1) w15_).filter (fun x => !((fun (x0 : ByteArray) => F83 x0) x))).length : Int) > 8)) = false => have _ : ¬ (((F60 ((F64 line w14_).1) w15_).filter (fun x => !((fun (x0 : ByteArray) => F83 x0) x))).length : Int) > 8 := of_decide_eq_false k11; (Eq.refl (Yu (fun (x0 : ByteArray) => True) (fun (x0 : ByteArray) => F84 x0)))) (ai (fun k12 : (decide ((((F60 ((F64 line w14_).1) w15_).filter (fun x => !((fun (x0 : ByteArray) => F83 x0) x))).length : Int) > 8)) = false => have _ : ¬ (((F60 ((F64 line w14_).1) w15_).filter (fun x => !((fun (x0 : ByteArray) => F83 x0) x))).length : Int) > 8 := of_decide_eq_false k12; trivial) (ifb (bif decide ((((F60 ((F64 line w14_).1) w15_).filter (fun x => !((fun (x0 : ByteArray) => F83 x0) x))).length : Int) > 8) then true else (((F60 ((F64 line w14_).1) w15_).filter (fun x => !((fun (x0 : ByteArray) => F83 x0) x))).any (fun (x0 : ByteArray) => F84 x0))) (fun h13 => (fun hF : (([] : List ByteArray), false) = (F70 line) => ai ((Imp.nil 1 eStr).trans (Imp.of_eq (congrArg (fun r : List ByteArray × Bool => Dat.l 1 eStr r.1) hF))) (ai (congrArg (fun r : List ByteArray × Bool => (.bool r.2 : Value)) hF) trivial)) (finD hD0_6 (condT h13 rfl))) (fun h13 => have _ : ¬ (((F60 ((F64 line w14_).1) w15_).filter (fun x => !((fun (x0 : ByteArray) => F83 x0) x))).length : Int) > 8 := of_decide_eq_false (orF1 h13); fi70 line (((F60 ((F64 line w14_).1) w15_).filter (fun x => !((fun (x0 : ByteArray) => F83 x0) x))), true) (finD hD0_6 (condF h13 rfl)))))))))))))) (i0.1 - 1) i0.2 (un70_0 line i0 hi0)))) (by kernel_rfl)
end Go.Proofs.YtmoodkjkecjeaaaGreatDoor
namespace Go.Proofs.YtmoodkjkecjeaaaGreatDoor
open Go.RowKit
set_option maxRecDepth 100000
set_option linter.unusedVariables false
set_option linter.unusedSimpArgs false
def Qx (c : UInt8) : List UInt8 → List (List UInt8)
 | [] => [[]]
 | b :: l => if b = c then [] :: Qx c l else (match Qx c l with | [] => [[b]] | w :: ws => (b :: w) :: ws)
theorem Uu {c : UInt8} : ∀ {l : List UInt8}, c ∉ l → Qx c l = [l]
 | [], _ => rfl
 | b :: l, h => by
  have hb : b ≠ c := fun e => h (by rw [e]; exact List.mem_cons_self)
  rw [Qx, if_neg hb, Uu (fun hm => h (List.mem_cons_of_mem _ hm))]
theorem Uz {c : UInt8} (b : List UInt8) : ∀ {a : List UInt8}, c ∉ a → Qx c (a ++ c :: b) = a :: Qx c b
 | [], _ => by rw [List.nil_append, Qx, if_pos rfl]
 | x :: a, h => by
  have hb : x ≠ c := fun e => h (by rw [e]; exact List.mem_cons_self)
  rw [List.cons_append, Qx, if_neg hb, Uz b (fun hm => h (List.mem_cons_of_mem _ hm))]
theorem Kj (c : UInt8) : ∀ l : List UInt8, (Lib.index l [c] = -1 ∧ c ∉ l) ∨ ∃ a b, l = a ++ c :: b ∧ c ∉ a ∧ Lib.index l [c] = (a.length : Int)
 | [] => .inl ⟨rfl, by simp⟩
 | x :: l => by
  rw [Lib.index_one, Lib.indexByte]
  by_cases hx : x = c
  ·subst hx
   exact .inr ⟨[], l, rfl, by simp, by simp⟩
  ·have hx' : (x == c) = false := by simpa using hx
   rw [hx']
   rcases Kj c l with ⟨h1, h2⟩ | ⟨a, b, h1, h2, h3⟩
   ·rw [Lib.index_one] at h1
    refine .inl ⟨by rw [h1]; rfl, fun hm => ?_⟩
    rcases List.mem_cons.1 hm with h | h
    ·exact hx h.symm
    ·exact h2 h
   ·rw [Lib.index_one] at h3
    refine .inr ⟨x :: a, b, by rw [h1]; rfl, fun hm => ?_, ?_⟩
    ·rcases List.mem_cons.1 hm with h | h
     ·exact hx h.symm
     ·exact h2 h
    ·rw [h3]
     have : ((a.length : Int) == -1) = false := by
      rw [beq_eq_false_iff_ne]; omega
     simp only [this, Bool.false_eq_true, if_false, List.length_cons]
     omega
theorem Jk {a b : ByteArray} (h : a.data.toList = b.data.toList) : a = b := by
 cases a; cases b
 simp only at h
 congr
 exact Array.ext' h
theorem Xw (s : ByteArray) (c : UInt8) : (c ∉ s.data.toList ∧ cut3 s ⟨#[c]⟩ = (s, ⟨#[]⟩, false)) ∨ ∃ a b, s.data.toList = a ++ c :: b ∧ c ∉ a ∧ cut3 s ⟨#[c]⟩ = (⟨a.toArray⟩, ⟨b.toArray⟩, true) := by
 rcases Kj c s.data.toList with ⟨h1, h2⟩ | ⟨a, b, h1, h2, h3⟩
 ·refine .inl ⟨h2, ?_⟩
  unfold cut3 Lib.cut
  rw [h1]
  rfl
 ·refine .inr ⟨a, b, h1, h2, ?_⟩
  unfold cut3 Lib.cut
  rw [h3, if_pos (by omega), h1]
  simp
theorem Nh (c : UInt8) : ∀ (k : Nat) (s : ByteArray), s.data.toList.count c = k → (Lib.splitB ⟨#[c]⟩ 0 k s).map (·.data.toList) = Qx c s.data.toList
 | 0, s, hk => by
  rw [Uu (List.count_eq_zero.1 hk)]
  rfl
 | k + 1, s, hk => by
  rcases Kj c s.data.toList with ⟨h1, h2⟩ | ⟨a, b, h1, h2, h3⟩
  ·rw [List.count_eq_zero.2 h2] at hk; omega
  ·have hi : Lib.indexB s ⟨#[c]⟩ = (a.length : Int) := h3
   unfold Lib.splitB
   rw [hi, if_neg (by rw [beq_iff_eq]; omega), List.map_cons, h1, Uz b h2]
   have hsz : s.size = a.length + (b.length + 1) := by
    have := congrArg List.length h1
    rw [List.length_append, List.length_cons, Array.length_toList] at this
    exact this
   have e1 : (s.extract 0 (((a.length : Int)).toNat + 0)).data.toList = a := by
    rw [ByteArray.data_extract, Array.toList_extract, List.extract_eq_take_drop, h1, Int.toNat_natCast, Nat.add_zero, Nat.sub_zero, List.drop_zero]
    rw [List.take_append_of_le_length (Nat.le_refl _), List.take_length]
   have e2 : (s.extract (((a.length : Int)).toNat + (⟨#[c]⟩ : ByteArray).size) s.size).data.toList = b := by
    have hc1 : (⟨#[c]⟩ : ByteArray).size = 1 := rfl
    rw [hc1]
    simp only [ByteArray.data_extract, Array.toList_extract, List.extract_eq_take_drop, h1, Int.toNat_natCast, hsz]
    rw [List.drop_append, List.drop_of_length_le (by omega), List.nil_append]
    have e3 : a.length + 1 - a.length = 1 := by omega
    rw [e3, List.drop_succ_cons, List.drop_zero, List.take_of_length_le (by omega)]
   rw [e1, Nh c k _ (by rw [e2]; rw [h1] at hk; simp [List.count_eq_zero.2 h2] at hk; omega), e2]
theorem Pa (s : ByteArray) (c : UInt8) : (Qw s ⟨#[c]⟩).map (·.data.toList) = Qx c s.data.toList := by
 have : Lib.countB s ⟨#[c]⟩ = s.data.toList.count c := Lib.count_one c s.data.toList
 unfold Qw
 rw [this]
 exact Nh c _ s rfl
def Xi (line : ByteArray) : Int → Lp Int ByteArray := fun i40 =>
 bif (decide (i40 < (line.size : Int))) then (bif (((line.data.getD (Int.toNat i40) 0).toNat : Int) == 35) then (.ret (line.extract (Int.toNat (0 : Int)) (Int.toNat i40))) else (.next (i40 + 1))) else (.done i40)
def F53 (line : ByteArray) : ByteArray :=
 (runL (Xi line) ((Int.toNat ((line.size : Int) - 0)) + 1) 0).fin (fun r => r) (fun i40 => line)
abbrev En (line : ByteArray) : Nat × Int := (((Int.toNat ((line.size : Int) - 0)) + 1), 0)
abbrev Qgs (line : ByteArray) (m39 : Nat) (i40 : Int) : Prop := Int.toNat ((line.size : Int) - i40) < m39 ∧ (0 : Int) ≤ i40
abbrev Qsi (line : ByteArray) : Lp Int ByteArray := LpX (Xi line) (En line)
abbrev No (line : ByteArray) (i : Nat × Int) : Prop := LpJ (Xi line) (En line) i (Qgs line i.1 i.2)
abbrev Qvh (line : ByteArray) (i : Nat × Int) (m39 : Nat) (i40 : Int) : Prop := LpH (Xi line) (En line) i m39 i40 (Qgs line (m39 + 1) i40)
abbrev Qrm (line : ByteArray) (i40 : Int) (i40_ : Int) (K39 : Prop) : Prop := (Rf (.string line)) ∧ ((.int .i64 i40 : Value) = .int .i64 i40_) ∧ K39
theorem un53_0 (line : ByteArray) (i : Nat × Int) (h : No line i) : Qvh line i (i.1 - 1) i.2 := ⟨hd1 h.1 h.2.1, hd3 h.2.1, hd2 h.2.1, h.2.2⟩
theorem bk53_0 (line : ByteArray) (i : Nat × Int) (m39 : Nat) (i40 : Int) (hl : m39 < i.1) (e : runL (Xi line) m39 i40 = Qsi line) (h : Qgs line m39 i40) : ∃ j : Nat × Int, Qrm line i40 j.2 (No line j ∧ j.1 < i.1) := ⟨(m39, i40), rfl, rfl, ⟨e, h⟩, hl⟩
theorem en53_0 (line : ByteArray) (h : (0 : Int) ≤ 0) : Qrm line 0 0 (No line (En line)) := ⟨rfl, rfl, rfl, Nat.lt_succ_self _, h⟩
def S53 (R : ByteArray) (line : ByteArray) : Spec := ⟨[.r (.c (.v (.string line)))], .v (.string R), line.size ≤ 1048576⟩
theorem ok53 (line : ByteArray) : (S53 (F53 line) line).ok Tryz.prog 53 :=
 Ql mixed (fn := Tryz.f53) (ct := .seq .no (.seq (.seq .no (.blk (.loop (ι := Nat × Int) (fun i => (fun (i40 : Int) => (⟨[(0, some (.v (.string line))), (3, some (.v (vI i40)))], [], 0⟩ : St)) i.2) (No line) (fun i => i.1) (En line) (fun i => (fun (i40 : Int) => (.seq (.seq .no (.cond .no .no)) (.seq (.blk (.seq .no (.cond (.seq .no .no) .no))) (.reg [(1, .bnd)])))) i.2)))) (.seq .no .no))) Tryz.func53 (fun (hpre0 : line.size ≤ 1048576) => ai (en53_0 line (by omega)) (fun (i0 : Nat × Int) (hi0 : No line i0) => (fun (m0 : Nat) (i40 : Int) (hh0 : Qvh line i0 m0 i40) => have hI0 := hh0.1; have hl0 := hh0.2.1; have _ := hh0.2.2.1; have _ := hh0.2.2.2; ifd (i40 < (line.size : Int)) (fun h2 _ => ai (by omega : 0 ≤ i40 ∧ i40 < (line.size : Int)) (ife ((line.data.getD (Int.toNat i40) 0).toNat : Int) 35 (fun h3 _ => ai (by omega : 0 ≤ (0 : Int) ∧ (0 : Int) ≤ i40 ∧ i40 ≤ (line.size : Int)) (fiS (line.extract (Int.toNat (0 : Int)) (Int.toNat i40)) (F53 line) (finR (Qt hI0 (condT h2 (condT h3 rfl))) rfl))) (fun h3 _ => ai (iok (i40 + 1) (by omega)) (bk53_0 line i0 m0 (i40 + 1) hl0 (Qe hI0 (condT h2 (condF h3 rfl))) (by refine ⟨?_, ?_⟩ <;> omega))))) (fun h2 _ => have hD0_4 : Qsi line = Lp.done i40 := Qk hI0 (condF h2 rfl); fiS line (F53 line) (finD hD0_4 rfl))) (i0.1 - 1) i0.2 (un53_0 line i0 hi0))) (by kernel_rfl)
theorem Zm (s : ByteArray) (i : Nat) : s.data.getD i 0 = s.data.toList.getD i 0 := by
 simp [Array.getD, List.getD_eq_getElem?_getD]
 split <;> simp_all
theorem cut_at {s : ByteArray} {c : UInt8} {i : Nat} (hi : i < s.size) (h : s.data.toList.getD i 0 = c) (hn : ∀ j, j < i → s.data.toList.getD j 0 ≠ c) : (cut3 s ⟨#[c]⟩).1 = s.extract 0 i := by
 have hl : s.data.toList.length = s.size := Array.length_toList
 rcases Xw s c with ⟨h1, _⟩ | ⟨a, b, h1, h2, h3⟩
 ·exact absurd (by rw [← h, List.getD_eq_getElem?_getD, List.getElem?_eq_getElem (by omega)]; exact List.getElem_mem _) h1
 ·rw [h3]
  have hai : a.length = i := by
   rcases Nat.lt_trichotomy a.length i with hlt | heq | hgt
   ·refine absurd ?_ (hn a.length hlt)
    rw [h1, List.getD_eq_getElem?_getD, List.getElem?_append_right (Nat.le_refl _)]
    simp
   ·exact heq
   ·rw [h1, List.getD_eq_getElem?_getD, List.getElem?_append_left hgt, List.getElem?_eq_getElem hgt] at h
    exact absurd (h ▸ List.getElem_mem hgt) h2
  refine Jk ?_
  rw [ByteArray.data_extract, Array.toList_extract, List.extract_eq_take_drop, h1, List.drop_zero, Nat.sub_zero, ← hai, List.take_append_of_le_length (Nat.le_refl _), List.take_length]
theorem Qwt {s : ByteArray} {c : UInt8} (hn : ∀ j, j < s.size → s.data.toList.getD j 0 ≠ c) : (cut3 s ⟨#[c]⟩).1 = s := by
 have hl : s.data.toList.length = s.size := Array.length_toList
 rcases Xw s c with ⟨_, h1⟩ | ⟨a, b, h1, h2, h3⟩
 ·rw [h1]
 ·refine absurd ?_ (hn a.length (by rw [← hl, h1]; simp))
  rw [h1, List.getD_eq_getElem?_getD, List.getElem?_append_right (Nat.le_refl _)]
  simp
theorem Qkv (b : UInt8) (k : UInt8) : ((b.toNat : Int) == (k.toNat : Int)) = decide (b = k) := by
 rw [beqD]
 congr 1
 refine propext ⟨fun h => ?_, fun h => by rw [h]⟩
 exact UInt8.toNat_inj.1 (by omega)
theorem Qbz (s : ByteArray) : ∀ (m i : Nat), i + m = s.size → (∀ j, j < i → s.data.toList.getD j 0 ≠ 35) → ∀ fuel, m < fuel →
  (runL (Xi s) fuel (i : Int)).fin (fun r => r) (fun _ => s) = (cut3 s ⟨#[35]⟩).1
 | m, i, _, _, 0, hf => absurd hf (Nat.not_lt_zero _)
 | 0, i, h, hn, fuel + 1, _ => by
  have h1 : decide ((i : Int) < (s.size : Int)) = false := decide_eq_false (by omega)
  simp only [runL, Xi, h1, cond_false]
  rw [Qwt (fun j hj => hn j (by omega))]
  rfl
 | m + 1, i, h, hn, fuel + 1, hf => by
  have h1 : decide ((i : Int) < (s.size : Int)) = true := decide_eq_true (by omega)
  have h2 := Qkv (s.data.toList.getD i 0) 35
  have h3 : ((35 : UInt8).toNat : Int) = 35 := rfl
  rw [h3] at h2
  simp only [runL, Xi, h1, cond_true, Int.toNat_natCast, Zm, h2]
  by_cases hc : s.data.toList.getD i 0 = 35
  ·rw [decide_eq_true hc, cond_true, cut_at (by omega) hc hn]
   rfl
  ·rw [decide_eq_false hc, cond_false]
   have := Qbz s m (i + 1) (by omega) (fun j hj => by
    rcases Nat.lt_or_ge j i with h4 | h4
    ·exact hn j h4
    ·obtain rfl : j = i := by omega
     exact hc) fuel (by omega)
   simpa using this
theorem as53 (line : ByteArray) : F53 line = ((cut3 line (⟨#[35]⟩ : ByteArray)).1) := by
 unfold F53
 exact Qbz line line.size 0 (by omega) (fun j hj => absurd hj (Nat.not_lt_zero _)) _ (by omega)
theorem Qyf (line : ByteArray) : ((cut3 line (⟨#[35]⟩ : ByteArray)).1.size : Int) ≤ line.size := Rl _ _
theorem Qpg (line : ByteArray) (h : line.size ≤ 1048576) : (cut3 line (⟨#[35]⟩ : ByteArray)).1.size ≤ 1048576 := by
 have := Rl line ⟨#[35]⟩
 omega
theorem oa53 (line : ByteArray) : (S53 ((cut3 line (⟨#[35]⟩ : ByteArray)).1) line).ok Tryz.prog 53 := by
 intro hp; have h := ok53 line hp; rw [as53 line] at h; exact h
theorem kc53a (line : ByteArray) {K_ : Prop} (p0_ : line.size ≤ 1048576) (q0_ : line.size ≤ 1048576) (k_ : ((((cut3 line w14_).1).size : Int) ≤ line.size) → (((cut3 line w14_).1).size ≤ 1048576) → K_) : (line.size ≤ 1048576) ∧ (Imp (.v (.string line)) (.v (.string line))) ∧ K_ := ⟨p0_, Imp.refl _, k_ (Qyf line) (Qpg line q0_)⟩
abbrev kh53a (line : ByteArray) : Hint true Tryz.prog := .call 53 (S53 ((cut3 line w14_).1) line) (oa53 line) none
def Kl (line : ByteArray) : (List ByteArray × List Int × Int) → Lp (List ByteArray × List Int × Int) (List ByteArray × Bool) := fun (out, word, i40) =>
 bif (decide (i40 ≤ (((cut3 line (⟨#[35]⟩ : ByteArray)).1).size : Int))) then (bif (bif decide (i40 < (((cut3 line (⟨#[35]⟩ : ByteArray)).1).size : Int)) then (bif decide (((((cut3 line (⟨#[35]⟩ : ByteArray)).1).data.getD (Int.toNat i40) 0).toNat : Int) < 32) then true else decide (((((cut3 line (⟨#[35]⟩ : ByteArray)).1).data.getD (Int.toNat i40) 0).toNat : Int) > 126)) else false) then (.ret (([] : List ByteArray), false)) else (bif (bif decide (i40 < (((cut3 line (⟨#[35]⟩ : ByteArray)).1).size : Int)) then (((((cut3 line (⟨#[35]⟩ : ByteArray)).1).data.getD (Int.toNat i40) 0).toNat : Int) != 32) else false) then (bif (decide (((word ++ [((((cut3 line (⟨#[35]⟩ : ByteArray)).1).data.getD (Int.toNat i40) 0).toNat : Int)]).length : Int) > 24)) then (.ret (([] : List ByteArray), false)) else (.next (out, (word ++ [((((cut3 line (⟨#[35]⟩ : ByteArray)).1).data.getD (Int.toNat i40) 0).toNat : Int)]), (i40 + 1)))) else (bif (decide ((word.length : Int) > 0)) then (bif (decide (((out ++ [(Wz word)]).length : Int) > 8)) then (.ret (([] : List ByteArray), false)) else (.next ((out ++ [(Wz word)]), ([] : List Int), (i40 + 1)))) else (.next (out, word, (i40 + 1)))))) else (.done (out, word, i40))
def F24 (line : ByteArray) : List ByteArray × Bool :=
 (runL (Kl line) ((Int.toNat ((((cut3 line (⟨#[35]⟩ : ByteArray)).1).size : Int) - 0 + 1)) + 1) (([] : List ByteArray), ([] : List Int), 0)).fin (fun r => r) (fun (out, word, i40) => (out, true))
abbrev Ep (line : ByteArray) : Nat × (List ByteArray × List Int × Int) := (((Int.toNat ((((cut3 line w14_).1).size : Int) - 0 + 1)) + 1), (([] : List ByteArray), ([] : List Int), 0))
abbrev Qji (line : ByteArray) (m39 : Nat) (out : List ByteArray) (word : List Int) (i40 : Int) : Prop := Int.toNat ((((cut3 line w14_).1).size : Int) - i40 + 1) < m39 ∧ word.length ≤ 24 ∧ out.length ≤ 8 ∧ (0 : Int) ≤ i40
abbrev Qrk (line : ByteArray) : Lp (List ByteArray × List Int × Int) (List ByteArray × Bool) := LpX (Kl line) (Ep line)
abbrev Ek (line : ByteArray) (i : Nat × (List ByteArray × List Int × Int)) : Prop := LpJ (Kl line) (Ep line) i (Qji line i.1 i.2.1 i.2.2.1 i.2.2.2)
abbrev Qto (line : ByteArray) (i : Nat × (List ByteArray × List Int × Int)) (m39 : Nat) (out : List ByteArray) (word : List Int) (i40 : Int) : Prop := LpH (Kl line) (Ep line) i m39 (out, word, i40) (Qji line (m39 + 1) out word i40)
abbrev Qui (line : ByteArray) (out : List ByteArray) (word : List Int) (i40 : Int) (out_ : List ByteArray) (word_ : List Int) (i40_ : Int) (K39 : Prop) : Prop := (Rf (.string ((cut3 line w14_).1))) ∧ ((.int .i64 i40 : Value) = .int .i64 i40_) ∧ (Imp (.l 1 eStr out) (.l 1 eStr out_)) ∧ (Imp (.l 1 Wp word) (.l 1 Wp word_)) ∧ K39
theorem un24_0 (line : ByteArray) (i : Nat × (List ByteArray × List Int × Int)) (h : Ek line i) : Qto line i (i.1 - 1) i.2.1 i.2.2.1 i.2.2.2 := ⟨hd1 h.1 h.2.1, hd3 h.2.1, hd2 h.2.1, h.2.2⟩
theorem Qgu (line : ByteArray) (i : Nat × (List ByteArray × List Int × Int)) (m39 : Nat) (out : List ByteArray) (word : List Int) (i40 : Int) (hl : m39 < i.1) (e : runL (Kl line) m39 (out, word, i40) = Qrk line) (h : Qji line m39 out word i40) : ∃ j : Nat × (List ByteArray × List Int × Int), Qui line out word i40 j.2.1 j.2.2.1 j.2.2.2 (Ek line j ∧ j.1 < i.1) := ⟨(m39, (out, word, i40)), rfl, rfl, Imp.refl _, Imp.refl _, ⟨e, h⟩, hl⟩
theorem en24_0 (line : ByteArray) (h : ([] : List Int).length ≤ 24 ∧ ([] : List ByteArray).length ≤ 8 ∧ (0 : Int) ≤ 0) : Qui line ([] : List ByteArray) ([] : List Int) 0 ([] : List ByteArray) ([] : List Int) 0 (Ek line (Ep line)) := ⟨rfl, rfl, Imp.refl _, Imp.refl _, rfl, Nat.lt_succ_self _, h⟩
theorem fi24 (line : ByteArray) (r : List ByteArray × Bool) (hF : r = (F24 line)) : (Imp (.l 1 eStr r.1) (.l 1 eStr ((F24 line).1))) ∧ ((.bool r.2 : Value) = .bool ((F24 line).2)) ∧ True := by cases hF; exact ⟨Imp.refl _, rfl, trivial⟩
def S24 (line : ByteArray) : Spec := ⟨[.r (.c (.v (.string line)))], .tu [.ow (.l 1 eStr ((F24 line).1)), .v (.bool ((F24 line).2))], line.size ≤ 1048576⟩
theorem ok24 (line : ByteArray) : (S24 line).ok Tryz.prog 24 :=
 Ql mixed (fn := Tryz.f24) (ct := .seq .no (.seq (.reg [(1, kh53a line)]) (.seq (.reg [(0, .dat (.l 1 eStr ([] : List ByteArray)))]) (.seq (.reg [(0, .dat (.l 1 Wp ([] : List Int)))]) (.seq (.seqk [(5, 0), (6, 0)] .no (.blk (.loop (ι := Nat × (List ByteArray × List Int × Int)) (fun i => (fun (out : List ByteArray) (word : List Int) (i40 : Int) => (⟨[(4, some (.v (.string ((cut3 line w14_).1)))), (5, some (.h 0 0)), (6, some (.h 1 0)), (7, some (.v (vI i40)))], [(0, some (.own 0 (.l 1 eStr out))), (1, some (.own 1 (.l 1 Wp word)))], 2⟩ : St)) i.2.1 i.2.2.1 i.2.2.2) (Ek line) (fun i => i.1) (Ep line) (fun i => (fun (out : List ByteArray) (word : List Int) (i40 : Int) => (.seq (.seq .no (.cond .no .no)) (.seq (.blk (.seq (.seq .no (.cond (.seq (.reg [(0, .dat (.l 1 eStr ([] : List ByteArray)))]) .no) .no)) (.seq (.seq .no (.cond (.seq (.reg [(5, .dat (.l 1 Wp (word ++ [((((cut3 line w14_).1).data.getD (Int.toNat i40) 0).toNat : Int)])))]) (.seq (.seq .no (.cond (.seq (.reg [(0, .dat (.l 1 eStr ([] : List ByteArray)))]) .no) .no)) .no)) .no)) (.seq .no (.cond (.seq (.reg [(2, .str (Wz word)), (4, .dat (.l 1 eStr (out ++ [(Wz word)])))]) (.seq (.reg [(0, .dat (.l 1 Wp ([] : List Int)))]) (.seq .no (.cond (.seq (.reg [(0, .dat (.l 1 eStr ([] : List ByteArray)))]) .no) .no)))) .no))))) (.reg [(1, .bnd)])))) i.2.1 i.2.2.1 i.2.2.2)))) (.seq .no .no)))))) Tryz.func24 (fun (hpre0 : line.size ≤ 1048576) => kc53a line (by first | omega | (simp only [lens, ib] at * <;> omega)) (by first | omega | (simp only [lens, ib] at * <;> omega)) (fun gv1 gv2 => ai (bokr 1 eStr ([] : List ByteArray) fun _ => rfl) (ai (bokr 1 Wp ([] : List Int) fun _ => rfl) (kn ([] : List ByteArray) fun _ => kn ([] : List Int) fun _ => ai (en24_0 line (by refine ⟨?_, ?_, ?_⟩ <;> first | omega | (simp only [lens, ib] at * <;> omega))) (fun (i0 : Nat × (List ByteArray × List Int × Int)) (hi0 : Ek line i0) => (fun (m0 : Nat) (out : List ByteArray) (word : List Int) (i40 : Int) (hh0 : Qto line i0 m0 out word i40) => have hI0 := hh0.1; have hl0 := hh0.2.1; have _ := hh0.2.2.1; have _ := hh0.2.2.2; ifd (i40 ≤ (((cut3 line w14_).1).size : Int)) (fun h4 _ => ai (fun k5 : (decide (i40 < (((cut3 line w14_).1).size : Int))) = true => have _ : i40 < (((cut3 line w14_).1).size : Int) := of_decide_eq_true k5; (by first | omega | (simp only [lens, ib] at * <;> omega) : 0 ≤ i40 ∧ i40 < (((cut3 line w14_).1).size : Int))) (ai (fun k7 : (decide (((((cut3 line w14_).1).data.getD (Int.toNat i40) 0).toNat : Int) < 32)) = false => have _ : ¬ ((((cut3 line w14_).1).data.getD (Int.toNat i40) 0).toNat : Int) < 32 := of_decide_eq_false k7; (fun k6 : (decide (i40 < (((cut3 line w14_).1).size : Int))) = true => have _ : i40 < (((cut3 line w14_).1).size : Int) := of_decide_eq_true k6; (by first | omega | (simp only [lens, ib] at * <;> omega) : 0 ≤ i40 ∧ i40 < (((cut3 line w14_).1).size : Int)))) (ifb (bif decide (i40 < (((cut3 line w14_).1).size : Int)) then (bif decide (((((cut3 line w14_).1).data.getD (Int.toNat i40) 0).toNat : Int) < 32) then true else decide (((((cut3 line w14_).1).data.getD (Int.toNat i40) 0).toNat : Int) > 126)) else false) (fun h8 => have _ : i40 < (((cut3 line w14_).1).size : Int) := of_decide_eq_true (Qh h8); ai (bokr 1 eStr ([] : List ByteArray) fun _ => rfl) (fi24 line (([] : List ByteArray), false) (finR (Qt hI0 (condT h4 (condT h8 rfl))) rfl))) (fun h8 => ai (fun k9 : (decide (i40 < (((cut3 line w14_).1).size : Int))) = true => have _ : i40 < (((cut3 line w14_).1).size : Int) := of_decide_eq_true k9; (by first | omega | (simp only [lens, ib] at * <;> omega) : 0 ≤ i40 ∧ i40 < (((cut3 line w14_).1).size : Int))) (ifb (bif decide (i40 < (((cut3 line w14_).1).size : Int)) then (((((cut3 line w14_).1).data.getD (Int.toNat i40) 0).toNat : Int) != 32) else false) (fun h10 => have _ : i40 < (((cut3 line w14_).1).size : Int) := of_decide_eq_true (Qh h10); have _ : ¬ ((((cut3 line w14_).1).data.getD (Int.toNat i40) 0).toNat : Int) = 32 := bneT (Qv h10); ai (by first | omega | (simp only [lens, ib] at * <;> omega) : 0 ≤ i40 ∧ i40 < (((cut3 line w14_).1).size : Int)) (ai (AppA.mk Wp word [((((cut3 line w14_).1).data.getD (Int.toNat i40) 0).toNat : Int)] (Imp.refl (.l 1 Wp word)) rfl (by exact ai (Imp.u8 (by first | exact u8a _ | exact u8m _ | exact u8w _)) trivial) (fun _ => rfl) : AppA (.l 1 Wp word) 1 1 [.v (.int .u8 ((((cut3 line w14_).1).data.getD (Int.toNat i40) 0).toNat : Int))] (.l 1 Wp (word ++ [((((cut3 line w14_).1).data.getD (Int.toNat i40) 0).toNat : Int)]))) (ai (by (try simp only [lens]); omega : (word ++ [((((cut3 line w14_).1).data.getD (Int.toNat i40) 0).toNat : Int)]).length * 1 ≤ 140737488355328) (ifd (((word ++ [((((cut3 line w14_).1).data.getD (Int.toNat i40) 0).toNat : Int)]).length : Int) > 24) (fun h11 _ => ai (bokr 1 eStr ([] : List ByteArray) fun _ => rfl) (fi24 line (([] : List ByteArray), false) (finR (Qt hI0 (condT h4 (condF h8 (condT h10 (condT h11 rfl))))) rfl))) (fun h11 _ => ai (iok (i40 + 1) (by first | omega | (simp only [lens, ib] at * <;> omega))) (Qgu line i0 m0 out (word ++ [((((cut3 line w14_).1).data.getD (Int.toNat i40) 0).toNat : Int)]) (i40 + 1) hl0 (Qe hI0 (condT h4 (condF h8 (condT h10 (condF h11 rfl))))) (by refine ⟨?_, ?_, ?_, ?_⟩ <;> first | omega | (simp only [lens, ib] at * <;> omega)))))))) (fun h10 => ifd ((word.length : Int) > 0) (fun h12 _ => ai (ConvOK.mk Wp word (fun x => x % 256) (fun _ => rfl) : ConvOK (.l 1 Wp word) (Wz word)) (ai (appr 1 eStr out [(Wz word)] fun _ => rfl) (ai (by (try simp only [lens]); omega : (out ++ [(Wz word)]).length * 16 ≤ 140737488355328) (ai (bokr 1 Wp ([] : List Int) fun _ => rfl) (ifd (((out ++ [(Wz word)]).length : Int) > 8) (fun h13 _ => ai (bokr 1 eStr ([] : List ByteArray) fun _ => rfl) (fi24 line (([] : List ByteArray), false) (finR (Qt hI0 (condT h4 (condF h8 (condF h10 (condT h12 (condT h13 rfl)))))) rfl))) (fun h13 _ => ai (iok (i40 + 1) (by first | omega | (simp only [lens, ib] at * <;> omega))) (Qgu line i0 m0 (out ++ [(Wz word)]) ([] : List Int) (i40 + 1) hl0 (Qe hI0 (condT h4 (condF h8 (condF h10 (condT h12 (condF h13 rfl)))))) (by refine ⟨?_, ?_, ?_, ?_⟩ <;> first | omega | (simp only [lens, ib] at * <;> omega))))))))) (fun h12 _ => ai (iok (i40 + 1) (by first | omega | (simp only [lens, ib] at * <;> omega))) (Qgu line i0 m0 out word (i40 + 1) hl0 (Qe hI0 (condT h4 (condF h8 (condF h10 (condF h12 rfl))))) (by refine ⟨?_, ?_, ?_, ?_⟩ <;> first | omega | (simp only [lens, ib] at * <;> omega)))))))))) (fun h4 _ => have hD0_14 : Qrk line = Lp.done (out, word, i40) := Qk hI0 (condF h4 rfl); fi24 line (out, true) (finD hD0_14 rfl))) (i0.1 - 1) i0.2.1 i0.2.2.1 i0.2.2.2 (un24_0 line i0 hi0)))))) (by kernel_rfl)
def Ud (l : List UInt8) : List (List UInt8) := (Qx 32 l).filter fun w => !w.isEmpty
def okB (b : UInt8) : Bool := decide (32 ≤ b.toNat ∧ b.toNat ≤ 126)
def mkB (l : List UInt8) : ByteArray := ⟨l.toArray⟩
theorem Ny (l : List UInt8) : (mkB l).data.toList = l := rfl
theorem Tf (s : ByteArray) : mkB s.data.toList = s := Jk rfl
def fitW (ws : List (List UInt8)) : Bool := decide (ws.length ≤ 8) && ws.all fun w => decide (w.length ≤ 24)
def Wk (l : List UInt8) : List ByteArray × Bool := bif l.all okB && fitW (Ud l) then ((Ud l).map mkB, true) else ([], false)
def Kr (w : List UInt8) : List Int := w.map fun b => (b.toNat : Int)
theorem Ld (w : List UInt8) : (Kr w).length = w.length := by simp [Kr]
theorem Lz (w : List UInt8) : Wz (Kr w) = mkB w := by
 refine Jk ?_
 show ((List.map (fun x => x % 256) (Kr w)).map fun n => UInt8.ofNat n.toNat) = w
 rw [List.map_map, Kr, List.map_map]
 refine (List.map_congr_left (g := id) fun b _ => ?_).trans (List.map_id w)
 have h := b.toNat_lt
 have e : ((b.toNat : Int) % 256).toNat = b.toNat := by omega
 simp only [Function.comp_apply, e, id]
 exact UInt8.ofNat_toNat
def Hb : List UInt8 → List ByteArray → List UInt8 → List ByteArray × Bool
 | [], out, w => if w = [] then (out, true) else if out.length + 1 > 8 then ([], false) else (out ++ [mkB w], true)
 | b :: l, out, w => if okB b = false then ([], false) else if b = 32 then (if w = [] then Hb l out w else if out.length + 1 > 8 then ([], false) else Hb l (out ++ [mkB w]) [])
  else if w.length + 1 > 24 then ([], false) else Hb l out (w ++ [b])
theorem Mb (c : UInt8) : ∀ (l w : List UInt8), c ∉ w → ∃ p ps, Qx c (w ++ l) = (w ++ p) :: ps
 | [], w, h => ⟨[], [], by rw [List.append_nil, Uu h]⟩
 | b :: l, w, h => by
  by_cases hb : b = c
  ·subst hb
   exact ⟨[], Qx b l, by rw [Uz l h, List.append_nil]⟩
  ·obtain ⟨p, ps, e⟩ := Mb c l (w ++ [b]) (fun hm => by
    rcases List.mem_append.1 hm with h1 | h1
    ·exact h h1
    ·exact hb (List.mem_singleton.1 h1).symm)
   exact ⟨b :: p, ps, by rw [← List.singleton_append, ← List.append_assoc, e, List.append_assoc]; rfl⟩
theorem Gt : ∀ (l : List UInt8) (out : List ByteArray) (w : List UInt8), (32 : UInt8) ∉ w → w.length ≤ 24 → out.length ≤ 8 →
  Hb l out w = bif l.all okB && (decide (out.length + (Ud (w ++ l)).length ≤ 8) && (Ud (w ++ l)).all fun x => decide (x.length ≤ 24)) then (out ++ (Ud (w ++ l)).map mkB, true) else ([], false)
 | [], out, w, hw, h24, h8 => by
  have e : Ud (w ++ []) = if w = [] then [] else [w] := by
   rw [List.append_nil, Ud, Uu hw]
   cases w <;> rfl
  rw [e, Hb]
  by_cases h : w = []
  ·rw [if_pos h, if_pos h]
   have e2 : decide (out.length + ([] : List (List UInt8)).length ≤ 8) = true := decide_eq_true (by simpa using h8)
   rw [e2, List.map_nil, List.append_nil]; rfl
  ·rw [if_neg h, if_neg h]
   by_cases h1 : out.length + 1 > 8
   ·rw [if_pos h1]
    have : decide (out.length + [w].length ≤ 8) = false := decide_eq_false (by simp only [List.length_cons, List.length_nil]; omega)
    rw [this]; rfl
   ·rw [if_neg h1]
    have : decide (out.length + [w].length ≤ 8) = true := decide_eq_true (by simp only [List.length_cons, List.length_nil]; omega)
    rw [this, List.all_cons, decide_eq_true h24]; rfl
 | b :: l, out, w, hw, h24, h8 => by
  rw [Hb, List.all_cons]
  cases hb : okB b with
  | false => rw [if_pos rfl]; rfl
  | true =>
   rw [if_neg (by simp), Bool.true_and]
   by_cases h32 : b = 32
   ·subst h32
    rw [if_pos rfl]
    have e : Ud (w ++ 32 :: l) = if w = [] then Ud l else w :: Ud l := by
     rw [Ud, Uz l hw, List.filter_cons]
     cases w <;> rfl
    rw [e]
    by_cases h : w = []
    ·rw [if_pos h, if_pos h, h, Gt l out [] (by simp) (by simp) h8, List.nil_append]
    ·rw [if_neg h, if_neg h]
     by_cases h1 : out.length + 1 > 8
     ·rw [if_pos h1]
      have : decide (out.length + (w :: Ud l).length ≤ 8) = false := decide_eq_false (by simp only [List.length_cons]; omega)
      rw [this, Bool.false_and, Bool.and_false]; rfl
     ·rw [if_neg h1, Gt l (out ++ [mkB w]) [] (by simp) (by simp) (by simp only [List.length_append, List.length_cons, List.length_nil]; omega), List.nil_append]
      have e1 : (out ++ [mkB w]).length + (Ud l).length = out.length + (w :: Ud l).length := by simp only [List.length_append, List.length_cons, List.length_nil]; omega
      rw [e1, List.all_cons, decide_eq_true h24, Bool.true_and, List.map_cons, List.append_assoc]
      rfl
   ·rw [if_neg h32]
    have hw' : (32 : UInt8) ∉ w ++ [b] := fun hm => by
     rcases List.mem_append.1 hm with h1 | h1
     ·exact hw h1
     ·exact h32 (List.mem_singleton.1 h1).symm
    have e2 : w ++ b :: l = (w ++ [b]) ++ l := by rw [List.append_assoc]; rfl
    by_cases h1 : w.length + 1 > 24
    ·rw [if_pos h1]
     obtain ⟨p, ps, e⟩ := Mb 32 l (w ++ [b]) hw'
     have e3 : (Ud (w ++ b :: l)).all (fun x => decide (x.length ≤ 24)) = false := by
      rw [e2, Ud, e, List.filter_cons]
      have hne : (!((w ++ [b]) ++ p).isEmpty) = true := by cases w <;> rfl
      rw [if_pos hne, List.all_cons, decide_eq_false (by simp only [List.length_append, List.length_cons, List.length_nil]; omega)]
      rfl
     rw [e3, Bool.and_false, Bool.and_false]; rfl
    ·rw [if_neg h1, Gt l out (w ++ [b]) hw' (by simp only [List.length_append, List.length_cons, List.length_nil]; omega) h8, e2]
theorem Ux {σ ρ : Type} {step : σ → Lp σ ρ} {s s' : σ} (m : Nat) (h : step s = .next s') : runL step (m + 1) s = runL step m s' := by
 rw [runL, h]
theorem Kd {σ ρ : Type} {step : σ → Lp σ ρ} {s s' : σ} (m : Nat) (h : step s = .done s') : runL step (m + 1) s = .done s' := by
 rw [runL, h]
theorem Zf {σ ρ : Type} {step : σ → Lp σ ρ} {s : σ} {r : ρ} (m : Nat) (h : step s = .ret r) : runL step (m + 1) s = .ret r := by
 rw [runL, h]
theorem Qlw {w : List UInt8} (hw : ¬ w = []) : decide ((w.length : Int) > 0) = true := by
 cases w with
 | nil => exact absurd rfl hw
 | cons a w => exact decide_eq_true (by simp only [List.length_cons]; omega)
theorem Qwf (line s : ByteArray) (hs : (cut3 line (⟨#[35]⟩ : ByteArray)).1 = s) (out : List ByteArray) (w : List UInt8) : Kl line (out, Kr w, (s.size : Int)) =
  if w = [] then .next (out, Kr [], (s.size : Int) + 1) else if out.length + 1 > 8 then .ret ([], false) else .next (out ++ [mkB w], Kr [], (s.size : Int) + 1) := by
 have h0 : decide ((s.size : Int) ≤ (s.size : Int)) = true := decide_eq_true (by omega)
 have h1 : decide ((s.size : Int) < (s.size : Int)) = false := decide_eq_false (by omega)
 simp only [Kl, hs, h0, h1, cond_true, cond_false, Lz, Ld, List.length_append, List.length_cons, List.length_nil]
 by_cases hw : w = []
 ·subst hw; rfl
 ·rw [Qlw hw, if_neg hw, cond_true]
  by_cases h8 : out.length + 1 > 8
  ·have : decide (((out.length + (0 + 1) : Nat) : Int) > 8) = true := decide_eq_true (by omega)
   rw [this, if_pos h8]; rfl
  ·have : decide (((out.length + (0 + 1) : Nat) : Int) > 8) = false := decide_eq_false (by omega)
   rw [this, if_neg h8]; rfl
theorem Qgr (line s : ByteArray) (hs : (cut3 line (⟨#[35]⟩ : ByteArray)).1 = s) (out : List ByteArray) (w : List Int) : Kl line (out, w, (s.size : Int) + 1) = .done (out, w, (s.size : Int) + 1) := by
 have h0 : decide ((s.size : Int) + 1 ≤ (s.size : Int)) = false := decide_eq_false (by omega)
 simp only [Kl, hs, h0, cond_false]
theorem Quw (line s : ByteArray) (hs : (cut3 line (⟨#[35]⟩ : ByteArray)).1 = s) (out : List ByteArray) (w : List UInt8) (i : Nat) (hi : i < s.size) (b : UInt8) (hb : s.data.toList.getD i 0 = b) : Kl line (out, Kr w, (i : Int)) =
  if okB b = false then .ret ([], false) else if b = 32 then (if w = [] then .next (out, Kr [], (i : Int) + 1) else if out.length + 1 > 8 then .ret ([], false) else .next (out ++ [mkB w], Kr [], (i : Int) + 1))
  else if w.length + 1 > 24 then .ret ([], false) else .next (out, Kr (w ++ [b]), (i : Int) + 1) := by
 have h0 : decide ((i : Int) ≤ (s.size : Int)) = true := decide_eq_true (by omega)
 have h1 : decide ((i : Int) < (s.size : Int)) = true := decide_eq_true (by omega)
 simp only [Kl, hs, h0, h1, cond_true, Int.toNat_natCast, Zm, hb]
 have hok : (bif decide ((b.toNat : Int) < 32) then true else decide ((b.toNat : Int) > 126)) = !okB b := by
  unfold okB
  by_cases h3 : (b.toNat : Int) < 32
  ·rw [decide_eq_true h3, cond_true, decide_eq_false (by omega)]; rfl
  ·rw [decide_eq_false h3, cond_false]
   by_cases h4 : (b.toNat : Int) > 126
   ·rw [decide_eq_true h4, decide_eq_false (by omega)]; rfl
   ·rw [decide_eq_false h4, decide_eq_true (by omega)]; rfl
 rw [hok]
 cases okB b with
 | false => rfl
 | true =>
  have h32 := Qkv b 32
  have h33 : ((32 : UInt8).toNat : Int) = 32 := rfl
  rw [h33] at h32
  have h34 : ((b.toNat : Int) != 32) = !decide (b = 32) := by rw [bne, h32]
  rw [h34]
  simp only [Bool.not_true, cond_false, Bool.true_eq_false, if_false]
  by_cases hc : b = 32
  ·rw [decide_eq_true hc, if_pos hc]
   simp only [Bool.not_true, cond_false, Lz, Ld, List.length_append, List.length_cons, List.length_nil]
   by_cases hw : w = []
   ·subst hw; rfl
   ·rw [Qlw hw, if_neg hw, cond_true]
    by_cases h8 : out.length + 1 > 8
    ·have : decide (((out.length + (0 + 1) : Nat) : Int) > 8) = true := decide_eq_true (by omega)
     rw [this, if_pos h8]; rfl
    ·have : decide (((out.length + (0 + 1) : Nat) : Int) > 8) = false := decide_eq_false (by omega)
     rw [this, if_neg h8]; rfl
  ·rw [decide_eq_false hc, if_neg hc]
   simp only [Bool.not_false, cond_true, Ld, List.length_append, List.length_cons, List.length_nil]
   by_cases h24 : w.length + 1 > 24
   ·have : decide (((w.length + (0 + 1) : Nat) : Int) > 24) = true := decide_eq_true (by omega)
    rw [this, if_pos h24]; rfl
   ·have : decide (((w.length + (0 + 1) : Nat) : Int) > 24) = false := decide_eq_false (by omega)
    rw [this, if_neg h24, cond_false]
    have e : Kr (w ++ [b]) = Kr w ++ [(b.toNat : Int)] := by simp [Kr]
    rw [e]
theorem Xr (line s : ByteArray) (hs : (cut3 line (⟨#[35]⟩ : ByteArray)).1 = s) : ∀ (m i : Nat) (out : List ByteArray) (w : List UInt8), i + m = s.size → ∀ fuel, m + 1 < fuel →
  (runL (Kl line) fuel (out, Kr w, (i : Int))).fin (fun r => r) (fun (out, word, i40) => (out, true)) = Hb (s.data.toList.drop i) out w
 | m, i, out, w, _, 0, hf => absurd hf (Nat.not_lt_zero _)
 | 0, i, out, w, h, fuel + 1, hf => by
  have hl : s.data.toList.length = s.size := Array.length_toList
  obtain rfl : i = s.size := by omega
  obtain ⟨fuel, rfl⟩ : ∃ f, fuel = f + 1 := ⟨fuel - 1, by omega⟩
  rw [List.drop_of_length_le (by omega), Hb]
  have h1 := Qwf line s hs out w
  by_cases hw : w = []
  ·rw [if_pos hw] at h1 ⊢
   rw [Ux _ h1, Kd _ (Qgr line s hs _ _)]; rfl
  ·rw [if_neg hw] at h1 ⊢
   by_cases h8 : out.length + 1 > 8
   ·rw [if_pos h8] at h1 ⊢
    rw [Zf _ h1]; rfl
   ·rw [if_neg h8] at h1 ⊢
    rw [Ux _ h1, Kd _ (Qgr line s hs _ _)]; rfl
 | m + 1, i, out, w, h, fuel + 1, hf => by
  have hl : s.data.toList.length = s.size := Array.length_toList
  have hb : s.data.toList.drop i = s.data.toList.getD i 0 :: s.data.toList.drop (i + 1) := by
   rw [List.drop_eq_getElem_cons (by omega), List.getD_eq_getElem?_getD, List.getElem?_eq_getElem (by omega)]; rfl
  rw [hb, Hb]
  have h1 := Quw line s hs out w i (by omega) _ rfl
  generalize s.data.toList.getD i 0 = b at h1 ⊢
  have ei : ((i : Int) + 1) = ((i + 1 : Nat) : Int) := rfl
  rw [ei] at h1
  by_cases hok : okB b = false
  ·rw [if_pos hok] at h1 ⊢
   rw [Zf _ h1]; rfl
  ·rw [if_neg hok] at h1 ⊢
   by_cases hc : b = 32
   ·rw [if_pos hc] at h1 ⊢
    by_cases hw : w = []
    ·rw [if_pos hw] at h1 ⊢
     rw [Ux _ h1, hw]
     exact Xr line s hs m (i + 1) out [] (by omega) fuel (by omega)
    ·rw [if_neg hw] at h1 ⊢
     by_cases h8 : out.length + 1 > 8
     ·rw [if_pos h8] at h1 ⊢
      rw [Zf _ h1]; rfl
     ·rw [if_neg h8] at h1 ⊢
      rw [Ux _ h1]
      exact Xr line s hs m (i + 1) (out ++ [mkB w]) [] (by omega) fuel (by omega)
   ·rw [if_neg hc] at h1 ⊢
    by_cases h24 : w.length + 1 > 24
    ·rw [if_pos h24] at h1 ⊢
     rw [Zf _ h1]; rfl
    ·rw [if_neg h24] at h1 ⊢
     rw [Ux _ h1]
     exact Xr line s hs m (i + 1) out (w ++ [b]) (by omega) fuel (by omega)
theorem Rm (line : ByteArray) : F24 line = Wk (cut3 line (⟨#[35]⟩ : ByteArray)).1.data.toList := by
 unfold F24
 have := Xr line _ rfl (cut3 line (⟨#[35]⟩ : ByteArray)).1.size 0 [] [] (by omega) (Int.toNat (((cut3 line (⟨#[35]⟩ : ByteArray)).1.size : Int) - 0 + 1) + 1) (by omega)
 rw [List.drop_zero, Gt _ _ _ (by simp) (by simp) (by simp), List.nil_append, List.nil_append, List.length_nil, Nat.zero_add] at this
 exact this
theorem Qch (b : UInt8) : IntKind.i64.wrap ((b.toNat : Int)) = (b.toNat : Int) := by
 have h := b.toNat_lt
 exact Zb (by omega) (by omega)
theorem Qbk (line s : ByteArray) (hs : (cut3 line (⟨#[35]⟩ : ByteArray)).1 = s) {τ : Type} (f : List ByteArray × Bool → τ) (g : Int → τ) (y : τ) (hg : ∀ i, g i = y) : ∀ (m i : Nat), i + m = s.size → ∀ fuel, m < fuel →
  (runL (Ja line) fuel (i : Int)).fin f g = bif (s.data.toList.drop i).all okB then y else f ([], false)
 | m, i, _, 0, hf => absurd hf (Nat.not_lt_zero _)
 | 0, i, h, fuel + 1, hf => by
  have hl : s.data.toList.length = s.size := Array.length_toList
  have h1 : decide ((i : Int) < (s.size : Int)) = false := decide_eq_false (by omega)
  have hst : Ja line (i : Int) = .done (i : Int) := by
   simp only [Ja, F64, hs, h1, cond_false]
  rw [List.drop_of_length_le (by omega), Kd _ hst]
  exact hg _
 | m + 1, i, h, fuel + 1, hf => by
  have hl : s.data.toList.length = s.size := Array.length_toList
  have h1 : decide ((i : Int) < (s.size : Int)) = true := decide_eq_true (by omega)
  have hb : s.data.toList.drop i = s.data.toList.getD i 0 :: s.data.toList.drop (i + 1) := by
   rw [List.drop_eq_getElem_cons (by omega), List.getD_eq_getElem?_getD, List.getElem?_eq_getElem (by omega)]; rfl
  have hst : Ja line (i : Int) = if okB (s.data.toList.getD i 0) = false then .ret ([], false) else .next ((i + 1 : Nat) : Int) := by
   simp only [Ja, F64, hs, h1, cond_true, Int.toNat_natCast, Zm, Qch]
   generalize s.data.toList.getD i 0 = b
   have e : decide ((32 : Int) ≤ (b.toNat : Int) ∧ (b.toNat : Int) ≤ 126) = okB b := by
    unfold okB
    congr 1
    exact propext ⟨fun h => by omega, fun h => by omega⟩
   rw [e]
   cases okB b <;> rfl
  rw [hb, List.all_cons]
  generalize s.data.toList.getD i 0 = b at hst ⊢
  by_cases hok : okB b = false
  ·rw [if_pos hok] at hst
   rw [Zf _ hst, hok]; rfl
  ·rw [if_neg hok] at hst
   rw [Ux _ hst, Qbk line s hs f g y hg m (i + 1) (by omega) fuel (by omega)]
   cases ho : okB b with
   | false => exact absurd ho hok
   | true => rw [Bool.true_and]
theorem isE (x : ByteArray) : (x.toList == (⟨#[]⟩ : ByteArray).toList) = x.data.toList.isEmpty := by
 rw [Ua, Ua]
 cases x.data.toList <;> rfl
theorem Qco (s : ByteArray) : (Qw s (⟨#[32]⟩ : ByteArray)).filter (fun x => !(x.toList == (⟨#[]⟩ : ByteArray).toList)) = (Ud s.data.toList).map mkB := by
 rw [Ud, ← Pa, List.filter_map, List.map_map]
 have e : (fun x : ByteArray => !(x.toList == (⟨#[]⟩ : ByteArray).toList)) = ((fun w : List UInt8 => !w.isEmpty) ∘ fun x : ByteArray => x.data.toList) := by
  funext x
  rw [isE]; rfl
 rw [e]
 exact ((List.map_congr_left fun x _ => Tf x).trans (List.map_id _)).symm
theorem Qgp : ∀ ws : List (List UInt8), ws.any ((fun x : ByteArray => decide ((x.size : Int) > 24)) ∘ mkB) = !ws.all fun w => decide (w.length ≤ 24)
 | [] => rfl
 | w :: ws => by
  rw [List.any_cons, List.all_cons, Qgp ws, Bool.not_and]
  congr 1
  have : (mkB w).size = w.length := rfl
  show decide (((mkB w).size : Int) > 24) = _
  rw [this]
  by_cases h : w.length ≤ 24
  ·rw [decide_eq_true h, decide_eq_false (by omega)]; rfl
  ·rw [decide_eq_false h, decide_eq_true (by omega)]; rfl
theorem Gb (line : ByteArray) : F70 line = Wk (cut3 line (⟨#[35]⟩ : ByteArray)).1.data.toList := by
 generalize hs : (cut3 line (⟨#[35]⟩ : ByteArray)).1 = s
 unfold F70
 have h1 := Qbk line s hs (fun r => r) (fun _ => bif (bif decide ((((Ud s.data.toList).map mkB).length : Int) > 8) then true else ((Ud s.data.toList).map mkB).any fun x => decide ((x.size : Int) > 24)) then (([] : List ByteArray), false) else ((Ud s.data.toList).map mkB, true)) _ (fun _ => rfl) s.size 0 (by omega) (Int.toNat ((s.size : Int) - 0) + 1) (by omega)
 have hf : (Qw s (⟨#[32]⟩ : ByteArray)).filter (fun x => !F83 x) = (Ud s.data.toList).map mkB := Qco s
 simp only [F64, F60, hs, hf]
 refine h1.trans ?_
 rw [List.drop_zero, Wk, fitW, List.length_map, List.any_map]
 have e1 : decide (((Ud s.data.toList).length : Int) > 8) = !decide ((Ud s.data.toList).length ≤ 8) := by
  by_cases h : (Ud s.data.toList).length ≤ 8
  ·rw [decide_eq_true h, decide_eq_false (by omega)]; rfl
  ·rw [decide_eq_false h, decide_eq_true (by omega)]; rfl
 rw [e1, Qgp]
 cases (s.data.toList.all okB) <;> cases decide ((Ud s.data.toList).length ≤ 8) <;> cases ((Ud s.data.toList).all fun w => decide (w.length ≤ 24)) <;> rfl
theorem Bm (line : ByteArray) : F70 line = F24 line := (Gb line).trans (Rm line).symm
theorem Qen (l : List UInt8) : (Wk l).1.length ≤ 8 := by
 unfold Wk fitW
 by_cases h : (Ud l).length ≤ 8
 ·cases l.all okB <;> cases ((Ud l).all fun w => decide (w.length ≤ 24)) <;> simp [h]
 ·rw [decide_eq_false h, Bool.false_and, Bool.and_false]
  exact Nat.zero_le _
theorem Qbq (line : ByteArray) : (F70 line).1.length ≤ 8 := by
 rw [Gb]; exact Qen _
def Zw (s : ByteArray) (at' : Int) : (List ByteArray × Int × Int) → Lp (List ByteArray × Int × Int) (List ByteArray) := fun (out1, from'1, i40) =>
 bif (decide (i40 < (s.size : Int))) then (bif (((s.data.getD (Int.toNat i40) 0).toNat : Int) == (at' % 256)) then (.next ((out1 ++ [(s.extract (Int.toNat from'1) (Int.toNat i40))]), (i40 + 1), (i40 + 1))) else (.next (out1, from'1, (i40 + 1)))) else (.done (out1, from'1, i40))
def Pd (s : ByteArray) (at' : Int) : Lp (List ByteArray × Int) (List ByteArray) :=
 (runL (Zw s at') ((Int.toNat ((s.size : Int) - 0)) + 1) (([] : List ByteArray), 0, 0)).fin Lp.ret (fun (out1, from'1, i40) => .done (out1, from'1))
def F54 (s : ByteArray) (at' : Int) : List ByteArray :=
 (Pd s at').fin (fun r => r) (fun (out, from') => (out ++ [(s.extract (Int.toNat from') (Int.toNat (s.size : Int)))]))
abbrev Pb (s : ByteArray) : Nat × (List ByteArray × Int × Int) := (((Int.toNat ((s.size : Int) - 0)) + 1), (([] : List ByteArray), 0, 0))
abbrev Qhf (s : ByteArray) (m39 : Nat) (out1 : List ByteArray) (from'1 : Int) (i40 : Int) : Prop := Int.toNat ((s.size : Int) - i40) < m39 ∧ (0 : Int) ≤ from'1 ∧ (from'1 : Int) ≤ i40 ∧ (out1.length : Int) ≤ i40 ∧ i40 ≤ (s.size : Int) ∧ (0 : Int) ≤ from'1 ∧ (0 : Int) ≤ i40
abbrev Qsw (s : ByteArray) (at' : Int) : Lp (List ByteArray × Int × Int) (List ByteArray) := LpX (Zw s at') (Pb s)
abbrev Rg (s : ByteArray) (at' : Int) (i : Nat × (List ByteArray × Int × Int)) : Prop := LpJ (Zw s at') (Pb s) i (Qhf s i.1 i.2.1 i.2.2.1 i.2.2.2)
abbrev Qro (s : ByteArray) (at' : Int) (i : Nat × (List ByteArray × Int × Int)) (m39 : Nat) (out1 : List ByteArray) (from'1 : Int) (i40 : Int) : Prop := LpH (Zw s at') (Pb s) i m39 (out1, from'1, i40) (Qhf s (m39 + 1) out1 from'1 i40)
abbrev Qsj (s : ByteArray) (at' : Int) (out1 : List ByteArray) (from'1 : Int) (i40 : Int) (out1_ : List ByteArray) (from'1_ : Int) (i40_ : Int) (K39 : Prop) : Prop := (Rf (.string s)) ∧ (Rf (.int .u8 (at' % 256))) ∧ ((.int .i64 from'1 : Value) = .int .i64 from'1_) ∧ ((.int .i64 i40 : Value) = .int .i64 i40_) ∧ (Imp (.l 1 eStr out1) (.l 1 eStr out1_)) ∧ K39
theorem un54_0 (s : ByteArray) (at' : Int) (i : Nat × (List ByteArray × Int × Int)) (h : Rg s at' i) : Qro s at' i (i.1 - 1) i.2.1 i.2.2.1 i.2.2.2 := ⟨hd1 h.1 h.2.1, hd3 h.2.1, hd2 h.2.1, h.2.2⟩
theorem Qrl (s : ByteArray) (at' : Int) (i : Nat × (List ByteArray × Int × Int)) (m39 : Nat) (out1 : List ByteArray) (from'1 : Int) (i40 : Int) (hl : m39 < i.1) (e : runL (Zw s at') m39 (out1, from'1, i40) = Qsw s at') (h : Qhf s m39 out1 from'1 i40) : ∃ j : Nat × (List ByteArray × Int × Int), Qsj s at' out1 from'1 i40 j.2.1 j.2.2.1 j.2.2.2 (Rg s at' j ∧ j.1 < i.1) := ⟨(m39, (out1, from'1, i40)), rfl, rfl, rfl, rfl, Imp.refl _, ⟨e, h⟩, hl⟩
theorem en54_0 (s : ByteArray) (at' : Int) (h : (0 : Int) ≤ 0 ∧ (0 : Int) ≤ 0 ∧ (([] : List ByteArray).length : Int) ≤ 0 ∧ 0 ≤ (s.size : Int) ∧ (0 : Int) ≤ 0 ∧ (0 : Int) ≤ 0) : Qsj s at' ([] : List ByteArray) 0 0 ([] : List ByteArray) 0 0 (Rg s at' (Pb s)) := ⟨rfl, rfl, rfl, rfl, Imp.refl _, rfl, Nat.lt_succ_self _, h⟩
abbrev Qgy (s : ByteArray) (at' : Int) (out : List ByteArray) (from' : Int) : Prop := (0 : Int) ≤ from' ∧ from' ≤ (s.size : Int) ∧ (out.length : Int) ≤ (s.size : Int)
abbrev Qkd (s : ByteArray) (at' : Int) (j : List ByteArray × Int) : Prop := (Pd s at') = Lp.done j ∧ Qgy s at' j.1 j.2
theorem jn54_0 (s : ByteArray) (at' : Int) (out : List ByteArray) (from' : Int) (e : (Pd s at') = Lp.done (out, from')) (h : Qgy s at' out from') : ∃ j : List ByteArray × Int, ((.string s : Value) = .string s) ∧ ((.int .i64 from' : Value) = .int .i64 j.2) ∧ (Imp (.l 1 eStr out) (.l 1 eStr j.1)) ∧ Qkd s at' j := ⟨(out, from'), rfl, rfl, Imp.refl _, e, h⟩
theorem fi54 (s : ByteArray) (at' : Int) (r : List ByteArray) (hF : r = (F54 s at')) : (Imp (.l 1 eStr r) (.l 1 eStr (F54 s at'))) ∧ True := by cases hF; exact ⟨Imp.refl _, trivial⟩
def S54 (s : ByteArray) (at' : Int) : Spec := ⟨[.r (.c (.v (.string s))), .r (.c (.v (.int .u8 (at' % 256))))], .ow (.l 1 eStr (F54 s at')), s.size ≤ 1048576⟩
theorem ok54 (s : ByteArray) (at' : Int) : (S54 s at').ok Tryz.prog 54 :=
 Ql mixed (fn := Tryz.f54) (ct := .seq .no (.seq (.reg [(0, .dat (.l 1 eStr ([] : List ByteArray)))]) (.seq .no (.cut (ι := List ByteArray × Int) (fun j => (fun (out : List ByteArray) (from' : Int) => (⟨[(0, some (.v (.string s))), (5, some (.h 0 0)), (6, some (.v (vI from')))], [(0, some (.own 0 (.l 1 eStr out)))], 1⟩ : St)) j.1 j.2) (Qkd s at') (.seqk [(5, 0)] .no (.blk (.loop (ι := Nat × (List ByteArray × Int × Int)) (fun i => (fun (out1 : List ByteArray) (from'1 : Int) (i40 : Int) => (⟨[(0, some (.v (.string s))), (1, some (.v (.int .u8 (at' % 256)))), (5, some (.h 0 0)), (6, some (.v (vI from'1))), (7, some (.v (vI i40)))], [(0, some (.own 0 (.l 1 eStr out1)))], 1⟩ : St)) i.2.1 i.2.2.1 i.2.2.2) (Rg s at') (fun i => i.1) (Pb s) (fun i => (fun (out1 : List ByteArray) (from'1 : Int) (i40 : Int) => (.seq (.seq .no (.cond .no .no)) (.seq (.blk (.seq .no (.cond (.seq (.reg [(6, .dat (.l 1 eStr (out1 ++ [(s.extract (Int.toNat from'1) (Int.toNat i40))])))]) (.reg [(1, .bnd)])) .no))) (.reg [(1, .bnd)])))) i.2.1 i.2.2.1 i.2.2.2)))) (fun j => (fun (out : List ByteArray) (from' : Int) => (.seq (.reg [(5, .dat (.l 1 eStr (out ++ [(s.extract (Int.toNat from') (Int.toNat (s.size : Int)))])))]) .no)) j.1 j.2))))) Tryz.func54 (fun (hpre0 : s.size ≤ 1048576) => ai (bokr 1 eStr ([] : List ByteArray) fun _ => rfl) (ai (kn ([] : List ByteArray) fun _ => ai (en54_0 s at' (by refine ⟨?_, ?_, ?_, ?_, ?_, ?_⟩ <;> first | omega | (simp only [lens, ib] at * <;> omega))) (fun (i0 : Nat × (List ByteArray × Int × Int)) (hi0 : Rg s at' i0) => (fun (m0 : Nat) (out1 : List ByteArray) (from'1 : Int) (i40 : Int) (hh0 : Qro s at' i0 m0 out1 from'1 i40) => have hI0 := hh0.1; have hl0 := hh0.2.1; have _ := hh0.2.2.1; have _ := hh0.2.2.2; ifd (i40 < (s.size : Int)) (fun h2 _ => ai (by first | omega | (simp only [lens, ib] at * <;> omega) : 0 ≤ i40 ∧ i40 < (s.size : Int)) (ife ((s.data.getD (Int.toNat i40) 0).toNat : Int) (at' % 256) (fun h3 _ => ai (by first | omega | (simp only [lens, ib] at * <;> omega) : 0 ≤ from'1 ∧ from'1 ≤ i40 ∧ i40 ≤ (s.size : Int)) (ai (appr 1 eStr out1 [(s.extract (Int.toNat from'1) (Int.toNat i40))] fun _ => rfl) (ai (by (try simp only [lens]); omega : (out1 ++ [(s.extract (Int.toNat from'1) (Int.toNat i40))]).length * 16 ≤ 140737488355328) (ai (iok (i40 + 1) (by first | omega | (simp only [lens, ib] at * <;> omega))) (ai (iok (i40 + 1) (by first | omega | (simp only [lens, ib] at * <;> omega))) (Qrl s at' i0 m0 (out1 ++ [(s.extract (Int.toNat from'1) (Int.toNat i40))]) (i40 + 1) (i40 + 1) hl0 (Qe hI0 (condT h2 (condT h3 rfl))) (by refine ⟨?_, ?_, ?_, ?_, ?_, ?_, ?_⟩ <;> first | omega | (simp only [lens, ib] at * <;> omega)))))))) (fun h3 _ => ai (iok (i40 + 1) (by first | omega | (simp only [lens, ib] at * <;> omega))) (Qrl s at' i0 m0 out1 from'1 (i40 + 1) hl0 (Qe hI0 (condT h2 (condF h3 rfl))) (by refine ⟨?_, ?_, ?_, ?_, ?_, ?_, ?_⟩ <;> first | omega | (simp only [lens, ib] at * <;> omega)))))) (fun h2 _ => have hD0_4 : Qsw s at' = Lp.done (out1, from'1, i40) := Qk hI0 (condF h2 rfl); jn54_0 s at' out1 from'1 (Eq.symm (finD hD0_4 rfl)) (by refine ⟨?_, ?_, ?_⟩ <;> first | omega | (simp only [lens, ib] at * <;> omega)))) (i0.1 - 1) i0.2.1 i0.2.2.1 i0.2.2.2 (un54_0 s at' i0 hi0))) (fun (j : List ByteArray × Int) (hj : Qkd s at' j) => (fun (out : List ByteArray) (from' : Int) (hJ0_5 : (Pd s at') = Lp.done (out, from')) (hw : Qgy s at' out from') => have _ := hw.1; have _ := hw.2.1; have _ := hw.2.2; ai (by first | omega | (simp only [lens, ib] at * <;> omega) : 0 ≤ from' ∧ from' ≤ (s.size : Int) ∧ (s.size : Int) ≤ (s.size : Int)) (ai (appr 1 eStr out [(s.extract (Int.toNat from') (Int.toNat (s.size : Int)))] fun _ => rfl) (ai (by (try simp only [lens]); omega : (out ++ [(s.extract (Int.toNat from') (Int.toNat (s.size : Int)))]).length * 16 ≤ 140737488355328) (fi54 s at' (out ++ [(s.extract (Int.toNat from') (Int.toNat (s.size : Int)))]) (finD hJ0_5 rfl))))) j.1 j.2 hj.1 hj.2))) (by kernel_rfl)
def F57 (n : Int) (low : Int) (high : Int) : Bool :=
 (bif decide (n ≥ low) then decide (n ≤ high) else false)
def S57 (R : Bool) (n : Int) (low : Int) (high : Int) : Spec := ⟨[.r (.c (.v (vI n))), .r (.c (.v (vI low))), .r (.c (.v (vI high)))], .v (.bool R), True⟩
theorem ok57 (n : Int) (low : Int) (high : Int) : (S57 (F57 n low high) n low high).ok Tryz.prog 57 :=
 Ql mixed (fn := Tryz.f57) (ct := .seq .no (.seq .no .no)) Tryz.func57 (fun (_ : True) => fiB (bif decide (n ≥ low) then decide (n ≤ high) else false) (F57 n low high) rfl) (by kernel_rfl)
theorem as57 (n : Int) (low : Int) (high : Int) : F57 n low high = (decide (low ≤ n ∧ n ≤ high)) := by
 simp only [F57, Bool.decide_and, bandd]
theorem oa57 (n : Int) (low : Int) (high : Int) : (S57 (decide (low ≤ n ∧ n ≤ high)) n low high).ok Tryz.prog 57 := by
 intro hp; have h := ok57 n low high hp; rw [as57 n low high] at h; exact h
theorem Qgo (n : Int) (low : Int) (high : Int) {K_ : Prop} (k_ : K_) : (True) ∧ (Imp (.v (vI n)) (.v (vI n))) ∧ (Imp (.v (vI low)) (.v (vI low))) ∧ (Imp (.v (vI high)) (.v (vI high))) ∧ K_ := ⟨trivial, Imp.refl _, Imp.refl _, Imp.refl _, k_⟩
abbrev Qbt (n : Int) (low : Int) (high : Int) : Hint true Tryz.prog := .call 57 (S57 (decide (low ≤ n ∧ n ≤ high)) n low high) (oa57 n low high) none
theorem kg57a {K_ : Prop} (c_ b_ : Bool) (n : Int) (low : Int) (high : Int) (k_ : K_) : (c_ = b_ → True) ∧ (c_ = b_ → Imp (.v (vI n)) (.v (vI n))) ∧ (c_ = b_ → Imp (.v (vI low)) (.v (vI low))) ∧ (c_ = b_ → Imp (.v (vI high)) (.v (vI high))) ∧ K_ := ⟨fun _ => trivial, fun _ => Imp.refl _, fun _ => Imp.refl _, fun _ => Imp.refl _, k_⟩
def Wx (s : ByteArray) : Int → Lp Int Bool := fun i40 =>
 bif (decide (i40 < (s.size : Int))) then (bif (bif (bif (!(decide (97 ≤ (IntKind.i64.wrap ((s.data.getD (Int.toNat i40) 0).toNat : Int)) ∧ (IntKind.i64.wrap ((s.data.getD (Int.toNat i40) 0).toNat : Int)) ≤ 122))) then (!(decide (48 ≤ (IntKind.i64.wrap ((s.data.getD (Int.toNat i40) 0).toNat : Int)) ∧ (IntKind.i64.wrap ((s.data.getD (Int.toNat i40) 0).toNat : Int)) ≤ 57))) else false) then (((s.data.getD (Int.toNat i40) 0).toNat : Int) != 45) else false) then (.ret false) else (.next (i40 + 1))) else (.done i40)
def F124 (s : ByteArray) : Bool :=
 bif (!(decide (1 ≤ (s.size : Int) ∧ (s.size : Int) ≤ 8))) then false else ((runL (Wx s) ((Int.toNat ((s.size : Int) - 0)) + 1) 0).fin (fun r => r) (fun i40 => true))
abbrev Gv (s : ByteArray) : Nat × Int := (((Int.toNat ((s.size : Int) - 0)) + 1), 0)
abbrev Qdm (s : ByteArray) (m39 : Nat) (i40 : Int) : Prop := Int.toNat ((s.size : Int) - i40) < m39 ∧ (0 : Int) ≤ i40
abbrev Qlq (s : ByteArray) : Lp Int Bool := LpX (Wx s) (Gv s)
abbrev Gz (s : ByteArray) (i : Nat × Int) : Prop := LpJ (Wx s) (Gv s) i (Qdm s i.1 i.2)
abbrev Qlg (s : ByteArray) (i : Nat × Int) (m39 : Nat) (i40 : Int) : Prop := LpH (Wx s) (Gv s) i m39 i40 (Qdm s (m39 + 1) i40)
abbrev Qmt (s : ByteArray) (i40 : Int) (i40_ : Int) (K39 : Prop) : Prop := (Rf (.string s)) ∧ ((.int .i64 i40 : Value) = .int .i64 i40_) ∧ K39
theorem Qxo (s : ByteArray) (i : Nat × Int) (h : Gz s i) : Qlg s i (i.1 - 1) i.2 := ⟨hd1 h.1 h.2.1, hd3 h.2.1, hd2 h.2.1, h.2.2⟩
theorem Qxa (s : ByteArray) (i : Nat × Int) (m39 : Nat) (i40 : Int) (hl : m39 < i.1) (e : runL (Wx s) m39 i40 = Qlq s) (h : Qdm s m39 i40) : ∃ j : Nat × Int, Qmt s i40 j.2 (Gz s j ∧ j.1 < i.1) := ⟨(m39, i40), rfl, rfl, ⟨e, h⟩, hl⟩
theorem Qxw (s : ByteArray) (h : (0 : Int) ≤ 0) : Qmt s 0 0 (Gz s (Gv s)) := ⟨rfl, rfl, rfl, Nat.lt_succ_self _, h⟩
def S124 (s : ByteArray) : Spec := ⟨[.r (.c (.v (.string s)))], .v (.bool (F124 s)), s.size ≤ 1048576⟩
theorem ok124 (s : ByteArray) : (S124 s).ok Tryz.prog 124 :=
 Ql mixed (fn := Tryz.f124) (ct := .seq .no (.seq (.seq (.reg [(2, Qbt (s.size : Int) 1 8)]) (.cond (.seq .no .no) .no)) (.seq (.seq .no (.blk (.loop (ι := Nat × Int) (fun i => (fun (i40 : Int) => (⟨[(0, some (.v (.string s))), (3, some (.v (vI i40)))], [], 0⟩ : St)) i.2) (Gz s) (fun i => i.1) (Gv s) (fun i => (fun (i40 : Int) => (.seq (.seq .no (.cond .no .no)) (.seq (.blk (.seq (.reg [(4, Qbt (IntKind.i64.wrap ((s.data.getD (Int.toNat i40) 0).toNat : Int)) 97 122), (11, Qbt (IntKind.i64.wrap ((s.data.getD (Int.toNat i40) 0).toNat : Int)) 48 57)]) (.cond (.seq .no .no) .no))) (.reg [(1, .bnd)])))) i.2)))) (.seq .no .no)))) Tryz.func124 (fun (hpre0 : s.size ≤ 1048576) => Qgo (s.size : Int) 1 8 (ifb (!(decide (1 ≤ (s.size : Int) ∧ (s.size : Int) ≤ 8))) (fun h1 => have _ := of_decide_eq_false (Wv h1); fiB false (F124 s) (condT h1 rfl)) (fun h1 => have _ := of_decide_eq_true (Ym h1); ai (Qxw s (by omega)) (fun (i0 : Nat × Int) (hi0 : Gz s i0) => (fun (m0 : Nat) (i40 : Int) (hh0 : Qlg s i0 m0 i40) => have hI0 := hh0.1; have hl0 := hh0.2.1; have _ := hh0.2.2.1; have _ := hh0.2.2.2; ifd (i40 < (s.size : Int)) (fun h3 _ => ai (by omega : 0 ≤ i40 ∧ i40 < (s.size : Int)) (Qgo (IntKind.i64.wrap ((s.data.getD (Int.toNat i40) 0).toNat : Int)) 97 122 (ai (fun k4 : (!(decide (97 ≤ (IntKind.i64.wrap ((s.data.getD (Int.toNat i40) 0).toNat : Int)) ∧ (IntKind.i64.wrap ((s.data.getD (Int.toNat i40) 0).toNat : Int)) ≤ 122))) = true => have _ := of_decide_eq_false (Wv k4); (by omega : 0 ≤ i40 ∧ i40 < (s.size : Int))) (kg57a (!(decide (97 ≤ (IntKind.i64.wrap ((s.data.getD (Int.toNat i40) 0).toNat : Int)) ∧ (IntKind.i64.wrap ((s.data.getD (Int.toNat i40) 0).toNat : Int)) ≤ 122))) true (IntKind.i64.wrap ((s.data.getD (Int.toNat i40) 0).toNat : Int)) 48 57 (ai (fun k6 : (bif (!(decide (97 ≤ (IntKind.i64.wrap ((s.data.getD (Int.toNat i40) 0).toNat : Int)) ∧ (IntKind.i64.wrap ((s.data.getD (Int.toNat i40) 0).toNat : Int)) ≤ 122))) then (!(decide (48 ≤ (IntKind.i64.wrap ((s.data.getD (Int.toNat i40) 0).toNat : Int)) ∧ (IntKind.i64.wrap ((s.data.getD (Int.toNat i40) 0).toNat : Int)) ≤ 57))) else false) = true => have _ := of_decide_eq_false (Wv (Qh k6)); have _ := of_decide_eq_false (Wv (Qv k6)); (by omega : 0 ≤ i40 ∧ i40 < (s.size : Int))) (ifb (bif (bif (!(decide (97 ≤ (IntKind.i64.wrap ((s.data.getD (Int.toNat i40) 0).toNat : Int)) ∧ (IntKind.i64.wrap ((s.data.getD (Int.toNat i40) 0).toNat : Int)) ≤ 122))) then (!(decide (48 ≤ (IntKind.i64.wrap ((s.data.getD (Int.toNat i40) 0).toNat : Int)) ∧ (IntKind.i64.wrap ((s.data.getD (Int.toNat i40) 0).toNat : Int)) ≤ 57))) else false) then (((s.data.getD (Int.toNat i40) 0).toNat : Int) != 45) else false) (fun h7 => have _ := of_decide_eq_false (Wv (Qh (Qh h7))); have _ := of_decide_eq_false (Wv (Qv (Qh h7))); have _ := bneT (Qv h7); fiB false (F124 s) (condF h1 (finR (Qt hI0 (condT h3 (condT h7 rfl))) rfl))) (fun h7 => ai (iok (i40 + 1) (by omega)) (Qxa s i0 m0 (i40 + 1) hl0 (Qe hI0 (condT h3 (condF h7 rfl))) (by refine ⟨?_, ?_⟩ <;> omega))))))))) (fun h3 _ => have hD0_8 : Qlq s = Lp.done i40 := Qk hI0 (condF h3 rfl); fiB true (F124 s) (condF h1 (finD hD0_8 rfl)))) (i0.1 - 1) i0.2 (Qxo s i0 hi0))))) (by kernel_rfl)
def Wy (s : ByteArray) : (Int × Int) → Lp (Int × Int) Int := fun (n, i40) =>
 bif (decide (i40 < (s.size : Int))) then (bif (!(decide (48 ≤ (IntKind.i64.wrap ((s.data.getD (Int.toNat i40) 0).toNat : Int)) ∧ (IntKind.i64.wrap ((s.data.getD (Int.toNat i40) 0).toNat : Int)) ≤ 57))) then (.ret (-1)) else (.next ((IntKind.i64.wrap ((IntKind.i64.wrap (n * 10)) + (IntKind.i64.wrap (IntKind.u8.wrap (((s.data.getD (Int.toNat i40) 0).toNat : Int) - 48))))), (i40 + 1)))) else (.done (n, i40))
def F32 (s : ByteArray) : Int :=
 bif (bif (!(decide (1 ≤ (s.size : Int) ∧ (s.size : Int) ≤ 6))) then true else (bif decide ((s.size : Int) > 1) then (((s.data.getD (Int.toNat 0) 0).toNat : Int) == 48) else false)) then (-1) else ((runL (Wy s) ((Int.toNat ((s.size : Int) - 0)) + 1) (0, 0)).fin (fun r => r) (fun (n, i40) => n))
abbrev Ti (s : ByteArray) : Nat × (Int × Int) := (((Int.toNat ((s.size : Int) - 0)) + 1), (0, 0))
abbrev Qhn (s : ByteArray) (m39 : Nat) (n : Int) (i40 : Int) : Prop := Int.toNat ((s.size : Int) - i40) < m39 ∧ (0 : Int) ≤ i40
abbrev Qqd (s : ByteArray) : Lp (Int × Int) Int := LpX (Wy s) (Ti s)
abbrev Eh (s : ByteArray) (i : Nat × (Int × Int)) : Prop := LpJ (Wy s) (Ti s) i (Qhn s i.1 i.2.1 i.2.2)
abbrev Qtj (s : ByteArray) (i : Nat × (Int × Int)) (m39 : Nat) (n : Int) (i40 : Int) : Prop := LpH (Wy s) (Ti s) i m39 (n, i40) (Qhn s (m39 + 1) n i40)
abbrev Qpq (s : ByteArray) (n : Int) (i40 : Int) (n_ : Int) (i40_ : Int) (K39 : Prop) : Prop := (Rf (.string s)) ∧ ((.int .i64 n : Value) = .int .i64 n_) ∧ ((.int .i64 i40 : Value) = .int .i64 i40_) ∧ K39
theorem un32_0 (s : ByteArray) (i : Nat × (Int × Int)) (h : Eh s i) : Qtj s i (i.1 - 1) i.2.1 i.2.2 := ⟨hd1 h.1 h.2.1, hd3 h.2.1, hd2 h.2.1, h.2.2⟩
theorem bk32_0 (s : ByteArray) (i : Nat × (Int × Int)) (m39 : Nat) (n : Int) (i40 : Int) (hl : m39 < i.1) (e : runL (Wy s) m39 (n, i40) = Qqd s) (h : Qhn s m39 n i40) : ∃ j : Nat × (Int × Int), Qpq s n i40 j.2.1 j.2.2 (Eh s j ∧ j.1 < i.1) := ⟨(m39, (n, i40)), rfl, rfl, rfl, ⟨e, h⟩, hl⟩
theorem en32_0 (s : ByteArray) (h : (0 : Int) ≤ 0) : Qpq s 0 0 0 0 (Eh s (Ti s)) := ⟨rfl, rfl, rfl, rfl, Nat.lt_succ_self _, h⟩
def S32 (s : ByteArray) : Spec := ⟨[.r (.c (.v (.string s)))], .v (vI (F32 s)), s.size ≤ 1048576⟩
theorem ok32 (s : ByteArray) : (S32 s).ok Tryz.prog 32 :=
 Ql mixed (fn := Tryz.f32) (ct := .seq .no (.seq (.seq (.reg [(2, Qbt (s.size : Int) 1 6)]) (.cond (.seq .no .no) .no)) (.seq .no (.seq (.seq .no (.blk (.loop (ι := Nat × (Int × Int)) (fun i => (fun (n : Int) (i40 : Int) => (⟨[(0, some (.v (.string s))), (3, some (.v (vI n))), (4, some (.v (vI i40)))], [], 0⟩ : St)) i.2.1 i.2.2) (Eh s) (fun i => i.1) (Ti s) (fun i => (fun (n : Int) (i40 : Int) => (.seq (.seq .no (.cond .no .no)) (.seq (.blk (.seq (.seq (.reg [(4, Qbt (IntKind.i64.wrap ((s.data.getD (Int.toNat i40) 0).toNat : Int)) 48 57)]) (.cond (.seq .no .no) .no)) .no)) (.reg [(1, .bnd)])))) i.2.1 i.2.2)))) (.seq .no .no))))) Tryz.func32 (fun (hpre0 : s.size ≤ 1048576) => Qgo (s.size : Int) 1 6 (ai (fun k2 : (decide ((s.size : Int) > 1)) = true => have _ := of_decide_eq_true k2; (fun k1 : (!(decide (1 ≤ (s.size : Int) ∧ (s.size : Int) ≤ 6))) = false => have _ := of_decide_eq_true (Ym k1); (by omega : 0 ≤ (0 : Int) ∧ (0 : Int) < (s.size : Int)))) (ifb (bif (!(decide (1 ≤ (s.size : Int) ∧ (s.size : Int) ≤ 6))) then true else (bif decide ((s.size : Int) > 1) then (((s.data.getD (Int.toNat 0) 0).toNat : Int) == 48) else false)) (fun h3 => fiI (-1) (F32 s) (condT h3 rfl)) (fun h3 => have _ := of_decide_eq_true (Ym (orF1 h3)); ai (en32_0 s (by omega)) (fun (i0 : Nat × (Int × Int)) (hi0 : Eh s i0) => (fun (m0 : Nat) (n : Int) (i40 : Int) (hh0 : Qtj s i0 m0 n i40) => have hI0 := hh0.1; have hl0 := hh0.2.1; have _ := hh0.2.2.1; have _ := hh0.2.2.2; ifd (i40 < (s.size : Int)) (fun h5 _ => ai (by omega : 0 ≤ i40 ∧ i40 < (s.size : Int)) (Qgo (IntKind.i64.wrap ((s.data.getD (Int.toNat i40) 0).toNat : Int)) 48 57 (ifb (!(decide (48 ≤ (IntKind.i64.wrap ((s.data.getD (Int.toNat i40) 0).toNat : Int)) ∧ (IntKind.i64.wrap ((s.data.getD (Int.toNat i40) 0).toNat : Int)) ≤ 57))) (fun h6 => have _ := of_decide_eq_false (Wv h6); fiI (-1) (F32 s) (condF h3 (finR (Qt hI0 (condT h5 (condT h6 rfl))) rfl))) (fun h6 => have _ := of_decide_eq_true (Ym h6); ai (by omega : 0 ≤ i40 ∧ i40 < (s.size : Int)) (ai (iok (i40 + 1) (by omega)) (bk32_0 s i0 m0 (IntKind.i64.wrap ((IntKind.i64.wrap (n * 10)) + (IntKind.i64.wrap (IntKind.u8.wrap (((s.data.getD (Int.toNat i40) 0).toNat : Int) - 48))))) (i40 + 1) hl0 (Qe hI0 (condT h5 (condF h6 rfl))) (by refine ⟨?_, ?_⟩ <;> omega))))))) (fun h5 _ => have hD0_7 : Qqd s = Lp.done (n, i40) := Qk hI0 (condF h5 rfl); fiI n (F32 s) (condF h3 (finD hD0_7 rfl)))) (i0.1 - 1) i0.2.1 i0.2.2 (un32_0 s i0 hi0)))))) (by kernel_rfl)
def Nl (n : Int) : (Int × Int) → Lp (Int × Int) Int := fun (out, i40) =>
 bif (decide (i40 < 16)) then (.next ((IntKind.i64.wrap (out * 2)), (i40 + 1))) else (.done (out, i40))
def F56 (n : Int) : Int :=
 (runL (Nl n) ((Int.toNat (16 - n)) + 1) (1, n)).fin (fun r => r) (fun (out, i40) => out)
abbrev Eo (n : Int) : Nat × (Int × Int) := (((Int.toNat (16 - n)) + 1), (1, n))
abbrev Qka (m39 : Nat) (out : Int) (i40 : Int) : Prop := Int.toNat (16 - i40) < m39 ∧ (0 : Int) ≤ i40
abbrev Qwa (n : Int) : Lp (Int × Int) Int := LpX (Nl n) (Eo n)
abbrev Pc (n : Int) (i : Nat × (Int × Int)) : Prop := LpJ (Nl n) (Eo n) i (Qka i.1 i.2.1 i.2.2)
abbrev Qsk (n : Int) (i : Nat × (Int × Int)) (m39 : Nat) (out : Int) (i40 : Int) : Prop := LpH (Nl n) (Eo n) i m39 (out, i40) (Qka (m39 + 1) out i40)
abbrev Quu (out : Int) (i40 : Int) (out_ : Int) (i40_ : Int) (K39 : Prop) : Prop := ((.int .i64 out : Value) = .int .i64 out_) ∧ ((.int .i64 i40 : Value) = .int .i64 i40_) ∧ K39
theorem un56_0 (n : Int) (i : Nat × (Int × Int)) (h : Pc n i) : Qsk n i (i.1 - 1) i.2.1 i.2.2 := ⟨hd1 h.1 h.2.1, hd3 h.2.1, hd2 h.2.1, h.2.2⟩
theorem bk56_0 (n : Int) (i : Nat × (Int × Int)) (m39 : Nat) (out : Int) (i40 : Int) (hl : m39 < i.1) (e : runL (Nl n) m39 (out, i40) = Qwa n) (h : Qka m39 out i40) : ∃ j : Nat × (Int × Int), Quu out i40 j.2.1 j.2.2 (Pc n j ∧ j.1 < i.1) := ⟨(m39, (out, i40)), rfl, rfl, ⟨e, h⟩, hl⟩
theorem en56_0 (n : Int) (h : (0 : Int) ≤ n) : Quu 1 n 1 n (Pc n (Eo n)) := ⟨rfl, rfl, rfl, Nat.lt_succ_self _, h⟩
def S56 (n : Int) : Spec := ⟨[.r (.c (.v (vI n)))], .v (vI (F56 n)), 0 ≤ n⟩
theorem ok56 (n : Int) : (S56 n).ok Tryz.prog 56 :=
 Ql mixed (fn := Tryz.f56) (ct := .seq .no (.seq .no (.seq (.seq .no (.blk (.loop (ι := Nat × (Int × Int)) (fun i => (fun (out : Int) (i40 : Int) => (⟨[(3, some (.v (vI out))), (4, some (.v (vI i40)))], [], 0⟩ : St)) i.2.1 i.2.2) (Pc n) (fun i => i.1) (Eo n) (fun i => (fun (out : Int) (i40 : Int) => (.seq (.seq .no (.cond .no .no)) (.seq (.blk .no) (.reg [(1, .bnd)])))) i.2.1 i.2.2)))) (.seq .no .no)))) Tryz.func56 (fun (hpre0 : 0 ≤ n) => ai (en56_0 n (by omega)) (fun (i0 : Nat × (Int × Int)) (hi0 : Pc n i0) => (fun (m0 : Nat) (out : Int) (i40 : Int) (hh0 : Qsk n i0 m0 out i40) => have hI0 := hh0.1; have hl0 := hh0.2.1; have _ := hh0.2.2.1; have _ := hh0.2.2.2; ifd (i40 < 16) (fun h2 _ => ai (iok (i40 + 1) (by omega)) (bk56_0 n i0 m0 (IntKind.i64.wrap (out * 2)) (i40 + 1) hl0 (Qe hI0 (condT h2 rfl)) (by refine ⟨?_, ?_⟩ <;> omega))) (fun h2 _ => have hD0_3 : Qwa n = Lp.done (out, i40) := Qk hI0 (condF h2 rfl); fiI out (F56 n) (finD hD0_3 rfl))) (i0.1 - 1) i0.2.1 i0.2.2 (un56_0 n i0 hi0))) (by kernel_rfl)
theorem Qkr (n : Int) : 0 ≤ n → n ≤ 16 → 1 ≤ (F56 n) ∧ (F56 n) ≤ 65536 := by
 intro h1 h2; have h3 : n = 0 ∨ n = 1 ∨ n = 2 ∨ n = 3 ∨ n = 4 ∨ n = 5 ∨ n = 6 ∨ n = 7 ∨ n = 8 ∨ n = 9 ∨ n = 10 ∨ n = 11 ∨ n = 12 ∨ n = 13 ∨ n = 14 ∨ n = 15 ∨ n = 16 := by omega
 rcases h3 with rfl | rfl | rfl | rfl | rfl | rfl | rfl | rfl | rfl | rfl | rfl | rfl | rfl | rfl | rfl | rfl | rfl <;> exact of_decide_eq_true rfl
def Vf (list : List ByteArray) (s : ByteArray) : Int → Lp Int Bool := fun i40 =>
 bif (decide (i40 < (list.length : Int))) then (bif ((list.getD (Int.toNat i40) default).toList == s.toList) then (.ret true) else (.next (i40 + 1))) else (.done i40)
def F23 (list : List ByteArray) (s : ByteArray) : Bool :=
 (runL (Vf list s) ((Int.toNat ((list.length : Int) - 0)) + 1) 0).fin (fun r => r) (fun i40 => false)
abbrev Rz (list : List ByteArray) : Nat × Int := (((Int.toNat ((list.length : Int) - 0)) + 1), 0)
abbrev Qje (list : List ByteArray) (m39 : Nat) (i40 : Int) : Prop := Int.toNat ((list.length : Int) - i40) < m39 ∧ (0 : Int) ≤ i40
abbrev Qpk (list : List ByteArray) (s : ByteArray) : Lp Int Bool := LpX (Vf list s) (Rz list)
abbrev Tj (list : List ByteArray) (s : ByteArray) (i : Nat × Int) : Prop := LpJ (Vf list s) (Rz list) i (Qje list i.1 i.2)
abbrev Qrd (list : List ByteArray) (s : ByteArray) (i : Nat × Int) (m39 : Nat) (i40 : Int) : Prop := LpH (Vf list s) (Rz list) i m39 i40 (Qje list (m39 + 1) i40)
abbrev Qqk (list : List ByteArray) (s : ByteArray) (i40 : Int) (i40_ : Int) (K39 : Prop) : Prop := (Rf (.string s)) ∧ ((.int .i64 i40 : Value) = .int .i64 i40_) ∧ (Im (.l 1 eStr list)) ∧ K39
theorem un23_0 (list : List ByteArray) (s : ByteArray) (i : Nat × Int) (h : Tj list s i) : Qrd list s i (i.1 - 1) i.2 := ⟨hd1 h.1 h.2.1, hd3 h.2.1, hd2 h.2.1, h.2.2⟩
theorem bk23_0 (list : List ByteArray) (s : ByteArray) (i : Nat × Int) (m39 : Nat) (i40 : Int) (hl : m39 < i.1) (e : runL (Vf list s) m39 i40 = Qpk list s) (h : Qje list m39 i40) : ∃ j : Nat × Int, Qqk list s i40 j.2 (Tj list s j ∧ j.1 < i.1) := ⟨(m39, i40), rfl, rfl, Imp.refl _, ⟨e, h⟩, hl⟩
theorem en23_0 (list : List ByteArray) (s : ByteArray) (h : (0 : Int) ≤ 0) : Qqk list s 0 0 (Tj list s (Rz list)) := ⟨rfl, rfl, Imp.refl _, rfl, Nat.lt_succ_self _, h⟩
def S23 (list : List ByteArray) (s : ByteArray) : Spec := ⟨[.r (.c (.l 1 eStr list)), .r (.c (.v (.string s)))], .v (.bool (F23 list s)), True⟩
theorem ok23 (list : List ByteArray) (s : ByteArray) : (S23 list s).ok Tryz.prog 23 :=
 Ql mixed (fn := Tryz.f23) (ct := .seqk [(0, 0)] .no (.seq (.seqk [(0, 0)] .no (.blk (.loop (ι := Nat × Int) (fun i => (fun (i40 : Int) => (⟨[(0, some (.h 0 0)), (1, some (.v (.string s))), (5, some (.v (vI i40)))], [(0, some (.shr none (.l 1 eStr list)))], 1⟩ : St)) i.2) (Tj list s) (fun i => i.1) (Rz list) (fun i => (fun (i40 : Int) => (.seq (.seq .no (.cond .no .no)) (.seq (.blk (.seq .no (.cond (.seq .no .no) .no))) (.reg [(1, .bnd)])))) i.2)))) (.seq .no .no))) Tryz.func23 (fun (_ : True) => kn list fun _ => kn list fun _ => ai (en23_0 list s (by omega)) (fun (i0 : Nat × Int) (hi0 : Tj list s i0) => (fun (m0 : Nat) (i40 : Int) (hh0 : Qrd list s i0 m0 i40) => have hI0 := hh0.1; have hl0 := hh0.2.1; have _ := hh0.2.2.1; have _ := hh0.2.2.2; ifd (i40 < (list.length : Int)) (fun h2 _ => ai (by omega : ib i40 list) (ifb ((list.getD (Int.toNat i40) default).toList == s.toList) (fun h3 => fiB true (F23 list s) (finR (Qt hI0 (condT h2 (condT h3 rfl))) rfl)) (fun h3 => ai (iok (i40 + 1) (by omega)) (bk23_0 list s i0 m0 (i40 + 1) hl0 (Qe hI0 (condT h2 (condF h3 rfl))) (by refine ⟨?_, ?_⟩ <;> omega))))) (fun h2 _ => have hD0_4 : Qpk list s = Lp.done i40 := Qk hI0 (condF h2 rfl); fiB false (F23 list s) (finD hD0_4 rfl))) (i0.1 - 1) i0.2 (un23_0 list s i0 hi0))) (by kernel_rfl)
def F138 : List ByteArray :=
 ([(⟨#[100, 111, 111, 114]⟩ : ByteArray), (⟨#[104, 111, 115, 116]⟩ : ByteArray), (⟨#[110, 97, 116]⟩ : ByteArray), (⟨#[112, 101, 101, 114]⟩ : ByteArray), (⟨#[112, 111, 114, 116]⟩ : ByteArray), (⟨#[114, 111, 117, 116, 101]⟩ : ByteArray), (⟨#[114, 117, 108, 101]⟩ : ByteArray), (⟨#[117, 115, 101, 114]⟩ : ByteArray)] : List ByteArray)
theorem fi138 (r : List ByteArray) (hF : r = F138) : (Imp (.l 1 eStr r) (.l 1 eStr F138)) ∧ True := by cases hF; exact ⟨Imp.refl _, trivial⟩
def S138 : Spec := ⟨[], .ow (.l 1 eStr F138), True⟩
theorem ok138 : (S138).ok Tryz.prog 138 :=
 Ql mixed (fn := Tryz.f138) (ct := .seq .no (.seq (.reg [(0, .dat (.l 1 eStr ([w3_, w4_, w5_, w6_, w7_, w8_, w9_, w10_] : List ByteArray)))]) .no)) Tryz.func138 (fun (_ : True) => ai (bokr 1 eStr ([w3_, w4_, w5_, w6_, w7_, w8_, w9_, w10_] : List ByteArray) fun _ => rfl) (fi138 ([w3_, w4_, w5_, w6_, w7_, w8_, w9_, w10_] : List ByteArray) rfl)) (by kernel_rfl)
theorem Qml (s : ByteArray) (a b : Nat) : mkB ((s.data.toList.drop a).take (b - a)) = s.extract a b := by
 refine Jk ?_
 rw [Ny, ByteArray.data_extract, Array.toList_extract, List.extract_eq_take_drop]
theorem Qqs (s : ByteArray) (c : UInt8) (out : List ByteArray) (f : Int) : Zw s (c.toNat : Int) (out, f, (s.size : Int)) = .done (out, f, (s.size : Int)) := by
 simp only [Zw, decide_eq_false (show ¬ (s.size : Int) < (s.size : Int) by omega), cond_false]
theorem Qol (s : ByteArray) (c : UInt8) (out : List ByteArray) (f i : Nat) (hi : i < s.size) (b : UInt8) (hb : s.data.toList.getD i 0 = b) : Zw s (c.toNat : Int) (out, (f : Int), (i : Int)) =
  if b = c then .next (out ++ [s.extract f i], ((i + 1 : Nat) : Int), ((i + 1 : Nat) : Int)) else .next (out, (f : Int), ((i + 1 : Nat) : Int)) := by
 have hc : ((c.toNat : Int) % 256) = (c.toNat : Int) := by have := c.toNat_lt; omega
 simp only [Zw, decide_eq_true (show (i : Int) < (s.size : Int) by omega), cond_true, Int.toNat_natCast, Zm, hb, hc, Qkv]
 by_cases h : b = c
 ·rw [decide_eq_true h, if_pos h]; rfl
 ·rw [decide_eq_false h, if_neg h]; rfl
theorem Lj (s : ByteArray) (c : UInt8) : ∀ (m i f : Nat) (out : List ByteArray), i + m = s.size → f ≤ i → c ∉ (s.data.toList.drop f).take (i - f) → ∀ fuel, m < fuel →
  ((runL (Zw s (c.toNat : Int)) fuel (out, (f : Int), (i : Int))).fin Lp.ret (fun (out1, from'1, i40) => .done (out1, from'1))).fin (fun r => r) (fun (out, from') => out ++ [s.extract (Int.toNat from') (Int.toNat (s.size : Int))]) = out ++ (Qx c (s.data.toList.drop f)).map mkB
 | m, i, f, out, _, _, _, 0, hf => absurd hf (Nat.not_lt_zero _)
 | 0, i, f, out, h, hfi, hc, fuel + 1, hf => by
  have hl : s.data.toList.length = s.size := Array.length_toList
  obtain rfl : i = s.size := by omega
  rw [Kd _ (Qqs s c out f)]
  have e : (s.data.toList.drop f).take (s.size - f) = s.data.toList.drop f := List.take_of_length_le (by rw [List.length_drop]; omega)
  rw [e] at hc
  rw [Uu hc, List.map_cons, List.map_nil, ← e, Qml]
  rfl
 | m + 1, i, f, out, h, hfi, hc, fuel + 1, hf => by
  have hl : s.data.toList.length = s.size := Array.length_toList
  have hb : s.data.toList.drop i = s.data.toList.getD i 0 :: s.data.toList.drop (i + 1) := by
   rw [List.drop_eq_getElem_cons (by omega), List.getD_eq_getElem?_getD, List.getElem?_eq_getElem (by omega)]; rfl
  have hw : s.data.toList.drop f = (s.data.toList.drop f).take (i - f) ++ s.data.toList.drop i := by
   have := (List.take_append_drop (i - f) (s.data.toList.drop f)).symm
   rw [List.drop_drop, show f + (i - f) = i by omega] at this
   exact this
  have h1 := Qol s c out f i (by omega) _ rfl
  generalize hbb : s.data.toList.getD i 0 = b at h1 hb
  by_cases hbc : b = c
  ·rw [if_pos hbc] at h1
   rw [Ux _ h1, Lj s c m (i + 1) (i + 1) _ (by omega) (Nat.le_refl _) (by rw [Nat.sub_self, List.take_zero]; exact List.not_mem_nil) fuel (by omega)]
   rw [hw, hb, hbc, Uz _ hc, List.map_cons, Qml, List.append_assoc]
   rfl
  ·rw [if_neg hbc] at h1
   have hc' : c ∉ (s.data.toList.drop f).take (i + 1 - f) := by
    have e : (s.data.toList.drop f).take (i + 1 - f) = (s.data.toList.drop f).take (i - f) ++ [b] := by
     have hg : s.data.toList[i]? = some b := by
      rw [List.getD_eq_getElem?_getD, List.getElem?_eq_getElem (by omega)] at hbb
      rw [List.getElem?_eq_getElem (by omega)]
      exact congrArg some hbb
     rw [show i + 1 - f = (i - f) + 1 by omega, List.take_add_one, List.getElem?_drop, show f + (i - f) = i by omega, hg]
     rfl
    rw [e]
    intro hm
    rcases List.mem_append.1 hm with h2 | h2
    ·exact hc h2
    ·exact hbc (List.mem_singleton.1 h2).symm
   rw [Ux _ h1]
   exact Lj s c m (i + 1) f out (by omega) (by omega) hc' fuel (by omega)
theorem Jo (s : ByteArray) (c : UInt8) : F54 s (c.toNat : Int) = (Qx c s.data.toList).map mkB := by
 have := Lj s c s.size 0 0 [] (by omega) (Nat.le_refl _) (by rw [Nat.sub_self, List.take_zero]; exact List.not_mem_nil) (Int.toNat ((s.size : Int) - 0) + 1) (by omega)
 rw [List.drop_zero, List.nil_append] at this
 exact this
theorem Lv (s : ByteArray) (c : UInt8) : Qw s ⟨#[c]⟩ = (Qx c s.data.toList).map mkB := by
 rw [← Pa, List.map_map]
 exact ((List.map_congr_left fun x _ => Tf x).trans (List.map_id _)).symm
theorem Qad (s : ByteArray) (c : UInt8) : F54 s (c.toNat : Int) = Qw s ⟨#[c]⟩ := (Jo s c).trans (Lv s c).symm
theorem Qqj (s : ByteArray) (a : Int) : ∃ c : UInt8, F54 s a = (Qx c s.data.toList).map mkB := by
 refine ⟨UInt8.ofNat (a % 256).toNat, ?_⟩
 rw [← Jo]
 have h : ((UInt8.ofNat (a % 256).toNat).toNat : Int) % 256 = a % 256 := by
  rw [UInt8.toNat_ofNat']
  omega
 have e : Zw s a = Zw s ((UInt8.ofNat (a % 256).toNat).toNat : Int) := by
  funext ⟨o, f, i⟩
  simp only [Zw, h]
 unfold F54 Pd
 rw [e]
theorem Ln (c : UInt8) : ∀ (l : List UInt8), ∀ w ∈ Qx c l, w.length ≤ l.length
 | [], w, h => by
  rw [Qx, List.mem_singleton] at h; rw [h]; exact Nat.le_refl _
 | b :: l, w, h => by
  have ih := Ln c l
  rw [Qx] at h
  by_cases hb : b = c
  ·rw [if_pos hb] at h
   rcases List.mem_cons.1 h with rfl | h
   ·exact Nat.zero_le _
   ·exact Nat.le_succ_of_le (ih w h)
  ·rw [if_neg hb] at h
   cases hs : Qx c l with
   | nil =>
    rw [hs] at h
    rw [List.mem_singleton] at h; rw [h]; exact Nat.succ_le_succ (Nat.zero_le _)
   | cons p ps =>
    rw [hs] at h ih
    rcases List.mem_cons.1 h with rfl | h
    ·exact Nat.succ_le_succ (ih p List.mem_cons_self)
    ·exact Nat.le_succ_of_le (ih w (List.mem_cons_of_mem _ h))
theorem Er (ws : List (List UInt8)) (n : Nat) (h : ∀ w ∈ ws, w.length ≤ n) (k : Nat) : (((ws.map mkB).getD k default : ByteArray)).size ≤ n := by
 by_cases hk : k < ws.length
 ·rw [List.getD_eq_getElem?_getD, List.getElem?_eq_getElem (by simpa using hk), List.getElem_map]
  exact h _ (List.getElem_mem hk)
 ·rw [Wl _ (by simpa using hk)]
  exact Nat.zero_le _
theorem Kt (s : ByteArray) (a : Int) (h : s.size ≤ 1048576) (k : Nat) : (((F54 s a).getD k default : ByteArray)).size ≤ 1048576 := by
 obtain ⟨c, e⟩ := Qqj s a
 rw [e]
 refine Er _ _ (fun w hw => ?_) k
 have := Ln c _ w hw
 have hl : s.data.toList.length = s.size := Array.length_toList
 omega
theorem kc32 (s : ByteArray) {K_ : Prop} (p0_ : s.size ≤ 1048576) (k_ : K_) : (s.size ≤ 1048576) ∧ (Imp (.v (.string s)) (.v (.string s))) ∧ K_ := ⟨p0_, Imp.refl _, k_⟩
abbrev kh32 (s : ByteArray) : Hint true Tryz.prog := .call 32 (S32 s) (ok32 s) none
def F55 (s : ByteArray) (low : Int) (high : Int) : Bool :=
 (decide (low ≤ (F32 s) ∧ (F32 s) ≤ high))
def S55 (R : Bool) (s : ByteArray) (low : Int) (high : Int) : Spec := ⟨[.r (.c (.v (.string s))), .r (.c (.v (vI low))), .r (.c (.v (vI high)))], .v (.bool R), s.size ≤ 1048576⟩
theorem ok55 (s : ByteArray) (low : Int) (high : Int) : (S55 (F55 s low high) s low high).ok Tryz.prog 55 :=
 Ql mixed (fn := Tryz.f55) (ct := .seq .no (.seq (.reg [(1, kh32 s), (4, Qbt (F32 s) low high)]) .no)) Tryz.func55 (fun (hpre0 : s.size ≤ 1048576) => kc32 s (by omega) (Qgo (F32 s) low high (fiB (decide (low ≤ (F32 s) ∧ (F32 s) ≤ high)) (F55 s low high) rfl))) (by kernel_rfl)
theorem as55 (s : ByteArray) (low : Int) (high : Int) : F55 s low high = (decide (low ≤ F32 s ∧ F32 s ≤ high)) := by
 rfl
theorem oa55 (s : ByteArray) (low : Int) (high : Int) : (S55 (decide (low ≤ F32 s ∧ F32 s ≤ high)) s low high).ok Tryz.prog 55 := by
 intro hp; have h := ok55 s low high hp; rw [as55 s low high] at h; exact h
theorem kc54 (s : ByteArray) (at' : Int) {K_ : Prop} (p0_ : s.size ≤ 1048576) (q0_ : s.size ≤ 1048576) (k_ : (∀ k : Nat, ((F54 s at').getD k default).size ≤ 1048576) → K_) : (s.size ≤ 1048576) ∧ (Imp (.v (.string s)) (.v (.string s))) ∧ (Imp (.v (.int .u8 at')) (.v (.int .u8 at'))) ∧ K_ := ⟨p0_, Imp.refl _, Imp.refl _, k_ (Kt s at' q0_)⟩
abbrev kh54 (s : ByteArray) (at' : Int) : Hint true Tryz.prog := .call 54 (S54 s at') (ok54 s at') none
theorem Wm {K_ : Prop} (c_ b_ : Bool) (s : ByteArray) (low : Int) (high : Int) (p_ : c_ = b_ → s.size ≤ 1048576) (k_ : K_) : (c_ = b_ → s.size ≤ 1048576) ∧ (c_ = b_ → Imp (.v (.string s)) (.v (.string s))) ∧ (c_ = b_ → Imp (.v (vI low)) (.v (vI low))) ∧ (c_ = b_ → Imp (.v (vI high)) (.v (vI high))) ∧ K_ := ⟨p_, fun _ => Imp.refl _, fun _ => Imp.refl _, fun _ => Imp.refl _, k_⟩
abbrev Wj (s : ByteArray) (low : Int) (high : Int) : Hint true Tryz.prog := .call 55 (S55 (decide (low ≤ F32 s ∧ F32 s ≤ high)) s low high) (oa55 s low high) none
def F29 (s : ByteArray) : Int :=
 bif (bif (bif (((F54 s 46).length : Int) != 2) then true else (!(decide (0 ≤ F32 ((F54 s 46).getD (Int.toNat 0) default) ∧ F32 ((F54 s 46).getD (Int.toNat 0) default) ≤ 255)))) then true else (!(decide (0 ≤ F32 ((F54 s 46).getD (Int.toNat 1) default) ∧ F32 ((F54 s 46).getD (Int.toNat 1) default) ≤ 255)))) then (-1) else (IntKind.i64.wrap ((IntKind.i64.wrap (256 * (F32 ((F54 s 46).getD (Int.toNat 0) default)))) + (F32 ((F54 s 46).getD (Int.toNat 1) default))))
def S29 (s : ByteArray) : Spec := ⟨[.r (.c (.v (.string s)))], .v (vI (F29 s)), s.size ≤ 1048576⟩
theorem ok29 (s : ByteArray) : (S29 s).ok Tryz.prog 29 :=
 Ql mixed (fn := Tryz.f29) (ct := .seq .no (.seq (.reg [(1, kh54 s 46)]) (.seq (.seq (.reg [(7, Wj ((F54 s 46).getD (Int.toNat 0) default) 0 255), (14, Wj ((F54 s 46).getD (Int.toNat 1) default) 0 255)]) (.cond (.seq .no .no) .no)) (.seq (.reg [(3, kh32 ((F54 s 46).getD (Int.toNat 0) default)), (8, kh32 ((F54 s 46).getD (Int.toNat 1) default))]) .no)))) Tryz.func29 (fun (hpre0 : s.size ≤ 1048576) => kc54 s 46 (by omega) (by omega) (fun gv1 => ai (fun k2 : (((F54 s 46).length : Int) != 2) = false => have _ := bneF k2; (by omega : ib 0 (F54 s 46))) (Wm (((F54 s 46).length : Int) != 2) false ((F54 s 46).getD (Int.toNat 0) default) 0 255 (fun k3 => have _ := bneF k3; (by first | exact Kt _ _ (by omega) _ | omega)) (ai (fun k4 : (bif (((F54 s 46).length : Int) != 2) then true else (!(decide (0 ≤ F32 ((F54 s 46).getD (Int.toNat 0) default) ∧ F32 ((F54 s 46).getD (Int.toNat 0) default) ≤ 255)))) = false => have _ := bneF (orF1 k4); have _ := of_decide_eq_true (Ym (orF2 k4)); (by omega : ib 1 (F54 s 46))) (Wm (bif (((F54 s 46).length : Int) != 2) then true else (!(decide (0 ≤ F32 ((F54 s 46).getD (Int.toNat 0) default) ∧ F32 ((F54 s 46).getD (Int.toNat 0) default) ≤ 255)))) false ((F54 s 46).getD (Int.toNat 1) default) 0 255 (fun k5 => have _ := bneF (orF1 k5); have _ := of_decide_eq_true (Ym (orF2 k5)); (by first | exact Kt _ _ (by omega) _ | omega)) (ifb (bif (bif (((F54 s 46).length : Int) != 2) then true else (!(decide (0 ≤ F32 ((F54 s 46).getD (Int.toNat 0) default) ∧ F32 ((F54 s 46).getD (Int.toNat 0) default) ≤ 255)))) then true else (!(decide (0 ≤ F32 ((F54 s 46).getD (Int.toNat 1) default) ∧ F32 ((F54 s 46).getD (Int.toNat 1) default) ≤ 255)))) (fun h6 => fiI (-1) (F29 s) (condT h6 rfl)) (fun h6 => have _ := bneF (orF1 (orF1 h6)); have _ := of_decide_eq_true (Ym (orF2 (orF1 h6))); have _ := of_decide_eq_true (Ym (orF2 h6)); ai (by omega : ib 0 (F54 s 46)) (kc32 ((F54 s 46).getD (Int.toNat 0) default) (by first | exact Kt _ _ (by omega) _ | omega) (ai (by omega : ib 1 (F54 s 46)) (kc32 ((F54 s 46).getD (Int.toNat 1) default) (by first | exact Kt _ _ (by omega) _ | omega) (fiI (IntKind.i64.wrap ((IntKind.i64.wrap (256 * (F32 ((F54 s 46).getD (Int.toNat 0) default)))) + (F32 ((F54 s 46).getD (Int.toNat 1) default)))) (F29 s) (condF h6 rfl)))))))))))) (by kernel_rfl)
theorem kc138 {K_ : Prop} (k_ : K_) : (True) ∧ K_ := ⟨trivial, k_⟩
abbrev kh138 : Hint true Tryz.prog := .call 138 (S138) (ok138) none
theorem kc23 (list : List ByteArray) (s : ByteArray) {K_ : Prop} (k_ : K_) : (True) ∧ (Imp (.l 1 eStr list) (.l 1 eStr list)) ∧ (Imp (.v (.string s)) (.v (.string s))) ∧ K_ := ⟨trivial, Imp.refl _, Imp.refl _, k_⟩
abbrev kh23 (list : List ByteArray) (s : ByteArray) : Hint true Tryz.prog := .call 23 (S23 list s) (ok23 list s) none
def Wt (s : ByteArray) : Int → Lp Int Bool := fun i40 =>
 bif (decide (i40 < ((F54 s 44).length : Int))) then (bif (bif (!(F23 F138 ((F54 s 44).getD (Int.toNat i40) default))) then true else (bif decide (i40 > 0) then (!(Op.bytesLess ((F54 s 44).getD (Int.toNat (i40 - 1)) default).toList ((F54 s 44).getD (Int.toNat i40) default).toList)) else false)) then (.ret false) else (.next (i40 + 1))) else (.done i40)
def F125 (s : ByteArray) : Bool :=
 bif (bif (s.toList == (⟨#[97, 108, 108]⟩ : ByteArray).toList) then true else (s.toList == (⟨#[110, 111, 110, 101]⟩ : ByteArray).toList)) then true else ((runL (Wt s) ((Int.toNat (((F54 s 44).length : Int) - 0)) + 1) 0).fin (fun r => r) (fun i40 => true))
abbrev Gs (s : ByteArray) : Nat × Int := (((Int.toNat (((F54 s 44).length : Int) - 0)) + 1), 0)
abbrev Qdr (s : ByteArray) (m39 : Nat) (i40 : Int) : Prop := Int.toNat (((F54 s 44).length : Int) - i40) < m39 ∧ (0 : Int) ≤ i40
abbrev Qmm (s : ByteArray) : Lp Int Bool := LpX (Wt s) (Gs s)
abbrev Ho (s : ByteArray) (i : Nat × Int) : Prop := LpJ (Wt s) (Gs s) i (Qdr s i.1 i.2)
abbrev Qme (s : ByteArray) (i : Nat × Int) (m39 : Nat) (i40 : Int) : Prop := LpH (Wt s) (Gs s) i m39 i40 (Qdr s (m39 + 1) i40)
abbrev Qlx (s : ByteArray) (i40 : Int) (i40_ : Int) (K39 : Prop) : Prop := ((.int .i64 i40 : Value) = .int .i64 i40_) ∧ (Im (.l 1 eStr (F54 s 44))) ∧ K39
theorem Qxg (s : ByteArray) (i : Nat × Int) (h : Ho s i) : Qme s i (i.1 - 1) i.2 := ⟨hd1 h.1 h.2.1, hd3 h.2.1, hd2 h.2.1, h.2.2⟩
theorem Qwq (s : ByteArray) (i : Nat × Int) (m39 : Nat) (i40 : Int) (hl : m39 < i.1) (e : runL (Wt s) m39 i40 = Qmm s) (h : Qdr s m39 i40) : ∃ j : Nat × Int, Qlx s i40 j.2 (Ho s j ∧ j.1 < i.1) := ⟨(m39, i40), rfl, Imp.refl _, ⟨e, h⟩, hl⟩
theorem Qxq (s : ByteArray) (h : (0 : Int) ≤ 0) : Qlx s 0 0 (Ho s (Gs s)) := ⟨rfl, Imp.refl _, rfl, Nat.lt_succ_self _, h⟩
def S125 (s : ByteArray) : Spec := ⟨[.r (.c (.v (.string s)))], .v (.bool (F125 s)), s.size ≤ 1048576⟩
theorem ok125 (s : ByteArray) : (S125 s).ok Tryz.prog 125 :=
 Ql mixed (fn := Tryz.f125) (ct := .seq .no (.seq (.seq .no (.cond (.seq .no .no) .no)) (.seq (.reg [(1, kh54 s 44)]) (.seq (.seqk [(3, 0)] .no (.blk (.loop (ι := Nat × Int) (fun i => (fun (i40 : Int) => (⟨[(3, some (.h 0 0)), (4, some (.v (vI i40)))], [(0, some (.own 0 (.l 1 eStr (F54 s 44))))], 1⟩ : St)) i.2) (Ho s) (fun i => i.1) (Gs s) (fun i => (fun (i40 : Int) => (.seq (.seq .no (.cond .no .no)) (.seq (.blk (.seq (.reg [(0, kh138), (5, kh23 F138 ((F54 s 44).getD (Int.toNat i40) default)), (13, .bnd)]) (.cond (.seq .no .no) .no))) (.reg [(1, .bnd)])))) i.2)))) (.seq .no .no))))) Tryz.func125 (fun (hpre0 : s.size ≤ 1048576) => ifb (bif (s.toList == w11_.toList) then true else (s.toList == w12_.toList)) (fun h1 => fiB true (F125 s) (condT h1 rfl)) (fun h1 => have _ : (s.toList == w11_.toList) = false := (orF1 h1); have _ : (s.toList == w12_.toList) = false := (orF2 h1); kc54 s 44 (by omega) (by omega) (fun gv2 => kn (F54 s 44) fun _ => ai (Qxq s (by omega)) (fun (i0 : Nat × Int) (hi0 : Ho s i0) => (fun (m0 : Nat) (i40 : Int) (hh0 : Qme s i0 m0 i40) => have hI0 := hh0.1; have hl0 := hh0.2.1; have _ := hh0.2.2.1; have _ := hh0.2.2.2; ifd (i40 < ((F54 s 44).length : Int)) (fun h4 _ => kc138 (ai (by omega : ib i40 (F54 s 44)) (kc23 F138 ((F54 s 44).getD (Int.toNat i40) default) (ai (fun k6 : (decide (i40 > 0)) = true => have _ := of_decide_eq_true k6; (fun k5 : (!(F23 F138 ((F54 s 44).getD (Int.toNat i40) default))) = false => iok (i40 - 1) (by omega))) (ai (fun k8 : (decide (i40 > 0)) = true => have _ := of_decide_eq_true k8; (fun k7 : (!(F23 F138 ((F54 s 44).getD (Int.toNat i40) default))) = false => (by omega : ib (i40 - 1) (F54 s 44)))) (ai (fun k10 : (decide (i40 > 0)) = true => have _ := of_decide_eq_true k10; (fun k9 : (!(F23 F138 ((F54 s 44).getD (Int.toNat i40) default))) = false => (by omega : ib i40 (F54 s 44)))) (ifb (bif (!(F23 F138 ((F54 s 44).getD (Int.toNat i40) default))) then true else (bif decide (i40 > 0) then (!(Op.bytesLess ((F54 s 44).getD (Int.toNat (i40 - 1)) default).toList ((F54 s 44).getD (Int.toNat i40) default).toList)) else false)) (fun h11 => fiB false (F125 s) (condF h1 (finR (Qt hI0 (condT h4 (condT h11 rfl))) rfl))) (fun h11 => ai (iok (i40 + 1) (by omega)) (Qwq s i0 m0 (i40 + 1) hl0 (Qe hI0 (condT h4 (condF h11 rfl))) (by refine ⟨?_, ?_⟩ <;> omega)))))))))) (fun h4 _ => have hD0_12 : Qmm s = Lp.done i40 := Qk hI0 (condF h4 rfl); fiB true (F125 s) (condF h1 (finD hD0_12 rfl)))) (i0.1 - 1) i0.2 (Qxg s i0 hi0))))) (by kernel_rfl)
theorem kc29 (s : ByteArray) {K_ : Prop} (p0_ : s.size ≤ 1048576) (k_ : K_) : (s.size ≤ 1048576) ∧ (Imp (.v (.string s)) (.v (.string s))) ∧ K_ := ⟨p0_, Imp.refl _, k_⟩
theorem kg29 {K_ : Prop} (c_ b_ : Bool) (s : ByteArray) (p_ : c_ = b_ → s.size ≤ 1048576) (k_ : K_) : (c_ = b_ → s.size ≤ 1048576) ∧ (c_ = b_ → Imp (.v (.string s)) (.v (.string s))) ∧ K_ := ⟨p_, fun _ => Imp.refl _, k_⟩
abbrev kh29 (s : ByteArray) : Hint true Tryz.prog := .call 29 (S29 s) (ok29 s) none
theorem kc56 (n : Int) {K_ : Prop} (p0_ : 0 ≤ n) (q0_ : 0 ≤ n) (q1_ : n ≤ 16) (k_ : (1 ≤ (F56 n) ∧ (F56 n) ≤ 65536) → (0 ≤ n → n ≤ 16 → 1 ≤ (F56 n) ∧ (F56 n) ≤ 65536) → K_) : (0 ≤ n) ∧ (Imp (.v (vI n)) (.v (vI n))) ∧ K_ := ⟨p0_, Imp.refl _, k_ (Qkr n q0_ q1_) (Qkr n)⟩
abbrev kh56 (n : Int) : Hint true Tryz.prog := .call 56 (S56 n) (ok56 n) none
def F27 (s : ByteArray) : Int × Int :=
 bif (bif (bif (((F54 s 47).length : Int) != 2) then true else decide ((F29 ((F54 s 47).getD (Int.toNat 0) default)) < 0)) then true else (!(decide (0 ≤ F32 ((F54 s 47).getD (Int.toNat 1) default) ∧ F32 ((F54 s 47).getD (Int.toNat 1) default) ≤ 16)))) then ((-1), 0) else (bif (((F29 ((F54 s 47).getD (Int.toNat 0) default)).tmod (F56 (F32 ((F54 s 47).getD (Int.toNat 1) default)))) != 0) then ((-1), 0) else ((F29 ((F54 s 47).getD (Int.toNat 0) default)), (F56 (F32 ((F54 s 47).getD (Int.toNat 1) default)))))
theorem fi27 (s : ByteArray) (r : Int × Int) (hF : r = (F27 s)) : ((.int .i64 r.1 : Value) = .int .i64 ((F27 s).1)) ∧ ((.int .i64 r.2 : Value) = .int .i64 ((F27 s).2)) ∧ True := by cases hF; exact ⟨rfl, rfl, trivial⟩
def S27 (s : ByteArray) : Spec := ⟨[.r (.c (.v (.string s)))], .tu [.v (vI ((F27 s).1)), .v (vI ((F27 s).2))], s.size ≤ 1048576⟩
theorem ok27 (s : ByteArray) : (S27 s).ok Tryz.prog 27 :=
 Ql mixed (fn := Tryz.f27) (ct := .seq .no (.seq (.reg [(1, kh54 s 47)]) (.seq (.seq (.reg [(7, kh29 ((F54 s 47).getD (Int.toNat 0) default)), (14, Wj ((F54 s 47).getD (Int.toNat 1) default) 0 16)]) (.cond (.seq .no .no) .no)) (.seq (.reg [(3, kh29 ((F54 s 47).getD (Int.toNat 0) default))]) (.seq (.reg [(3, kh32 ((F54 s 47).getD (Int.toNat 1) default)), (4, kh56 (F32 ((F54 s 47).getD (Int.toNat 1) default)))]) (.seq (.seq .no (.cond (.seq .no .no) .no)) (.seq .no .no))))))) Tryz.func27 (fun (hpre0 : s.size ≤ 1048576) => kc54 s 47 (by omega) (by omega) (fun gv1 => ai (fun k2 : (((F54 s 47).length : Int) != 2) = false => have _ := bneF k2; (by omega : ib 0 (F54 s 47))) (kg29 (((F54 s 47).length : Int) != 2) false ((F54 s 47).getD (Int.toNat 0) default) (fun k3 => have _ := bneF k3; (by first | exact Kt _ _ (by omega) _ | omega)) (ai (fun k4 : (bif (((F54 s 47).length : Int) != 2) then true else decide ((F29 ((F54 s 47).getD (Int.toNat 0) default)) < 0)) = false => have _ := bneF (orF1 k4); have _ := of_decide_eq_false (orF2 k4); (by omega : ib 1 (F54 s 47))) (Wm (bif (((F54 s 47).length : Int) != 2) then true else decide ((F29 ((F54 s 47).getD (Int.toNat 0) default)) < 0)) false ((F54 s 47).getD (Int.toNat 1) default) 0 16 (fun k5 => have _ := bneF (orF1 k5); have _ := of_decide_eq_false (orF2 k5); (by first | exact Kt _ _ (by omega) _ | omega)) (ifb (bif (bif (((F54 s 47).length : Int) != 2) then true else decide ((F29 ((F54 s 47).getD (Int.toNat 0) default)) < 0)) then true else (!(decide (0 ≤ F32 ((F54 s 47).getD (Int.toNat 1) default) ∧ F32 ((F54 s 47).getD (Int.toNat 1) default) ≤ 16)))) (fun h6 => fi27 s ((-1), 0) (condT h6 rfl)) (fun h6 => have _ := bneF (orF1 (orF1 h6)); have _ := of_decide_eq_false (orF2 (orF1 h6)); have _ := of_decide_eq_true (Ym (orF2 h6)); ai (by omega : ib 0 (F54 s 47)) (kc29 ((F54 s 47).getD (Int.toNat 0) default) (by first | exact Kt _ _ (by omega) _ | omega) (ai (by omega : ib 1 (F54 s 47)) (kc32 ((F54 s 47).getD (Int.toNat 1) default) (by first | exact Kt _ _ (by omega) _ | omega) (kc56 (F32 ((F54 s 47).getD (Int.toNat 1) default)) (by omega) (by omega) (by omega) (fun gv7 gv8 => ai (by omega : ¬ (F56 (F32 ((F54 s 47).getD (Int.toNat 1) default))) = 0) (ifn ((F29 ((F54 s 47).getD (Int.toNat 0) default)).tmod (F56 (F32 ((F54 s 47).getD (Int.toNat 1) default)))) 0 (fun h9 _ => fi27 s ((-1), 0) (condF h6 (condT h9 rfl))) (fun h9 _ => fi27 s ((F29 ((F54 s 47).getD (Int.toNat 0) default)), (F56 (F32 ((F54 s 47).getD (Int.toNat 1) default)))) (condF h6 (condF h9 rfl)))))))))))))))) (by kernel_rfl)
theorem kc27 (s : ByteArray) {K_ : Prop} (p0_ : s.size ≤ 1048576) (k_ : K_) : (s.size ≤ 1048576) ∧ (Imp (.v (.string s)) (.v (.string s))) ∧ K_ := ⟨p0_, Imp.refl _, k_⟩
abbrev kh27 (s : ByteArray) : Hint true Tryz.prog := .call 27 (S27 s) (ok27 s) none
def F126 (s : ByteArray) : Bool :=
 decide ((F27 s).1 ≥ 0)
def S126 (s : ByteArray) : Spec := ⟨[.r (.c (.v (.string s)))], .v (.bool (F126 s)), s.size ≤ 1048576⟩
theorem ok126 (s : ByteArray) : (S126 s).ok Tryz.prog 126 :=
 Ql mixed (fn := Tryz.f126) (ct := .seq .no (.seq (.reg [(1, kh27 s)]) (.seq .no .no))) Tryz.func126 (fun (hpre0 : s.size ≤ 1048576) => kc27 s (by omega) (fiB (decide ((F27 s).1 ≥ 0)) (F126 s) rfl)) (by kernel_rfl)
theorem Qty {K_ : Prop} (c_ b_ : Bool) (s : ByteArray) (p_ : c_ = b_ → s.size ≤ 1048576) (k_ : K_) : (c_ = b_ → s.size ≤ 1048576) ∧ (c_ = b_ → Imp (.v (.string s)) (.v (.string s))) ∧ K_ := ⟨p_, fun _ => Imp.refl _, k_⟩
abbrev Qmq (s : ByteArray) : Hint true Tryz.prog := .call 124 (S124 s) (ok124 s) none
theorem kg125 {K_ : Prop} (c_ b_ : Bool) (s : ByteArray) (p_ : c_ = b_ → s.size ≤ 1048576) (k_ : K_) : (c_ = b_ → s.size ≤ 1048576) ∧ (c_ = b_ → Imp (.v (.string s)) (.v (.string s))) ∧ K_ := ⟨p_, fun _ => Imp.refl _, k_⟩
abbrev kh125 (s : ByteArray) : Hint true Tryz.prog := .call 125 (S125 s) (ok125 s) none
theorem Qgd {K_ : Prop} (c_ b_ : Bool) (s : ByteArray) (p_ : c_ = b_ → s.size ≤ 1048576) (k_ : K_) : (c_ = b_ → s.size ≤ 1048576) ∧ (c_ = b_ → Imp (.v (.string s)) (.v (.string s))) ∧ K_ := ⟨p_, fun _ => Imp.refl _, k_⟩
abbrev Qeg (s : ByteArray) : Hint true Tryz.prog := .call 126 (S126 s) (ok126 s) none
abbrev w16_ : ByteArray := ⟨#[105, 110]⟩
abbrev w17_ : ByteArray := ⟨#[112, 101, 114, 109, 105, 116]⟩
abbrev w18_ : ByteArray := ⟨#[100, 101, 110, 121]⟩
def F102 (w1 : List ByteArray) : Bool :=
 bif ((w1.length : Int) == 0) then false else (bif ((w1.getD (Int.toNat 0) default).toList == (⟨#[104, 111, 115, 116]⟩ : ByteArray).toList) then (bif ((w1.length : Int) == 2) then (F124 (w1.getD (Int.toNat 1) default)) else false) else (bif ((w1.getD (Int.toNat 0) default).toList == (⟨#[117, 115, 101, 114]⟩ : ByteArray).toList) then (bif (bif ((w1.length : Int) == 3) then (F124 (w1.getD (Int.toNat 1) default)) else false) then (F125 (w1.getD (Int.toNat 2) default)) else false) else (bif ((w1.getD (Int.toNat 0) default).toList == (⟨#[112, 111, 114, 116]⟩ : ByteArray).toList) then (bif (bif (bif ((w1.length : Int) == 3) then true else (bif (bif ((w1.length : Int) == 5) then ((w1.getD (Int.toNat 3) default).toList == (⟨#[105, 110]⟩ : ByteArray).toList) else false) then (F124 (w1.getD (Int.toNat 4) default)) else false)) then (decide (0 ≤ F32 (w1.getD (Int.toNat 1) default) ∧ F32 (w1.getD (Int.toNat 1) default) ≤ 7)) else false) then (F126 (w1.getD (Int.toNat 2) default)) else false) else (bif ((w1.getD (Int.toNat 0) default).toList == (⟨#[114, 117, 108, 101]⟩ : ByteArray).toList) then (bif (bif (bif (bif (bif (bif ((w1.length : Int) == 7) then (F124 (w1.getD (Int.toNat 1) default)) else false) then (decide (0 ≤ F32 (w1.getD (Int.toNat 2) default) ∧ F32 (w1.getD (Int.toNat 2) default) ≤ 99)) else false) then (bif ((w1.getD (Int.toNat 3) default).toList == (⟨#[112, 101, 114, 109, 105, 116]⟩ : ByteArray).toList) then true else ((w1.getD (Int.toNat 3) default).toList == (⟨#[100, 101, 110, 121]⟩ : ByteArray).toList)) else false) then (F126 (w1.getD (Int.toNat 4) default)) else false) then (F126 (w1.getD (Int.toNat 5) default)) else false) then (decide (0 ≤ F32 (w1.getD (Int.toNat 6) default) ∧ F32 (w1.getD (Int.toNat 6) default) ≤ 7)) else false) else (bif ((w1.getD (Int.toNat 0) default).toList == (⟨#[114, 111, 117, 116, 101]⟩ : ByteArray).toList) then (bif (bif ((w1.length : Int) == 3) then (F126 (w1.getD (Int.toNat 1) default)) else false) then decide ((F29 (w1.getD (Int.toNat 2) default)) ≥ 0) else false) else (bif ((w1.getD (Int.toNat 0) default).toList == (⟨#[112, 101, 101, 114]⟩ : ByteArray).toList) then (bif (bif (bif ((w1.length : Int) == 4) then decide ((F29 (w1.getD (Int.toNat 1) default)) ≥ 0) else false) then (decide (1 ≤ F32 (w1.getD (Int.toNat 2) default) ∧ F32 (w1.getD (Int.toNat 2) default) ≤ 9)) else false) then (decide (1 ≤ F32 (w1.getD (Int.toNat 3) default) ∧ F32 (w1.getD (Int.toNat 3) default) ≤ 999999)) else false) else (bif ((w1.getD (Int.toNat 0) default).toList == (⟨#[110, 97, 116]⟩ : ByteArray).toList) then (bif (bif (bif (bif ((w1.length : Int) == 5) then (F126 (w1.getD (Int.toNat 1) default)) else false) then decide ((F29 (w1.getD (Int.toNat 2) default)) ≥ 0) else false) then (decide (1 ≤ F32 (w1.getD (Int.toNat 3) default) ∧ F32 (w1.getD (Int.toNat 3) default) ≤ 65535)) else false) then (decide (1 ≤ F32 (w1.getD (Int.toNat 4) default) ∧ F32 (w1.getD (Int.toNat 4) default) ≤ 65535)) else false) else (bif ((w1.getD (Int.toNat 0) default).toList == (⟨#[100, 111, 111, 114]⟩ : ByteArray).toList) then (bif (bif (bif (bif ((w1.length : Int) == 5) then (decide (1 ≤ F32 (w1.getD (Int.toNat 1) default) ∧ F32 (w1.getD (Int.toNat 1) default) ≤ 7)) else false) then (decide (1 ≤ F32 (w1.getD (Int.toNat 2) default) ∧ F32 (w1.getD (Int.toNat 2) default) ≤ 65535)) else false) then decide ((F29 (w1.getD (Int.toNat 3) default)) ≥ 0) else false) then (decide (1 ≤ F32 (w1.getD (Int.toNat 4) default) ∧ F32 (w1.getD (Int.toNat 4) default) ≤ 65535)) else false) else false))))))))
def S102 (w1 : List ByteArray) : Spec := ⟨[.r (.c (.l 1 eStr w1))], .v (.bool (F102 w1)), (∀ k : Nat, (w1.getD k default).size ≤ 1048576)⟩
theorem ok102 (w1 : List ByteArray) : (S102 w1).ok Tryz.prog 102 :=
 Ql mixed (fn := Tryz.f102) (ct := .seqk [(0, 0)] .no (.seq .no (.seq (.seq .no (.cond (.seq .no .no) .no)) (.seq (.seq .no (.blk (.seq .no (.cond (.seq (.reg [(6, Qmq (w1.getD (Int.toNat 1) default))]) .no) (.seq .no (.cond (.seq (.reg [(6, Qmq (w1.getD (Int.toNat 1) default)), (12, kh125 (w1.getD (Int.toNat 2) default))]) .no) (.seq .no (.cond (.seq (.reg [(15, Qmq (w1.getD (Int.toNat 4) default)), (22, Wj (w1.getD (Int.toNat 1) default) 0 7), (28, Qeg (w1.getD (Int.toNat 2) default))]) .no) (.seq .no (.cond (.seq (.reg [(6, Qmq (w1.getD (Int.toNat 1) default)), (12, Wj (w1.getD (Int.toNat 2) default) 0 99), (30, Qeg (w1.getD (Int.toNat 4) default)), (36, Qeg (w1.getD (Int.toNat 5) default)), (42, Wj (w1.getD (Int.toNat 6) default) 0 7)]) .no) (.seq .no (.cond (.seq (.reg [(6, Qeg (w1.getD (Int.toNat 1) default)), (12, kh29 (w1.getD (Int.toNat 2) default))]) .no) (.seq .no (.cond (.seq (.reg [(6, kh29 (w1.getD (Int.toNat 1) default)), (13, Wj (w1.getD (Int.toNat 2) default) 1 9), (19, Wj (w1.getD (Int.toNat 3) default) 1 999999)]) .no) (.seq .no (.cond (.seq (.reg [(6, Qeg (w1.getD (Int.toNat 1) default)), (12, kh29 (w1.getD (Int.toNat 2) default)), (19, Wj (w1.getD (Int.toNat 3) default) 1 65535), (25, Wj (w1.getD (Int.toNat 4) default) 1 65535)]) .no) (.seq .no (.cond (.seq (.reg [(6, Wj (w1.getD (Int.toNat 1) default) 1 7), (12, Wj (w1.getD (Int.toNat 2) default) 1 65535), (18, kh29 (w1.getD (Int.toNat 3) default)), (25, Wj (w1.getD (Int.toNat 4) default) 1 65535)]) .no) .no)))))))))))))))))) (.seq .no .no))))) Tryz.func102 (fun (hpre0 : ∀ k : Nat, (w1.getD k default).size ≤ 1048576) => kn w1 fun _ => ife (w1.length : Int) 0 (fun h1 _ => fiB false (F102 w1) (condT h1 rfl)) (fun h1 _ => ai (by (first | omega | (rcases Classical.em ((w1.length : Int) = 3) with h3 | h3; omega; (rcases Classical.em ((w1.length : Int) = 5) with h5 | h5; omega; (have e3 : ((w1.length : Int) == 3) = false := beq_eq_false_iff_ne.2 h3; have e5 : ((w1.length : Int) == 5) = false := beq_eq_false_iff_ne.2 h5; simp [e3, e5] at *)))) : 0 ≤ (0 : Int) ∧ (0 : Int) < (w1.length : Int)) (ifb ((w1.getD (Int.toNat 0) default).toList == w4_.toList) (fun h2 => ai (fun k3 : ((w1.length : Int) == 2) = true => have _ := eq_of_beq k3; (by (first | omega | (rcases Classical.em ((w1.length : Int) = 3) with h3 | h3; omega; (rcases Classical.em ((w1.length : Int) = 5) with h5 | h5; omega; (have e3 : ((w1.length : Int) == 3) = false := beq_eq_false_iff_ne.2 h3; have e5 : ((w1.length : Int) == 5) = false := beq_eq_false_iff_ne.2 h5; simp [e3, e5] at *)))) : 0 ≤ (1 : Int) ∧ (1 : Int) < (w1.length : Int))) (Qty ((w1.length : Int) == 2) true (w1.getD (Int.toNat 1) default) (fun k4 => have _ := eq_of_beq k4; (by first | (have hz : ∀ k : Nat, (w1.getD k default).size ≤ 1048576 := by assumption; exact hz _) | omega | exact hpre0 _ | (intros; exact trivial) | (intros; exact Nat.zero_le _))) (fiB (bif ((w1.length : Int) == 2) then (F124 (w1.getD (Int.toNat 1) default)) else false) (F102 w1) (condF h1 (condT h2 rfl))))) (fun h2 => ifb ((w1.getD (Int.toNat 0) default).toList == w10_.toList) (fun h5 => ai (fun k6 : ((w1.length : Int) == 3) = true => have _ := eq_of_beq k6; (by (first | omega | (rcases Classical.em ((w1.length : Int) = 3) with h3 | h3; omega; (rcases Classical.em ((w1.length : Int) = 5) with h5 | h5; omega; (have e3 : ((w1.length : Int) == 3) = false := beq_eq_false_iff_ne.2 h3; have e5 : ((w1.length : Int) == 5) = false := beq_eq_false_iff_ne.2 h5; simp [e3, e5] at *)))) : 0 ≤ (1 : Int) ∧ (1 : Int) < (w1.length : Int))) (Qty ((w1.length : Int) == 3) true (w1.getD (Int.toNat 1) default) (fun k7 => have _ := eq_of_beq k7; (by first | (have hz : ∀ k : Nat, (w1.getD k default).size ≤ 1048576 := by assumption; exact hz _) | omega | exact hpre0 _ | (intros; exact trivial) | (intros; exact Nat.zero_le _))) (ai (fun k8 : (bif ((w1.length : Int) == 3) then (F124 (w1.getD (Int.toNat 1) default)) else false) = true => have _ := eq_of_beq (Qh k8); (by (first | omega | (rcases Classical.em ((w1.length : Int) = 3) with h3 | h3; omega; (rcases Classical.em ((w1.length : Int) = 5) with h5 | h5; omega; (have e3 : ((w1.length : Int) == 3) = false := beq_eq_false_iff_ne.2 h3; have e5 : ((w1.length : Int) == 5) = false := beq_eq_false_iff_ne.2 h5; simp [e3, e5] at *)))) : 0 ≤ (2 : Int) ∧ (2 : Int) < (w1.length : Int))) (kg125 (bif ((w1.length : Int) == 3) then (F124 (w1.getD (Int.toNat 1) default)) else false) true (w1.getD (Int.toNat 2) default) (fun k9 => have _ := eq_of_beq (Qh k9); (by first | (have hz : ∀ k : Nat, (w1.getD k default).size ≤ 1048576 := by assumption; exact hz _) | omega | exact hpre0 _ | (intros; exact trivial) | (intros; exact Nat.zero_le _))) (fiB (bif (bif ((w1.length : Int) == 3) then (F124 (w1.getD (Int.toNat 1) default)) else false) then (F125 (w1.getD (Int.toNat 2) default)) else false) (F102 w1) (condF h1 (condF h2 (condT h5 rfl)))))))) (fun h5 => ifb ((w1.getD (Int.toNat 0) default).toList == w7_.toList) (fun h10 => ai (fun k12 : ((w1.length : Int) == 5) = true => have _ := eq_of_beq k12; (fun k11 : ((w1.length : Int) == 3) = false => have _ := beqF k11; (by (first | omega | (rcases Classical.em ((w1.length : Int) = 3) with h3 | h3; omega; (rcases Classical.em ((w1.length : Int) = 5) with h5 | h5; omega; (have e3 : ((w1.length : Int) == 3) = false := beq_eq_false_iff_ne.2 h3; have e5 : ((w1.length : Int) == 5) = false := beq_eq_false_iff_ne.2 h5; simp [e3, e5] at *)))) : 0 ≤ (3 : Int) ∧ (3 : Int) < (w1.length : Int)))) (ai (fun k14 : (bif ((w1.length : Int) == 5) then ((w1.getD (Int.toNat 3) default).toList == w16_.toList) else false) = true => have _ := eq_of_beq (Qh k14); have _ : ((w1.getD (Int.toNat 3) default).toList == w16_.toList) = true := (Qv k14); (fun k13 : ((w1.length : Int) == 3) = false => have _ := beqF k13; (by (first | omega | (rcases Classical.em ((w1.length : Int) = 3) with h3 | h3; omega; (rcases Classical.em ((w1.length : Int) = 5) with h5 | h5; omega; (have e3 : ((w1.length : Int) == 3) = false := beq_eq_false_iff_ne.2 h3; have e5 : ((w1.length : Int) == 5) = false := beq_eq_false_iff_ne.2 h5; simp [e3, e5] at *)))) : 0 ≤ (4 : Int) ∧ (4 : Int) < (w1.length : Int)))) (ai (fun k16 : (bif ((w1.length : Int) == 5) then ((w1.getD (Int.toNat 3) default).toList == w16_.toList) else false) = true => have _ := eq_of_beq (Qh k16); have _ : ((w1.getD (Int.toNat 3) default).toList == w16_.toList) = true := (Qv k16); (fun k15 : ((w1.length : Int) == 3) = false => have _ := beqF k15; (by first | (have hz : ∀ k : Nat, (w1.getD k default).size ≤ 1048576 := by assumption; exact hz _) | omega | exact hpre0 _ | (intros; exact trivial) | (intros; exact Nat.zero_le _) : (w1.getD (Int.toNat 4) default).size ≤ 1048576))) (ai (fun k18 : (bif ((w1.length : Int) == 5) then ((w1.getD (Int.toNat 3) default).toList == w16_.toList) else false) = true => have _ := eq_of_beq (Qh k18); have _ : ((w1.getD (Int.toNat 3) default).toList == w16_.toList) = true := (Qv k18); (fun k17 : ((w1.length : Int) == 3) = false => have _ := beqF k17; (Imp.refl (.v (.string (w1.getD (Int.toNat 4) default)))))) (ai (fun k19 : (bif ((w1.length : Int) == 3) then true else (bif (bif ((w1.length : Int) == 5) then ((w1.getD (Int.toNat 3) default).toList == w16_.toList) else false) then (F124 (w1.getD (Int.toNat 4) default)) else false)) = true => (by (first | omega | (rcases Classical.em ((w1.length : Int) = 3) with h3 | h3; omega; (rcases Classical.em ((w1.length : Int) = 5) with h5 | h5; omega; (have e3 : ((w1.length : Int) == 3) = false := beq_eq_false_iff_ne.2 h3; have e5 : ((w1.length : Int) == 5) = false := beq_eq_false_iff_ne.2 h5; simp [e3, e5] at *)))) : 0 ≤ (1 : Int) ∧ (1 : Int) < (w1.length : Int))) (Wm (bif ((w1.length : Int) == 3) then true else (bif (bif ((w1.length : Int) == 5) then ((w1.getD (Int.toNat 3) default).toList == w16_.toList) else false) then (F124 (w1.getD (Int.toNat 4) default)) else false)) true (w1.getD (Int.toNat 1) default) 0 7 (fun k20 => (by first | (have hz : ∀ k : Nat, (w1.getD k default).size ≤ 1048576 := by assumption; exact hz _) | omega | exact hpre0 _ | (intros; exact trivial) | (intros; exact Nat.zero_le _))) (ai (fun k21 : (bif (bif ((w1.length : Int) == 3) then true else (bif (bif ((w1.length : Int) == 5) then ((w1.getD (Int.toNat 3) default).toList == w16_.toList) else false) then (F124 (w1.getD (Int.toNat 4) default)) else false)) then (decide (0 ≤ F32 (w1.getD (Int.toNat 1) default) ∧ F32 (w1.getD (Int.toNat 1) default) ≤ 7)) else false) = true => have _ := of_decide_eq_true (Qv k21); (by (first | omega | (rcases Classical.em ((w1.length : Int) = 3) with h3 | h3; omega; (rcases Classical.em ((w1.length : Int) = 5) with h5 | h5; omega; (have e3 : ((w1.length : Int) == 3) = false := beq_eq_false_iff_ne.2 h3; have e5 : ((w1.length : Int) == 5) = false := beq_eq_false_iff_ne.2 h5; simp [e3, e5] at *)))) : 0 ≤ (2 : Int) ∧ (2 : Int) < (w1.length : Int))) (Qgd (bif (bif ((w1.length : Int) == 3) then true else (bif (bif ((w1.length : Int) == 5) then ((w1.getD (Int.toNat 3) default).toList == w16_.toList) else false) then (F124 (w1.getD (Int.toNat 4) default)) else false)) then (decide (0 ≤ F32 (w1.getD (Int.toNat 1) default) ∧ F32 (w1.getD (Int.toNat 1) default) ≤ 7)) else false) true (w1.getD (Int.toNat 2) default) (fun k22 => have _ := of_decide_eq_true (Qv k22); (by first | (have hz : ∀ k : Nat, (w1.getD k default).size ≤ 1048576 := by assumption; exact hz _) | omega | exact hpre0 _ | (intros; exact trivial) | (intros; exact Nat.zero_le _))) (fiB (bif (bif (bif ((w1.length : Int) == 3) then true else (bif (bif ((w1.length : Int) == 5) then ((w1.getD (Int.toNat 3) default).toList == w16_.toList) else false) then (F124 (w1.getD (Int.toNat 4) default)) else false)) then (decide (0 ≤ F32 (w1.getD (Int.toNat 1) default) ∧ F32 (w1.getD (Int.toNat 1) default) ≤ 7)) else false) then (F126 (w1.getD (Int.toNat 2) default)) else false) (F102 w1) (condF h1 (condF h2 (condF h5 (condT h10 rfl))))))))))))) (fun h10 => ifb ((w1.getD (Int.toNat 0) default).toList == w9_.toList) (fun h23 => ai (fun k24 : ((w1.length : Int) == 7) = true => have _ := eq_of_beq k24; (by (first | omega | (rcases Classical.em ((w1.length : Int) = 3) with h3 | h3; omega; (rcases Classical.em ((w1.length : Int) = 5) with h5 | h5; omega; (have e3 : ((w1.length : Int) == 3) = false := beq_eq_false_iff_ne.2 h3; have e5 : ((w1.length : Int) == 5) = false := beq_eq_false_iff_ne.2 h5; simp [e3, e5] at *)))) : 0 ≤ (1 : Int) ∧ (1 : Int) < (w1.length : Int))) (Qty ((w1.length : Int) == 7) true (w1.getD (Int.toNat 1) default) (fun k25 => have _ := eq_of_beq k25; (by first | (have hz : ∀ k : Nat, (w1.getD k default).size ≤ 1048576 := by assumption; exact hz _) | omega | exact hpre0 _ | (intros; exact trivial) | (intros; exact Nat.zero_le _))) (ai (fun k26 : (bif ((w1.length : Int) == 7) then (F124 (w1.getD (Int.toNat 1) default)) else false) = true => have _ := eq_of_beq (Qh k26); (by (first | omega | (rcases Classical.em ((w1.length : Int) = 3) with h3 | h3; omega; (rcases Classical.em ((w1.length : Int) = 5) with h5 | h5; omega; (have e3 : ((w1.length : Int) == 3) = false := beq_eq_false_iff_ne.2 h3; have e5 : ((w1.length : Int) == 5) = false := beq_eq_false_iff_ne.2 h5; simp [e3, e5] at *)))) : 0 ≤ (2 : Int) ∧ (2 : Int) < (w1.length : Int))) (Wm (bif ((w1.length : Int) == 7) then (F124 (w1.getD (Int.toNat 1) default)) else false) true (w1.getD (Int.toNat 2) default) 0 99 (fun k27 => have _ := eq_of_beq (Qh k27); (by first | (have hz : ∀ k : Nat, (w1.getD k default).size ≤ 1048576 := by assumption; exact hz _) | omega | exact hpre0 _ | (intros; exact trivial) | (intros; exact Nat.zero_le _))) (ai (fun k28 : (bif (bif ((w1.length : Int) == 7) then (F124 (w1.getD (Int.toNat 1) default)) else false) then (decide (0 ≤ F32 (w1.getD (Int.toNat 2) default) ∧ F32 (w1.getD (Int.toNat 2) default) ≤ 99)) else false) = true => have _ := eq_of_beq (Qh (Qh k28)); have _ := of_decide_eq_true (Qv k28); (by (first | omega | (rcases Classical.em ((w1.length : Int) = 3) with h3 | h3; omega; (rcases Classical.em ((w1.length : Int) = 5) with h5 | h5; omega; (have e3 : ((w1.length : Int) == 3) = false := beq_eq_false_iff_ne.2 h3; have e5 : ((w1.length : Int) == 5) = false := beq_eq_false_iff_ne.2 h5; simp [e3, e5] at *)))) : 0 ≤ (3 : Int) ∧ (3 : Int) < (w1.length : Int))) (ai (fun k30 : ((w1.getD (Int.toNat 3) default).toList == w17_.toList) = false => (fun k29 : (bif (bif ((w1.length : Int) == 7) then (F124 (w1.getD (Int.toNat 1) default)) else false) then (decide (0 ≤ F32 (w1.getD (Int.toNat 2) default) ∧ F32 (w1.getD (Int.toNat 2) default) ≤ 99)) else false) = true => have _ := eq_of_beq (Qh (Qh k29)); have _ := of_decide_eq_true (Qv k29); (by (first | omega | (rcases Classical.em ((w1.length : Int) = 3) with h3 | h3; omega; (rcases Classical.em ((w1.length : Int) = 5) with h5 | h5; omega; (have e3 : ((w1.length : Int) == 3) = false := beq_eq_false_iff_ne.2 h3; have e5 : ((w1.length : Int) == 5) = false := beq_eq_false_iff_ne.2 h5; simp [e3, e5] at *)))) : 0 ≤ (3 : Int) ∧ (3 : Int) < (w1.length : Int)))) (ai (fun k31 : (bif (bif (bif ((w1.length : Int) == 7) then (F124 (w1.getD (Int.toNat 1) default)) else false) then (decide (0 ≤ F32 (w1.getD (Int.toNat 2) default) ∧ F32 (w1.getD (Int.toNat 2) default) ≤ 99)) else false) then (bif ((w1.getD (Int.toNat 3) default).toList == w17_.toList) then true else ((w1.getD (Int.toNat 3) default).toList == w18_.toList)) else false) = true => have _ := eq_of_beq (Qh (Qh (Qh k31))); have _ := of_decide_eq_true (Qv (Qh k31)); (by (first | omega | (rcases Classical.em ((w1.length : Int) = 3) with h3 | h3; omega; (rcases Classical.em ((w1.length : Int) = 5) with h5 | h5; omega; (have e3 : ((w1.length : Int) == 3) = false := beq_eq_false_iff_ne.2 h3; have e5 : ((w1.length : Int) == 5) = false := beq_eq_false_iff_ne.2 h5; simp [e3, e5] at *)))) : 0 ≤ (4 : Int) ∧ (4 : Int) < (w1.length : Int))) (Qgd (bif (bif (bif ((w1.length : Int) == 7) then (F124 (w1.getD (Int.toNat 1) default)) else false) then (decide (0 ≤ F32 (w1.getD (Int.toNat 2) default) ∧ F32 (w1.getD (Int.toNat 2) default) ≤ 99)) else false) then (bif ((w1.getD (Int.toNat 3) default).toList == w17_.toList) then true else ((w1.getD (Int.toNat 3) default).toList == w18_.toList)) else false) true (w1.getD (Int.toNat 4) default) (fun k32 => have _ := eq_of_beq (Qh (Qh (Qh k32))); have _ := of_decide_eq_true (Qv (Qh k32)); (by first | (have hz : ∀ k : Nat, (w1.getD k default).size ≤ 1048576 := by assumption; exact hz _) | omega | exact hpre0 _ | (intros; exact trivial) | (intros; exact Nat.zero_le _))) (ai (fun k33 : (bif (bif (bif (bif ((w1.length : Int) == 7) then (F124 (w1.getD (Int.toNat 1) default)) else false) then (decide (0 ≤ F32 (w1.getD (Int.toNat 2) default) ∧ F32 (w1.getD (Int.toNat 2) default) ≤ 99)) else false) then (bif ((w1.getD (Int.toNat 3) default).toList == w17_.toList) then true else ((w1.getD (Int.toNat 3) default).toList == w18_.toList)) else false) then (F126 (w1.getD (Int.toNat 4) default)) else false) = true => have _ := eq_of_beq (Qh (Qh (Qh (Qh k33)))); have _ := of_decide_eq_true (Qv (Qh (Qh k33))); (by (first | omega | (rcases Classical.em ((w1.length : Int) = 3) with h3 | h3; omega; (rcases Classical.em ((w1.length : Int) = 5) with h5 | h5; omega; (have e3 : ((w1.length : Int) == 3) = false := beq_eq_false_iff_ne.2 h3; have e5 : ((w1.length : Int) == 5) = false := beq_eq_false_iff_ne.2 h5; simp [e3, e5] at *)))) : 0 ≤ (5 : Int) ∧ (5 : Int) < (w1.length : Int))) (Qgd (bif (bif (bif (bif ((w1.length : Int) == 7) then (F124 (w1.getD (Int.toNat 1) default)) else false) then (decide (0 ≤ F32 (w1.getD (Int.toNat 2) default) ∧ F32 (w1.getD (Int.toNat 2) default) ≤ 99)) else false) then (bif ((w1.getD (Int.toNat 3) default).toList == w17_.toList) then true else ((w1.getD (Int.toNat 3) default).toList == w18_.toList)) else false) then (F126 (w1.getD (Int.toNat 4) default)) else false) true (w1.getD (Int.toNat 5) default) (fun k34 => have _ := eq_of_beq (Qh (Qh (Qh (Qh k34)))); have _ := of_decide_eq_true (Qv (Qh (Qh k34))); (by first | (have hz : ∀ k : Nat, (w1.getD k default).size ≤ 1048576 := by assumption; exact hz _) | omega | exact hpre0 _ | (intros; exact trivial) | (intros; exact Nat.zero_le _))) (ai (fun k35 : (bif (bif (bif (bif (bif ((w1.length : Int) == 7) then (F124 (w1.getD (Int.toNat 1) default)) else false) then (decide (0 ≤ F32 (w1.getD (Int.toNat 2) default) ∧ F32 (w1.getD (Int.toNat 2) default) ≤ 99)) else false) then (bif ((w1.getD (Int.toNat 3) default).toList == w17_.toList) then true else ((w1.getD (Int.toNat 3) default).toList == w18_.toList)) else false) then (F126 (w1.getD (Int.toNat 4) default)) else false) then (F126 (w1.getD (Int.toNat 5) default)) else false) = true => have _ := eq_of_beq (Qh (Qh (Qh (Qh (Qh k35))))); have _ := of_decide_eq_true (Qv (Qh (Qh (Qh k35)))); (by (first | omega | (rcases Classical.em ((w1.length : Int) = 3) with h3 | h3; omega; (rcases Classical.em ((w1.length : Int) = 5) with h5 | h5; omega; (have e3 : ((w1.length : Int) == 3) = false := beq_eq_false_iff_ne.2 h3; have e5 : ((w1.length : Int) == 5) = false := beq_eq_false_iff_ne.2 h5; simp [e3, e5] at *)))) : 0 ≤ (6 : Int) ∧ (6 : Int) < (w1.length : Int))) (Wm (bif (bif (bif (bif (bif ((w1.length : Int) == 7) then (F124 (w1.getD (Int.toNat 1) default)) else false) then (decide (0 ≤ F32 (w1.getD (Int.toNat 2) default) ∧ F32 (w1.getD (Int.toNat 2) default) ≤ 99)) else false) then (bif ((w1.getD (Int.toNat 3) default).toList == w17_.toList) then true else ((w1.getD (Int.toNat 3) default).toList == w18_.toList)) else false) then (F126 (w1.getD (Int.toNat 4) default)) else false) then (F126 (w1.getD (Int.toNat 5) default)) else false) true (w1.getD (Int.toNat 6) default) 0 7 (fun k36 => have _ := eq_of_beq (Qh (Qh (Qh (Qh (Qh k36))))); have _ := of_decide_eq_true (Qv (Qh (Qh (Qh k36)))); (by first | (have hz : ∀ k : Nat, (w1.getD k default).size ≤ 1048576 := by assumption; exact hz _) | omega | exact hpre0 _ | (intros; exact trivial) | (intros; exact Nat.zero_le _))) (fiB (bif (bif (bif (bif (bif (bif ((w1.length : Int) == 7) then (F124 (w1.getD (Int.toNat 1) default)) else false) then (decide (0 ≤ F32 (w1.getD (Int.toNat 2) default) ∧ F32 (w1.getD (Int.toNat 2) default) ≤ 99)) else false) then (bif ((w1.getD (Int.toNat 3) default).toList == w17_.toList) then true else ((w1.getD (Int.toNat 3) default).toList == w18_.toList)) else false) then (F126 (w1.getD (Int.toNat 4) default)) else false) then (F126 (w1.getD (Int.toNat 5) default)) else false) then (decide (0 ≤ F32 (w1.getD (Int.toNat 6) default) ∧ F32 (w1.getD (Int.toNat 6) default) ≤ 7)) else false) (F102 w1) (condF h1 (condF h2 (condF h5 (condF h10 (condT h23 rfl)))))))))))))))))) (fun h23 => ifb ((w1.getD (Int.toNat 0) default).toList == w8_.toList) (fun h37 => ai (fun k38 : ((w1.length : Int) == 3) = true => have _ := eq_of_beq k38; (by (first | omega | (rcases Classical.em ((w1.length : Int) = 3) with h3 | h3; omega; (rcases Classical.em ((w1.length : Int) = 5) with h5 | h5; omega; (have e3 : ((w1.length : Int) == 3) = false := beq_eq_false_iff_ne.2 h3; have e5 : ((w1.length : Int) == 5) = false := beq_eq_false_iff_ne.2 h5; simp [e3, e5] at *)))) : 0 ≤ (1 : Int) ∧ (1 : Int) < (w1.length : Int))) (Qgd ((w1.length : Int) == 3) true (w1.getD (Int.toNat 1) default) (fun k39 => have _ := eq_of_beq k39; (by first | (have hz : ∀ k : Nat, (w1.getD k default).size ≤ 1048576 := by assumption; exact hz _) | omega | exact hpre0 _ | (intros; exact trivial) | (intros; exact Nat.zero_le _))) (ai (fun k40 : (bif ((w1.length : Int) == 3) then (F126 (w1.getD (Int.toNat 1) default)) else false) = true => have _ := eq_of_beq (Qh k40); (by (first | omega | (rcases Classical.em ((w1.length : Int) = 3) with h3 | h3; omega; (rcases Classical.em ((w1.length : Int) = 5) with h5 | h5; omega; (have e3 : ((w1.length : Int) == 3) = false := beq_eq_false_iff_ne.2 h3; have e5 : ((w1.length : Int) == 5) = false := beq_eq_false_iff_ne.2 h5; simp [e3, e5] at *)))) : 0 ≤ (2 : Int) ∧ (2 : Int) < (w1.length : Int))) (kg29 (bif ((w1.length : Int) == 3) then (F126 (w1.getD (Int.toNat 1) default)) else false) true (w1.getD (Int.toNat 2) default) (fun k41 => have _ := eq_of_beq (Qh k41); (by first | (have hz : ∀ k : Nat, (w1.getD k default).size ≤ 1048576 := by assumption; exact hz _) | omega | exact hpre0 _ | (intros; exact trivial) | (intros; exact Nat.zero_le _))) (fiB (bif (bif ((w1.length : Int) == 3) then (F126 (w1.getD (Int.toNat 1) default)) else false) then decide ((F29 (w1.getD (Int.toNat 2) default)) ≥ 0) else false) (F102 w1) (condF h1 (condF h2 (condF h5 (condF h10 (condF h23 (condT h37 rfl))))))))))) (fun h37 => ifb ((w1.getD (Int.toNat 0) default).toList == w6_.toList) (fun h42 => ai (fun k43 : ((w1.length : Int) == 4) = true => have _ := eq_of_beq k43; (by (first | omega | (rcases Classical.em ((w1.length : Int) = 3) with h3 | h3; omega; (rcases Classical.em ((w1.length : Int) = 5) with h5 | h5; omega; (have e3 : ((w1.length : Int) == 3) = false := beq_eq_false_iff_ne.2 h3; have e5 : ((w1.length : Int) == 5) = false := beq_eq_false_iff_ne.2 h5; simp [e3, e5] at *)))) : 0 ≤ (1 : Int) ∧ (1 : Int) < (w1.length : Int))) (kg29 ((w1.length : Int) == 4) true (w1.getD (Int.toNat 1) default) (fun k44 => have _ := eq_of_beq k44; (by first | (have hz : ∀ k : Nat, (w1.getD k default).size ≤ 1048576 := by assumption; exact hz _) | omega | exact hpre0 _ | (intros; exact trivial) | (intros; exact Nat.zero_le _))) (ai (fun k45 : (bif ((w1.length : Int) == 4) then decide ((F29 (w1.getD (Int.toNat 1) default)) ≥ 0) else false) = true => have _ := eq_of_beq (Qh k45); have _ := of_decide_eq_true (Qv k45); (by (first | omega | (rcases Classical.em ((w1.length : Int) = 3) with h3 | h3; omega; (rcases Classical.em ((w1.length : Int) = 5) with h5 | h5; omega; (have e3 : ((w1.length : Int) == 3) = false := beq_eq_false_iff_ne.2 h3; have e5 : ((w1.length : Int) == 5) = false := beq_eq_false_iff_ne.2 h5; simp [e3, e5] at *)))) : 0 ≤ (2 : Int) ∧ (2 : Int) < (w1.length : Int))) (Wm (bif ((w1.length : Int) == 4) then decide ((F29 (w1.getD (Int.toNat 1) default)) ≥ 0) else false) true (w1.getD (Int.toNat 2) default) 1 9 (fun k46 => have _ := eq_of_beq (Qh k46); have _ := of_decide_eq_true (Qv k46); (by first | (have hz : ∀ k : Nat, (w1.getD k default).size ≤ 1048576 := by assumption; exact hz _) | omega | exact hpre0 _ | (intros; exact trivial) | (intros; exact Nat.zero_le _))) (ai (fun k47 : (bif (bif ((w1.length : Int) == 4) then decide ((F29 (w1.getD (Int.toNat 1) default)) ≥ 0) else false) then (decide (1 ≤ F32 (w1.getD (Int.toNat 2) default) ∧ F32 (w1.getD (Int.toNat 2) default) ≤ 9)) else false) = true => have _ := eq_of_beq (Qh (Qh k47)); have _ := of_decide_eq_true (Qv (Qh k47)); have _ := of_decide_eq_true (Qv k47); (by (first | omega | (rcases Classical.em ((w1.length : Int) = 3) with h3 | h3; omega; (rcases Classical.em ((w1.length : Int) = 5) with h5 | h5; omega; (have e3 : ((w1.length : Int) == 3) = false := beq_eq_false_iff_ne.2 h3; have e5 : ((w1.length : Int) == 5) = false := beq_eq_false_iff_ne.2 h5; simp [e3, e5] at *)))) : 0 ≤ (3 : Int) ∧ (3 : Int) < (w1.length : Int))) (Wm (bif (bif ((w1.length : Int) == 4) then decide ((F29 (w1.getD (Int.toNat 1) default)) ≥ 0) else false) then (decide (1 ≤ F32 (w1.getD (Int.toNat 2) default) ∧ F32 (w1.getD (Int.toNat 2) default) ≤ 9)) else false) true (w1.getD (Int.toNat 3) default) 1 999999 (fun k48 => have _ := eq_of_beq (Qh (Qh k48)); have _ := of_decide_eq_true (Qv (Qh k48)); have _ := of_decide_eq_true (Qv k48); (by first | (have hz : ∀ k : Nat, (w1.getD k default).size ≤ 1048576 := by assumption; exact hz _) | omega | exact hpre0 _ | (intros; exact trivial) | (intros; exact Nat.zero_le _))) (fiB (bif (bif (bif ((w1.length : Int) == 4) then decide ((F29 (w1.getD (Int.toNat 1) default)) ≥ 0) else false) then (decide (1 ≤ F32 (w1.getD (Int.toNat 2) default) ∧ F32 (w1.getD (Int.toNat 2) default) ≤ 9)) else false) then (decide (1 ≤ F32 (w1.getD (Int.toNat 3) default) ∧ F32 (w1.getD (Int.toNat 3) default) ≤ 999999)) else false) (F102 w1) (condF h1 (condF h2 (condF h5 (condF h10 (condF h23 (condF h37 (condT h42 rfl)))))))))))))) (fun h42 => ifb ((w1.getD (Int.toNat 0) default).toList == w5_.toList) (fun h49 => ai (fun k50 : ((w1.length : Int) == 5) = true => have _ := eq_of_beq k50; (by (first | omega | (rcases Classical.em ((w1.length : Int) = 3) with h3 | h3; omega; (rcases Classical.em ((w1.length : Int) = 5) with h5 | h5; omega; (have e3 : ((w1.length : Int) == 3) = false := beq_eq_false_iff_ne.2 h3; have e5 : ((w1.length : Int) == 5) = false := beq_eq_false_iff_ne.2 h5; simp [e3, e5] at *)))) : 0 ≤ (1 : Int) ∧ (1 : Int) < (w1.length : Int))) (Qgd ((w1.length : Int) == 5) true (w1.getD (Int.toNat 1) default) (fun k51 => have _ := eq_of_beq k51; (by first | (have hz : ∀ k : Nat, (w1.getD k default).size ≤ 1048576 := by assumption; exact hz _) | omega | exact hpre0 _ | (intros; exact trivial) | (intros; exact Nat.zero_le _))) (ai (fun k52 : (bif ((w1.length : Int) == 5) then (F126 (w1.getD (Int.toNat 1) default)) else false) = true => have _ := eq_of_beq (Qh k52); (by (first | omega | (rcases Classical.em ((w1.length : Int) = 3) with h3 | h3; omega; (rcases Classical.em ((w1.length : Int) = 5) with h5 | h5; omega; (have e3 : ((w1.length : Int) == 3) = false := beq_eq_false_iff_ne.2 h3; have e5 : ((w1.length : Int) == 5) = false := beq_eq_false_iff_ne.2 h5; simp [e3, e5] at *)))) : 0 ≤ (2 : Int) ∧ (2 : Int) < (w1.length : Int))) (kg29 (bif ((w1.length : Int) == 5) then (F126 (w1.getD (Int.toNat 1) default)) else false) true (w1.getD (Int.toNat 2) default) (fun k53 => have _ := eq_of_beq (Qh k53); (by first | (have hz : ∀ k : Nat, (w1.getD k default).size ≤ 1048576 := by assumption; exact hz _) | omega | exact hpre0 _ | (intros; exact trivial) | (intros; exact Nat.zero_le _))) (ai (fun k54 : (bif (bif ((w1.length : Int) == 5) then (F126 (w1.getD (Int.toNat 1) default)) else false) then decide ((F29 (w1.getD (Int.toNat 2) default)) ≥ 0) else false) = true => have _ := eq_of_beq (Qh (Qh k54)); have _ := of_decide_eq_true (Qv k54); (by (first | omega | (rcases Classical.em ((w1.length : Int) = 3) with h3 | h3; omega; (rcases Classical.em ((w1.length : Int) = 5) with h5 | h5; omega; (have e3 : ((w1.length : Int) == 3) = false := beq_eq_false_iff_ne.2 h3; have e5 : ((w1.length : Int) == 5) = false := beq_eq_false_iff_ne.2 h5; simp [e3, e5] at *)))) : 0 ≤ (3 : Int) ∧ (3 : Int) < (w1.length : Int))) (Wm (bif (bif ((w1.length : Int) == 5) then (F126 (w1.getD (Int.toNat 1) default)) else false) then decide ((F29 (w1.getD (Int.toNat 2) default)) ≥ 0) else false) true (w1.getD (Int.toNat 3) default) 1 65535 (fun k55 => have _ := eq_of_beq (Qh (Qh k55)); have _ := of_decide_eq_true (Qv k55); (by first | (have hz : ∀ k : Nat, (w1.getD k default).size ≤ 1048576 := by assumption; exact hz _) | omega | exact hpre0 _ | (intros; exact trivial) | (intros; exact Nat.zero_le _))) (ai (fun k56 : (bif (bif (bif ((w1.length : Int) == 5) then (F126 (w1.getD (Int.toNat 1) default)) else false) then decide ((F29 (w1.getD (Int.toNat 2) default)) ≥ 0) else false) then (decide (1 ≤ F32 (w1.getD (Int.toNat 3) default) ∧ F32 (w1.getD (Int.toNat 3) default) ≤ 65535)) else false) = true => have _ := eq_of_beq (Qh (Qh (Qh k56))); have _ := of_decide_eq_true (Qv (Qh k56)); have _ := of_decide_eq_true (Qv k56); (by (first | omega | (rcases Classical.em ((w1.length : Int) = 3) with h3 | h3; omega; (rcases Classical.em ((w1.length : Int) = 5) with h5 | h5; omega; (have e3 : ((w1.length : Int) == 3) = false := beq_eq_false_iff_ne.2 h3; have e5 : ((w1.length : Int) == 5) = false := beq_eq_false_iff_ne.2 h5; simp [e3, e5] at *)))) : 0 ≤ (4 : Int) ∧ (4 : Int) < (w1.length : Int))) (Wm (bif (bif (bif ((w1.length : Int) == 5) then (F126 (w1.getD (Int.toNat 1) default)) else false) then decide ((F29 (w1.getD (Int.toNat 2) default)) ≥ 0) else false) then (decide (1 ≤ F32 (w1.getD (Int.toNat 3) default) ∧ F32 (w1.getD (Int.toNat 3) default) ≤ 65535)) else false) true (w1.getD (Int.toNat 4) default) 1 65535 (fun k57 => have _ := eq_of_beq (Qh (Qh (Qh k57))); have _ := of_decide_eq_true (Qv (Qh k57)); have _ := of_decide_eq_true (Qv k57); (by first | (have hz : ∀ k : Nat, (w1.getD k default).size ≤ 1048576 := by assumption; exact hz _) | omega | exact hpre0 _ | (intros; exact trivial) | (intros; exact Nat.zero_le _))) (fiB (bif (bif (bif (bif ((w1.length : Int) == 5) then (F126 (w1.getD (Int.toNat 1) default)) else false) then decide ((F29 (w1.getD (Int.toNat 2) default)) ≥ 0) else false) then (decide (1 ≤ F32 (w1.getD (Int.toNat 3) default) ∧ F32 (w1.getD (Int.toNat 3) default) ≤ 65535)) else false) then (decide (1 ≤ F32 (w1.getD (Int.toNat 4) default) ∧ F32 (w1.getD (Int.toNat 4) default) ≤ 65535)) else false) (F102 w1) (condF h1 (condF h2 (condF h5 (condF h10 (condF h23 (condF h37 (condF h42 (condT h49 rfl))))))))))))))))) (fun h49 => ifb ((w1.getD (Int.toNat 0) default).toList == w3_.toList) (fun h58 => ai (fun k59 : ((w1.length : Int) == 5) = true => have _ := eq_of_beq k59; (by (first | omega | (rcases Classical.em ((w1.length : Int) = 3) with h3 | h3; omega; (rcases Classical.em ((w1.length : Int) = 5) with h5 | h5; omega; (have e3 : ((w1.length : Int) == 3) = false := beq_eq_false_iff_ne.2 h3; have e5 : ((w1.length : Int) == 5) = false := beq_eq_false_iff_ne.2 h5; simp [e3, e5] at *)))) : 0 ≤ (1 : Int) ∧ (1 : Int) < (w1.length : Int))) (Wm ((w1.length : Int) == 5) true (w1.getD (Int.toNat 1) default) 1 7 (fun k60 => have _ := eq_of_beq k60; (by first | (have hz : ∀ k : Nat, (w1.getD k default).size ≤ 1048576 := by assumption; exact hz _) | omega | exact hpre0 _ | (intros; exact trivial) | (intros; exact Nat.zero_le _))) (ai (fun k61 : (bif ((w1.length : Int) == 5) then (decide (1 ≤ F32 (w1.getD (Int.toNat 1) default) ∧ F32 (w1.getD (Int.toNat 1) default) ≤ 7)) else false) = true => have _ := eq_of_beq (Qh k61); have _ := of_decide_eq_true (Qv k61); (by (first | omega | (rcases Classical.em ((w1.length : Int) = 3) with h3 | h3; omega; (rcases Classical.em ((w1.length : Int) = 5) with h5 | h5; omega; (have e3 : ((w1.length : Int) == 3) = false := beq_eq_false_iff_ne.2 h3; have e5 : ((w1.length : Int) == 5) = false := beq_eq_false_iff_ne.2 h5; simp [e3, e5] at *)))) : 0 ≤ (2 : Int) ∧ (2 : Int) < (w1.length : Int))) (Wm (bif ((w1.length : Int) == 5) then (decide (1 ≤ F32 (w1.getD (Int.toNat 1) default) ∧ F32 (w1.getD (Int.toNat 1) default) ≤ 7)) else false) true (w1.getD (Int.toNat 2) default) 1 65535 (fun k62 => have _ := eq_of_beq (Qh k62); have _ := of_decide_eq_true (Qv k62); (by first | (have hz : ∀ k : Nat, (w1.getD k default).size ≤ 1048576 := by assumption; exact hz _) | omega | exact hpre0 _ | (intros; exact trivial) | (intros; exact Nat.zero_le _))) (ai (fun k63 : (bif (bif ((w1.length : Int) == 5) then (decide (1 ≤ F32 (w1.getD (Int.toNat 1) default) ∧ F32 (w1.getD (Int.toNat 1) default) ≤ 7)) else false) then (decide (1 ≤ F32 (w1.getD (Int.toNat 2) default) ∧ F32 (w1.getD (Int.toNat 2) default) ≤ 65535)) else false) = true => have _ := eq_of_beq (Qh (Qh k63)); have _ := of_decide_eq_true (Qv (Qh k63)); have _ := of_decide_eq_true (Qv k63); (by (first | omega | (rcases Classical.em ((w1.length : Int) = 3) with h3 | h3; omega; (rcases Classical.em ((w1.length : Int) = 5) with h5 | h5; omega; (have e3 : ((w1.length : Int) == 3) = false := beq_eq_false_iff_ne.2 h3; have e5 : ((w1.length : Int) == 5) = false := beq_eq_false_iff_ne.2 h5; simp [e3, e5] at *)))) : 0 ≤ (3 : Int) ∧ (3 : Int) < (w1.length : Int))) (kg29 (bif (bif ((w1.length : Int) == 5) then (decide (1 ≤ F32 (w1.getD (Int.toNat 1) default) ∧ F32 (w1.getD (Int.toNat 1) default) ≤ 7)) else false) then (decide (1 ≤ F32 (w1.getD (Int.toNat 2) default) ∧ F32 (w1.getD (Int.toNat 2) default) ≤ 65535)) else false) true (w1.getD (Int.toNat 3) default) (fun k64 => have _ := eq_of_beq (Qh (Qh k64)); have _ := of_decide_eq_true (Qv (Qh k64)); have _ := of_decide_eq_true (Qv k64); (by first | (have hz : ∀ k : Nat, (w1.getD k default).size ≤ 1048576 := by assumption; exact hz _) | omega | exact hpre0 _ | (intros; exact trivial) | (intros; exact Nat.zero_le _))) (ai (fun k65 : (bif (bif (bif ((w1.length : Int) == 5) then (decide (1 ≤ F32 (w1.getD (Int.toNat 1) default) ∧ F32 (w1.getD (Int.toNat 1) default) ≤ 7)) else false) then (decide (1 ≤ F32 (w1.getD (Int.toNat 2) default) ∧ F32 (w1.getD (Int.toNat 2) default) ≤ 65535)) else false) then decide ((F29 (w1.getD (Int.toNat 3) default)) ≥ 0) else false) = true => have _ := eq_of_beq (Qh (Qh (Qh k65))); have _ := of_decide_eq_true (Qv (Qh (Qh k65))); have _ := of_decide_eq_true (Qv (Qh k65)); have _ := of_decide_eq_true (Qv k65); (by (first | omega | (rcases Classical.em ((w1.length : Int) = 3) with h3 | h3; omega; (rcases Classical.em ((w1.length : Int) = 5) with h5 | h5; omega; (have e3 : ((w1.length : Int) == 3) = false := beq_eq_false_iff_ne.2 h3; have e5 : ((w1.length : Int) == 5) = false := beq_eq_false_iff_ne.2 h5; simp [e3, e5] at *)))) : 0 ≤ (4 : Int) ∧ (4 : Int) < (w1.length : Int))) (Wm (bif (bif (bif ((w1.length : Int) == 5) then (decide (1 ≤ F32 (w1.getD (Int.toNat 1) default) ∧ F32 (w1.getD (Int.toNat 1) default) ≤ 7)) else false) then (decide (1 ≤ F32 (w1.getD (Int.toNat 2) default) ∧ F32 (w1.getD (Int.toNat 2) default) ≤ 65535)) else false) then decide ((F29 (w1.getD (Int.toNat 3) default)) ≥ 0) else false) true (w1.getD (Int.toNat 4) default) 1 65535 (fun k66 => have _ := eq_of_beq (Qh (Qh (Qh k66))); have _ := of_decide_eq_true (Qv (Qh (Qh k66))); have _ := of_decide_eq_true (Qv (Qh k66)); have _ := of_decide_eq_true (Qv k66); (by first | (have hz : ∀ k : Nat, (w1.getD k default).size ≤ 1048576 := by assumption; exact hz _) | omega | exact hpre0 _ | (intros; exact trivial) | (intros; exact Nat.zero_le _))) (fiB (bif (bif (bif (bif ((w1.length : Int) == 5) then (decide (1 ≤ F32 (w1.getD (Int.toNat 1) default) ∧ F32 (w1.getD (Int.toNat 1) default) ≤ 7)) else false) then (decide (1 ≤ F32 (w1.getD (Int.toNat 2) default) ∧ F32 (w1.getD (Int.toNat 2) default) ≤ 65535)) else false) then decide ((F29 (w1.getD (Int.toNat 3) default)) ≥ 0) else false) then (decide (1 ≤ F32 (w1.getD (Int.toNat 4) default) ∧ F32 (w1.getD (Int.toNat 4) default) ≤ 65535)) else false) (F102 w1) (condF h1 (condF h2 (condF h5 (condF h10 (condF h23 (condF h37 (condF h42 (condF h49 (condT h58 rfl)))))))))))))))))) (fun h58 => fiB false (F102 w1) (condF h1 (condF h2 (condF h5 (condF h10 (condF h23 (condF h37 (condF h42 (condF h49 (condF h58 rfl)))))))))))))))))))) (by kernel_rfl)
def Zh (list : List ByteArray) (with' : ByteArray) : (ByteArray × Int) → Lp (ByteArray × Int) ByteArray := fun (out, i40) =>
 bif (decide (i40 < (list.length : Int))) then (bif (decide (i40 > 0)) then (.next (((out ++ with') ++ (list.getD (Int.toNat i40) default)), (i40 + 1))) else (.next ((out ++ (list.getD (Int.toNat i40) default)), (i40 + 1)))) else (.done (out, i40))
def F103 (list : List ByteArray) (with' : ByteArray) : ByteArray :=
 (runL (Zh list with') ((Int.toNat ((list.length : Int) - 0)) + 1) ((⟨#[]⟩ : ByteArray), 0)).fin (fun r => r) (fun (out, i40) => out)
abbrev Hk (list : List ByteArray) : Nat × (ByteArray × Int) := (((Int.toNat ((list.length : Int) - 0)) + 1), (w13_, 0))
abbrev Qdh (list : List ByteArray) (m39 : Nat) (out : ByteArray) (i40 : Int) : Prop := Int.toNat ((list.length : Int) - i40) < m39 ∧ (out.size : Int) ≤ i40 * 1048577 ∧ (0 : Int) ≤ i40
abbrev Qld (list : List ByteArray) (with' : ByteArray) : Lp (ByteArray × Int) ByteArray := LpX (Zh list with') (Hk list)
abbrev Hl (list : List ByteArray) (with' : ByteArray) (i : Nat × (ByteArray × Int)) : Prop := LpJ (Zh list with') (Hk list) i (Qdh list i.1 i.2.1 i.2.2)
abbrev Qlj (list : List ByteArray) (with' : ByteArray) (i : Nat × (ByteArray × Int)) (m39 : Nat) (out : ByteArray) (i40 : Int) : Prop := LpH (Zh list with') (Hk list) i m39 (out, i40) (Qdh list (m39 + 1) out i40)
abbrev Qlz (list : List ByteArray) (with' : ByteArray) (out : ByteArray) (i40 : Int) (out_ : ByteArray) (i40_ : Int) (K39 : Prop) : Prop := (Rf (.string with')) ∧ ((.string out : Value) = .string out_) ∧ ((.int .i64 i40 : Value) = .int .i64 i40_) ∧ (Im (.l 1 eStr list)) ∧ K39
theorem Qwp (list : List ByteArray) (with' : ByteArray) (i : Nat × (ByteArray × Int)) (h : Hl list with' i) : Qlj list with' i (i.1 - 1) i.2.1 i.2.2 := ⟨hd1 h.1 h.2.1, hd3 h.2.1, hd2 h.2.1, h.2.2⟩
theorem Qks (list : List ByteArray) (with' : ByteArray) (i : Nat × (ByteArray × Int)) (m39 : Nat) (out : ByteArray) (i40 : Int) (hl : m39 < i.1) (e : runL (Zh list with') m39 (out, i40) = Qld list with') (h : Qdh list m39 out i40) : ∃ j : Nat × (ByteArray × Int), Qlz list with' out i40 j.2.1 j.2.2 (Hl list with' j ∧ j.1 < i.1) := ⟨(m39, (out, i40)), rfl, rfl, rfl, Imp.refl _, ⟨e, h⟩, hl⟩
theorem Qwz (list : List ByteArray) (with' : ByteArray) (h : (w13_.size : Int) ≤ 0 * 1048577 ∧ (0 : Int) ≤ 0) : Qlz list with' w13_ 0 w13_ 0 (Hl list with' (Hk list)) := ⟨rfl, rfl, rfl, Imp.refl _, rfl, Nat.lt_succ_self _, h⟩
def S103 (list : List ByteArray) (with' : ByteArray) : Spec := ⟨[.r (.c (.l 1 eStr list)), .r (.c (.v (.string with')))], .v (.string (F103 list with')), list.length ≤ 8 ∧ (∀ k : Nat, (list.getD k default).size ≤ 1048576) ∧ with'.size ≤ 1⟩
theorem ok103 (list : List ByteArray) (with' : ByteArray) : (S103 list with').ok Tryz.prog 103 :=
 Ql mixed (fn := Tryz.f103) (ct := .seqk [(0, 0)] .no (.seq .no (.seq (.seqk [(0, 0)] .no (.blk (.loop (ι := Nat × (ByteArray × Int)) (fun i => (fun (out : ByteArray) (i40 : Int) => (⟨[(0, some (.h 0 0)), (1, some (.v (.string with'))), (5, some (.v (.string out))), (6, some (.v (vI i40)))], [(0, some (.shr none (.l 1 eStr list)))], 1⟩ : St)) i.2.1 i.2.2) (Hl list with') (fun i => i.1) (Hk list) (fun i => (fun (out : ByteArray) (i40 : Int) => (.seq (.seq .no (.cond .no .no)) (.seq (.blk (.seq (.seq .no (.cond .no .no)) .no)) (.reg [(1, .bnd)])))) i.2.1 i.2.2)))) (.seq .no .no)))) Tryz.func103 (fun (hp : list.length ≤ 8 ∧ (∀ k : Nat, (list.getD k default).size ≤ 1048576) ∧ with'.size ≤ 1) => have hpre0 := hp.1; have hpre1 := hp.2.1; have hpre2 := hp.2.2; kn list fun _ => kn list fun _ => ai (Qwz list with' (by refine ⟨?_, ?_⟩ <;> first | omega | (simp only [lens, ib] at * <;> omega) | ((try simp only [Qi, sz0] at *); omega) | (have hz := (by assumption : ∀ k : Nat, (list.getD k default).size ≤ 1048576) (Int.toNat i40); (try simp only [Qi, sz0] at *); omega))) (fun (i0 : Nat × (ByteArray × Int)) (hi0 : Hl list with' i0) => (fun (m0 : Nat) (out : ByteArray) (i40 : Int) (hh0 : Qlj list with' i0 m0 out i40) => have hI0 := hh0.1; have hl0 := hh0.2.1; have _ := hh0.2.2.1; have _ := hh0.2.2.2; ifd (i40 < (list.length : Int)) (fun h2 _ => ifd (i40 > 0) (fun h3 _ => ai (by have hz := (by assumption : ∀ k : Nat, (list.getD k default).size ≤ 1048576) (Int.toNat i40); (try simp only [Qi, sz0] at *); omega : ((out.size + with'.size : Nat) : Int) ≤ 9223372036854775807) (ai (by first | omega | (simp only [lens, ib] at * <;> omega) : ib i40 list) (ai (by have hz := (by assumption : ∀ k : Nat, (list.getD k default).size ≤ 1048576) (Int.toNat i40); (try simp only [Qi, sz0] at *); omega : (((out ++ with').size + (list.getD (Int.toNat i40) default).size : Nat) : Int) ≤ 9223372036854775807) (ai (iok (i40 + 1) (by first | omega | (simp only [lens, ib] at * <;> omega))) (Qks list with' i0 m0 ((out ++ with') ++ (list.getD (Int.toNat i40) default)) (i40 + 1) hl0 (Qe hI0 (condT h2 (condT h3 rfl))) (by refine ⟨?_, ?_, ?_⟩ <;> first | omega | (simp only [lens, ib] at * <;> omega) | ((try simp only [Qi, sz0] at *); omega) | (have hz := (by assumption : ∀ k : Nat, (list.getD k default).size ≤ 1048576) (Int.toNat i40); (try simp only [Qi, sz0] at *); omega))))))) (fun h3 _ => ai (by first | omega | (simp only [lens, ib] at * <;> omega) : ib i40 list) (ai (by have hz := (by assumption : ∀ k : Nat, (list.getD k default).size ≤ 1048576) (Int.toNat i40); (try simp only [Qi, sz0] at *); omega : ((out.size + (list.getD (Int.toNat i40) default).size : Nat) : Int) ≤ 9223372036854775807) (ai (iok (i40 + 1) (by first | omega | (simp only [lens, ib] at * <;> omega))) (Qks list with' i0 m0 (out ++ (list.getD (Int.toNat i40) default)) (i40 + 1) hl0 (Qe hI0 (condT h2 (condF h3 rfl))) (by refine ⟨?_, ?_, ?_⟩ <;> first | omega | (simp only [lens, ib] at * <;> omega) | ((try simp only [Qi, sz0] at *); omega) | (have hz := (by assumption : ∀ k : Nat, (list.getD k default).size ≤ 1048576) (Int.toNat i40); (try simp only [Qi, sz0] at *); omega))))))) (fun h2 _ => have hD0_4 : Qld list with' = Lp.done (out, i40) := Qk hI0 (condF h2 rfl); fiS out (F103 list with') (finD hD0_4 rfl))) (i0.1 - 1) i0.2.1 i0.2.2 (Qwp list with' i0 hi0))) (by kernel_rfl)
def Zq (b : UInt8) : Bool := decide (48 ≤ b.toNat ∧ b.toNat ≤ 57)
def valL (acc : Nat) (l : List UInt8) : Nat := l.foldl (fun a b => a * 10 + (b.toNat - 48)) acc
theorem Qat (acc : Nat) (l : List UInt8) (b : UInt8) : valL acc (l ++ [b]) = valL acc l * 10 + (b.toNat - 48) := by
 simp [valL, List.foldl_append]
def Zd (l : List UInt8) : Bool := !l.isEmpty && l.all Zq && !(decide (l.length > 1) && (l.getD 0 0 == 48))
theorem Qko : ∀ (l : List UInt8) (acc : Nat), acc ≤ valL acc l
 | [], acc => Nat.le_refl _
 | b :: l, acc => Nat.le_trans (by omega) (Qko l (acc * 10 + (b.toNat - 48)))
theorem Wb {b : UInt8} (h : Zq b = true) : 48 ≤ b.toNat ∧ b.toNat ≤ 57 := of_decide_eq_true h
theorem Qbs {b : UInt8} (h : Zq b = true) : UInt8.ofNat (48 + (b.toNat - 48)) = b := by
 have := Wb h
 rw [show 48 + (b.toNat - 48) = b.toNat by omega]
 exact UInt8.ofNat_toNat
theorem Qaq {b : UInt8} {l : List UInt8} (h : Zd (b :: l) = true) (hl : l ≠ []) : 1 ≤ valL 0 (b :: l) := by
 unfold Zd at h
 simp only [Bool.and_eq_true, Bool.not_eq_true', List.all_cons] at h
 obtain ⟨⟨_, hb, _⟩, h0⟩ := h
 have hd := Wb hb
 have hlen : decide ((b :: l).length > 1) = true := decide_eq_true (by
  cases l with
  | nil => exact absurd rfl hl
  | cons a l => simp)
 rw [hlen, Bool.true_and] at h0
 have hne : b ≠ 48 := by
  have : (b == 48) = false := h0
  exact beq_eq_false_iff_ne.1 this
 have h48 : b.toNat ≠ 48 := fun e => hne (UInt8.toNat_inj.1 e)
 refine Nat.le_trans ?_ (Qko l (0 * 10 + (b.toNat - 48)))
 omega
theorem Qny {l : List UInt8} {b : UInt8} (hl : l ≠ []) (h : Zd (l ++ [b]) = true) : Zd l = true := by
 unfold Zd at h ⊢
 simp only [Bool.and_eq_true, Bool.not_eq_true', List.all_append] at h ⊢
 obtain ⟨⟨_, ha, _⟩, h0⟩ := h
 cases l with
 | nil => exact absurd rfl hl
 | cons a l =>
  refine ⟨⟨rfl, ha⟩, ?_⟩
  have hlen : decide ((a :: l ++ [b]).length > 1) = true := decide_eq_true (by simp)
  rw [hlen, Bool.true_and] at h0
  have : (a == 48) = false := h0
  have e : ((a :: l).getD 0 0 == (48 : UInt8)) = false := this
  rw [e, Bool.and_false]
theorem Qkw : ∀ (n : Nat) (l : List UInt8), l.length = n → Zd l = true → Lib.decDigits (valL 0 l) = l
 | 0, l, hn, h => by
  rw [List.length_eq_zero_iff.1 hn] at h; cases h
 | n + 1, l, hn, h => by
  have hne : l ≠ [] := fun e => by rw [e] at hn; cases hn
  obtain ⟨i, b, rfl⟩ : ∃ i b, l = i ++ [b] := ⟨l.dropLast, l.getLast hne, (List.dropLast_concat_getLast hne).symm⟩
  have hdb : Zq b = true := by
   unfold Zd at h
   simp only [Bool.and_eq_true, List.all_append, List.all_cons] at h
   exact h.1.2.2.1
  have hb := Wb hdb
  rw [Qat]
  by_cases hi : i = []
  ·subst hi
   have e : valL 0 ([] : List UInt8) * 10 + (b.toNat - 48) = b.toNat - 48 := by simp [valL]
   rw [e, Lib.decDigits_one (by omega), Qbs hdb]; rfl
  ·have hin := Qny hi h
   have hpos : 1 ≤ valL 0 i * 10 + (b.toNat - 48) := by
    cases i with
    | nil => exact absurd rfl hi
    | cons a i =>
     have := Qaq (b := a) (l := i ++ [b]) h (by simp)
     have e := Qat 0 (a :: i) b
     rw [List.cons_append] at e
     omega
   have hip : 1 ≤ valL 0 i := by
    cases i with
    | nil => exact absurd rfl hi
    | cons a i =>
     by_cases hi2 : i = []
     ·subst hi2
      have h0 := h
      unfold Zd at h0
      simp only [Bool.and_eq_true, Bool.not_eq_true', List.all_append, List.all_cons] at h0
      have hd := Wb h0.1.2.1.1
      have h1 : (a == 48) = false := by
       have := h0.2
       rw [show decide (([a] ++ [b]).length > 1) = true from rfl, Bool.true_and] at this
       exact this
      have h48 : a.toNat ≠ 48 := fun e => beq_eq_false_iff_ne.1 h1 (UInt8.toNat_inj.1 e)
      simp only [valL, List.foldl_cons, List.foldl_nil]
      omega
     ·exact Qaq hin hi2
   rw [Lib.decDigits, dif_neg (by omega)]
   have e1 : (valL 0 i * 10 + (b.toNat - 48)) / 10 = valL 0 i := by omega
   have e2 : (valL 0 i * 10 + (b.toNat - 48)) % 10 = b.toNat - 48 := by omega
   have hlen : i.length = n := by
    rw [List.length_append] at hn
    simpa using hn
   rw [e1, e2, Qkw n i hlen hin, Qbs hdb]
theorem Qlm (u : Nat) (h : u < 10) : Zq (UInt8.ofNat (48 + u)) = true := by
 unfold Zq
 rw [UInt8.toNat_ofNat']
 exact decide_eq_true (by omega)
theorem Qaf : ∀ (n u : Nat), u ≤ n → Lib.decDigits u ≠ [] ∧ (Lib.decDigits u).all Zq = true ∧ (1 ≤ u → (Lib.decDigits u).getD 0 0 ≠ 48)
 | n, u, hu => by
  by_cases h : u < 10
  ·rw [Lib.decDigits_one h]
   refine ⟨by simp, by rw [List.all_cons, Qlm u h]; rfl, fun h1 e => ?_⟩
   have e1 : UInt8.ofNat (48 + u) = 48 := e
   have := congrArg UInt8.toNat e1
   rw [UInt8.toNat_ofNat'] at this
   have h48 : (48 : UInt8).toNat = 48 := rfl
   omega
  ·cases n with
   | zero => omega
   | succ n =>
    obtain ⟨h1, h2, h3⟩ := Qaf n (u / 10) (by omega)
    rw [Lib.decDigits, dif_neg h]
    refine ⟨by simp, by rw [List.all_append, h2, List.all_cons, Qlm _ (by omega)]; rfl, fun _ => ?_⟩
    cases hd : Lib.decDigits (u / 10) with
    | nil => exact absurd hd h1
    | cons a l =>
     rw [hd] at h3
     exact h3 (by omega)
theorem Qod (u : Nat) : Zd (Lib.decDigits u) = true := by
 obtain ⟨h1, h2, h3⟩ := Qaf u u (Nat.le_refl _)
 unfold Zd
 have e1 : (Lib.decDigits u).isEmpty = false := by
  cases hd : Lib.decDigits u with
  | nil => exact absurd hd h1
  | cons a l => rfl
 rw [e1, h2]
 by_cases hu : 1 ≤ u
 ·have e : ((Lib.decDigits u).getD 0 0 == (48 : UInt8)) = false := beq_eq_false_iff_ne.2 (h3 hu)
  rw [e, Bool.and_false]; rfl
 ·have e : Lib.decDigits u = [UInt8.ofNat (48 + u)] := Lib.decDigits_one (by omega)
  rw [e]; rfl
theorem Qbf : ∀ (l : List UInt8) (acc : Nat), l.all Zq = true → (acc + 1) * 10 ^ l.length ≤ 1000000000000000000 → Lib.parseUint10 acc l = .ok (valL acc l)
 | [], acc, _, _ => rfl
 | b :: l, acc, h, hb => by
  rw [List.all_cons, Bool.and_eq_true] at h
  have hd := Wb h.1
  have hp : 1 ≤ 10 ^ l.length := Nat.one_le_pow _ _ (by omega)
  have e : (acc + 1) * 10 ^ (b :: l).length = ((acc + 1) * 10) * 10 ^ l.length := by
   rw [List.length_cons, Nat.pow_succ, Nat.mul_comm (10 ^ l.length) 10, Nat.mul_assoc]
  rw [e] at hb
  have h1 : (acc + 1) * 10 ≤ 1000000000000000000 := Nat.le_trans (Nat.le_mul_of_pos_right _ hp) hb
  rw [Lib.parseUint10, if_pos hd, if_neg (by omega), if_neg (by omega)]
  exact Qbf l _ h.2 (Nat.le_trans (Nat.mul_le_mul_right _ (by omega)) hb)
theorem Qdg : ∀ (l : List UInt8) (acc : Nat), l.all Zq = true → valL acc l < (acc + 1) * 10 ^ l.length
 | [], acc, _ => by simp [valL]
 | b :: l, acc, h => by
  rw [List.all_cons, Bool.and_eq_true] at h
  have hd := Wb h.1
  have e : (acc + 1) * 10 ^ (b :: l).length = ((acc + 1) * 10) * 10 ^ l.length := by
   rw [List.length_cons, Nat.pow_succ, Nat.mul_comm (10 ^ l.length) 10, Nat.mul_assoc]
  rw [e]
  exact Nat.lt_of_lt_of_le (Qdg l (acc * 10 + (b.toNat - 48)) h.2) (Nat.mul_le_mul_right _ (by omega))
def num6 (l : List UInt8) : Int := bif Zd l && decide (l.length ≤ 6) then (valL 0 l : Int) else -1
theorem Qcz (v : Int) (h : 0 ≤ v) : Lib.itoa v = Lib.decDigits v.toNat := by
 unfold Lib.itoa
 rw [if_neg (by omega)]
theorem Hj (s : ByteArray) (h : s.size ≤ 6) : decN s = num6 s.data.toList := by
 have hl : s.data.toList.length = s.size := Array.length_toList
 unfold num6
 rw [decide_eq_true (show s.data.toList.length ≤ 6 by omega), Bool.and_true]
 cases hn : Zd s.data.toList with
 | true =>
  have hd := Qkw _ _ rfl hn
  have hn2 := hn
  unfold Zd at hn2
  simp only [Bool.and_eq_true] at hn2
  have hall := hn2.1.2
  have hp := Qbf s.data.toList 0 hall (by
   have : 10 ^ s.data.toList.length ≤ 10 ^ 6 := Nat.pow_le_pow_right (by omega) (by omega)
   omega)
  unfold decN
  cases hs : s.data.toList with
  | nil => rw [hs] at hn; cases hn
  | cons b l =>
   rw [hs] at hall hp hd
   have hb := Wb (List.all_eq_true.1 hall b List.mem_cons_self)
   have hlt := Lib.parseUint10_lt _ 0 _ (by omega) hp
   have hsmall : valL 0 (b :: l) < 9223372036854775808 := by
    have h1 := Qdg (b :: l) 0 hall
    have h2 : 10 ^ (b :: l).length ≤ 10 ^ 6 := Nat.pow_le_pow_right (by omega) (by rw [← hs]; omega)
    omega
   have ea : Lib.atoiAll (b :: l) = .ok (valL 0 (b :: l) : Int) := by
    unfold Lib.atoiAll
    simp only [if_neg (show ¬ (b.toNat = 43 ∨ b.toNat = 45) by omega), Lib.parseMag, if_neg (show ¬ (b :: l = []) by simp), hp]
    rw [if_neg (by omega), if_neg (by omega), if_neg (by omega)]
   rw [ea]
   have ei : Lib.itoa (valL 0 (b :: l) : Int) = b :: l := by
    rw [Qcz _ (by omega), Int.toNat_natCast, hd]
   simp only [ei]
   rw [decide_eq_true (by omega)]
   simp
 | false =>
  unfold decN
  cases ha : Lib.atoiAll s.data.toList with
  | ok v =>
   by_cases h0 : 0 ≤ v
   ·have e : (Lib.itoa v == s.data.toList) = false := by
     rw [beq_eq_false_iff_ne]
     intro e
     rw [Qcz v h0] at e
     rw [← e, Qod] at hn
     cases hn
    simp only [e, Bool.and_false]; rfl
   ·simp only [decide_eq_false h0, Bool.false_and]; rfl
  | _ => rfl
theorem u8sub (b : UInt8) (h : Zq b = true) : IntKind.i64.wrap (IntKind.u8.wrap ((b.toNat : Int) - 48)) = ((b.toNat - 48 : Nat) : Int) := by
 have hd := Wb h
 have e : IntKind.u8.wrap ((b.toNat : Int) - 48) = ((b.toNat : Int) - 48) % 256 := by
  simp [IntKind.wrap, IntKind.signed, IntKind.bits]
 rw [e, Zb (by omega) (by omega)]
 omega
theorem Qwc (b : UInt8) : decide ((48 : Int) ≤ (b.toNat : Int) ∧ (b.toNat : Int) ≤ 57) = Zq b := by
 unfold Zq
 congr 1
 exact propext ⟨fun h => by omega, fun h => by omega⟩
theorem Qtt (s : ByteArray) (a i : Nat) (hi : i < s.size) (ha : a ≤ 100000000) (b : UInt8) (hb : s.data.toList.getD i 0 = b) : Wy s ((a : Int), (i : Int)) =
  if Zq b = false then .ret (-1) else .next (((a * 10 + (b.toNat - 48) : Nat) : Int), ((i + 1 : Nat) : Int)) := by
 simp only [Wy, decide_eq_true (show (i : Int) < (s.size : Int) by omega), cond_true, Int.toNat_natCast, Zm, hb, Qch, Qwc]
 cases hd : Zq b with
 | false => rfl
 | true =>
  have h1 := Wb hd
  rw [u8sub b hd, Zb (n := (a : Int) * 10) (by omega) (by omega), Zb (by omega) (by omega)]
  simp only [Bool.not_true, cond_false, Bool.true_eq_false, if_false]
  congr 2
theorem Qet (s : ByteArray) : ∀ (m i a : Nat), i + m = s.size → (a + 1) * 10 ^ m ≤ 10000000 → ∀ fuel, m < fuel →
  (runL (Wy s) fuel ((a : Int), (i : Int))).fin (fun r => r) (fun (n, i40) => n) = bif (s.data.toList.drop i).all Zq then (valL a (s.data.toList.drop i) : Int) else -1
 | m, i, a, _, _, 0, hf => absurd hf (Nat.not_lt_zero _)
 | 0, i, a, h, _, fuel + 1, hf => by
  have hl : s.data.toList.length = s.size := Array.length_toList
  have hst : Wy s ((a : Int), (i : Int)) = .done ((a : Int), (i : Int)) := by
   simp only [Wy, decide_eq_false (show ¬ (i : Int) < (s.size : Int) by omega), cond_false]
  rw [Kd _ hst, List.drop_of_length_le (by omega)]
  rfl
 | m + 1, i, a, h, ha, fuel + 1, hf => by
  have hl : s.data.toList.length = s.size := Array.length_toList
  have hb : s.data.toList.drop i = s.data.toList.getD i 0 :: s.data.toList.drop (i + 1) := by
   rw [List.drop_eq_getElem_cons (by omega), List.getD_eq_getElem?_getD, List.getElem?_eq_getElem (by omega)]; rfl
  have hp : 1 ≤ 10 ^ m := Nat.one_le_pow _ _ (by omega)
  have e : (a + 1) * 10 ^ (m + 1) = ((a + 1) * 10) * 10 ^ m := by
   rw [Nat.pow_succ, Nat.mul_comm (10 ^ m) 10, Nat.mul_assoc]
  rw [e] at ha
  have h1 : (a + 1) * 10 ≤ 10000000 := Nat.le_trans (Nat.le_mul_of_pos_right _ hp) ha
  have hst := Qtt s a i (by omega) (by omega) _ rfl
  rw [hb, List.all_cons]
  generalize s.data.toList.getD i 0 = b at hst ⊢
  by_cases hd : Zq b = false
  ·rw [if_pos hd] at hst
   rw [Zf _ hst, hd]; rfl
  ·rw [if_neg hd] at hst
   have hd' : Zq b = true := by simpa using hd
   have hg := Wb hd'
   rw [Ux _ hst, Qet s m (i + 1) _ (by omega) (Nat.le_trans (Nat.mul_le_mul_right _ (by omega)) ha) fuel (by omega), hd', Bool.true_and]
   rfl
theorem Bo (s : ByteArray) : F32 s = num6 s.data.toList := by
 have hl : s.data.toList.length = s.size := Array.length_toList
 unfold F32 num6
 by_cases h1 : (1 : Int) ≤ (s.size : Int) ∧ (s.size : Int) ≤ 6
 ·rw [decide_eq_true h1, decide_eq_true (show s.data.toList.length ≤ 6 by omega), Bool.and_true, Bool.not_true, cond_false, Zm]
  have hp : (0 + 1) * 10 ^ s.size ≤ 10000000 := by
   have : 10 ^ s.size ≤ 10 ^ 6 := Nat.pow_le_pow_right (by omega) (by omega)
   omega
  have hlp := Qet s s.size 0 0 (by omega) hp (Int.toNat ((s.size : Int) - 0) + 1) (by omega)
  rw [List.drop_zero] at hlp
  have hne : s.data.toList.isEmpty = false := by
   cases hs : s.data.toList with
   | nil => rw [hs] at hl; simp only [List.length_nil] at hl; omega
   | cons b l => rfl
  have e48 := Qkv (s.data.toList.getD 0 0) 48
  have h48 : ((48 : UInt8).toNat : Int) = 48 := rfl
  rw [h48] at e48
  have e0 : (Int.toNat 0) = 0 := rfl
  rw [e0, e48, Zd, hne]
  have eq : (s.data.toList.getD 0 0 == (48 : UInt8)) = decide (s.data.toList.getD 0 0 = 48) := by
   cases h : decide (s.data.toList.getD 0 0 = 48) with
   | true => exact beq_iff_eq.2 (of_decide_eq_true h)
   | false => exact beq_eq_false_iff_ne.2 (of_decide_eq_false h)
  rw [eq]
  have eg : decide ((s.size : Int) > 1) = decide (s.data.toList.length > 1) := by
   by_cases hg : s.size > 1
   ·rw [decide_eq_true (by omega), decide_eq_true (by omega)]
   ·rw [decide_eq_false (by omega), decide_eq_false (by omega)]
  rw [eg]
  refine (congrArg (fun z => bif (bif decide (s.data.toList.length > 1) then decide (s.data.toList.getD 0 0 = 48) else false) then (-1 : Int) else z) hlp).trans ?_
  cases decide (s.data.toList.length > 1) <;> cases decide (s.data.toList.getD 0 0 = 48) <;> cases s.data.toList.all Zq <;> rfl
 ·rw [decide_eq_false h1, Bool.not_false, cond_true, cond_true]
  by_cases h6 : s.data.toList.length ≤ 6
  ·have hz : s.data.toList = [] := List.length_eq_zero_iff.1 (by omega)
   rw [hz]; rfl
  ·rw [decide_eq_false h6, Bool.and_false]; rfl
theorem Qlr : ∀ (k u : Nat), u < 10 ^ (k + 1) → (Lib.decDigits u).length ≤ k + 1
 | 0, u, h => by
  rw [Lib.decDigits_one (by simpa using h)]; exact Nat.le_refl _
 | k + 1, u, h => by
  by_cases hu : u < 10
  ·rw [Lib.decDigits_one hu]; exact Nat.succ_le_succ (Nat.zero_le _)
  ·have h1 : u / 10 < 10 ^ (k + 1) := by
    rw [Nat.pow_succ] at h
    exact Nat.div_lt_of_lt_mul (by rw [Nat.mul_comm]; exact h)
   rw [Lib.decDigits, dif_neg hu, List.length_append]
   exact Nat.succ_le_succ (Qlr k _ h1)
theorem Bl (s : ByteArray) : decN s = -1 ∨ ∃ u : Nat, decN s = (u : Int) ∧ Lib.decDigits u = s.data.toList := by
 unfold decN
 cases ha : Lib.atoiAll s.data.toList with
 | ok v =>
  by_cases h0 : 0 ≤ v
  ·cases he : (Lib.itoa v == s.data.toList) with
   | true =>
    refine .inr ⟨v.toNat, ?_, ?_⟩
    ·simp only [decide_eq_true h0, he, Bool.and_true, cond_true]
     omega
    ·rw [← Qcz v h0]; exact beq_iff_eq.1 he
   | false => refine .inl ?_; simp only [he, Bool.and_false]; rfl
  ·refine .inl ?_; simp only [decide_eq_false h0, Bool.false_and]; rfl
 | _ => exact .inl rfl
theorem Qew (s : ByteArray) (h : decN s ≤ 999999) : decN s = num6 s.data.toList := by
 have hl : s.data.toList.length = s.size := Array.length_toList
 by_cases hs : s.size ≤ 6
 ·exact Hj s hs
 ·have e : num6 s.data.toList = -1 := by
   unfold num6
   rw [decide_eq_false (show ¬ s.data.toList.length ≤ 6 by omega), Bool.and_false]; rfl
  rw [e]
  rcases Bl s with h1 | ⟨u, h1, h2⟩
  ·exact h1
  ·have h3 := Qlr 5 u (by rw [h1] at h; have : 10 ^ (5 + 1) = 1000000 := rfl; omega)
   rw [h2] at h3
   omega
theorem Qmf (l : List UInt8) : num6 l ≤ 999999 := by
 unfold num6
 cases h : Zd l && decide (l.length ≤ 6) with
 | false => rw [cond_false]; omega
 | true =>
  rw [cond_true]
  rw [Bool.and_eq_true] at h
  have hn := h.1
  unfold Zd at hn
  simp only [Bool.and_eq_true] at hn
  have h1 := Qdg l 0 hn.1.2
  have h2 : 10 ^ l.length ≤ 10 ^ 6 := Nat.pow_le_pow_right (by omega) (of_decide_eq_true h.2)
  omega
def Yb (v : Int) : Bool := decide (0 ≤ v ∧ v ≤ 255)
def addr2 : List (List UInt8) → Int
 | [a, b] => bif Yb (num6 a) && Yb (num6 b) then 256 * num6 a + num6 b else -1
 | _ => -1
def Yl (l : List UInt8) : Int := addr2 (Qx 46 l)
theorem Qbl (x y : Int) (hx : Yb x = true) (hy : Yb y = true) : IntKind.i64.wrap (IntKind.i64.wrap (256 * x) + y) = 256 * x + y := by
 have h1 := of_decide_eq_true hx
 have h2 := of_decide_eq_true hy
 rw [Zb (n := 256 * x) (by omega) (by omega), Zb (by omega) (by omega)]
theorem Ml (s : ByteArray) : F29 s = Yl s.data.toList := by
 have hc : F54 s 46 = (Qx 46 s.data.toList).map mkB := Jo s 46
 unfold F29 Yl
 rw [hc]
 simp only [Bo]
 cases Qx 46 s.data.toList with
 | nil => rfl
 | cons a t => cases t with
  | nil => rfl
  | cons b t => cases t with
   | nil =>
    show (bif (bif (!(Yb (num6 a))) then true else (!(Yb (num6 b)))) then (-1) else (IntKind.i64.wrap ((IntKind.i64.wrap (256 * num6 a)) + num6 b))) = bif Yb (num6 a) && Yb (num6 b) then 256 * num6 a + num6 b else -1
    cases ha : Yb (num6 a) <;> cases hb : Yb (num6 b) <;> try rfl
    exact Qbl _ _ ha hb
   | cons c t =>
    have : (((List.map mkB (a :: b :: c :: t)).length : Int) != 2) = true := by
     rw [bne_iff_ne]
     simp only [List.map_cons, List.length_cons, List.length_map]
     omega
    rw [this]; rfl
theorem Qeh (l : List UInt8) : -1 ≤ Yl l ∧ Yl l ≤ 65535 := by
 unfold Yl
 cases Qx 46 l with
 | nil => exact ⟨Int.le_refl _, (show (-1 : Int) ≤ 65535 by omega)⟩
 | cons a t => cases t with
  | nil => exact ⟨Int.le_refl _, (show (-1 : Int) ≤ 65535 by omega)⟩
  | cons b t => cases t with
   | nil =>
    show -1 ≤ (bif Yb (num6 a) && Yb (num6 b) then 256 * num6 a + num6 b else -1) ∧ (bif Yb (num6 a) && Yb (num6 b) then 256 * num6 a + num6 b else -1) ≤ 65535
    cases h : Yb (num6 a) && Yb (num6 b) with
    | false => simp only [cond_false]; omega
    | true =>
     rw [Bool.and_eq_true] at h
     have h1 := of_decide_eq_true h.1
     have h2 := of_decide_eq_true h.2
     simp only [cond_true]; omega
   | cons c t => exact ⟨Int.le_refl _, (show (-1 : Int) ≤ 65535 by omega)⟩
theorem Qsf (s : ByteArray) : Yb (decN s) = Yb (num6 s.data.toList) ∧ (Yb (decN s) = true → decN s = num6 s.data.toList) := by
 by_cases h : decN s ≤ 999999
 ·rw [Qew s h]; exact ⟨rfl, fun _ => rfl⟩
 ·have h1 : Yb (decN s) = false := decide_eq_false (by omega)
  have h2 : num6 s.data.toList = -1 := by
   rcases Bl s with h3 | ⟨u, h3, h4⟩
   ·omega
   ·have hl : ¬ s.data.toList.length ≤ 6 := fun hle => by
     have hl : s.data.toList.length = s.size := Array.length_toList
     have := Hj s (by omega)
     have := Qmf s.data.toList
     omega
    unfold num6
    rw [decide_eq_false hl, Bool.and_false]; rfl
  rw [h1, h2]
  exact ⟨rfl, fun h => by cases h⟩
theorem Qrn : ∀ l : List UInt8, 46 ∈ l → Zd l = false := by
 intro l hm
 cases h : Zd l with
 | false => rfl
 | true =>
  unfold Zd at h
  simp only [Bool.and_eq_true] at h
  have := Wb (List.all_eq_true.1 h.1.2 _ hm)
  have e : (46 : UInt8).toNat = 46 := rfl
  omega
theorem Qni {l : List UInt8} (h : 46 ∈ l) : num6 l = -1 := by
 unfold num6
 rw [Qrn l h, Bool.false_and]; rfl
theorem Mm (s : ByteArray) : F45 s = Yl s.data.toList := by
 have e209 : ∀ t : ByteArray, F65 t = decN t := fun _ => rfl
 have e87 : ∀ t u : ByteArray, F64 t u = cut3 t u := fun _ _ => rfl
 unfold F45 Yl
 simp only [e209, e87]
 rcases Xw s 46 with ⟨h1, h2⟩ | ⟨a, b, h1, h2, h3⟩
 ·rw [h2, Uu h1]; rfl
 ·rw [h3, h1, Uz b h2]
  show (bif (bif (!true) then true else (!(Yb (decN (mkB a))))) then true else (!(Yb (decN (mkB b))))) |> fun z => (bif z then (-1) else (IntKind.i64.wrap ((IntKind.i64.wrap (256 * decN (mkB a))) + decN (mkB b)))) = addr2 (a :: Qx 46 b)
  have da := Qsf (mkB a)
  have db := Qsf (mkB b)
  rw [Ny] at da db
  rw [da.1, db.1]
  by_cases hb : (46 : UInt8) ∈ b
  ·have hn : num6 b = -1 := Qni hb
   have e2 : Yb (num6 b) = false := by rw [hn]; rfl
   rw [e2]
   have e3 : ∃ x y t, Qx 46 b = x :: y :: t := by
    rcases Kj 46 b with ⟨_, h⟩ | ⟨x, y, hx, hx2, _⟩
    ·exact absurd hb h
    ·rw [hx, Uz y hx2]
     cases hs : Qx 46 y with
     | nil =>
      cases y with
      | nil => cases hs
      | cons c y =>
       rw [Qx] at hs
       split at hs
       ·cases hs
       ·split at hs <;> cases hs
     | cons p t => exact ⟨_, _, _, rfl⟩
   obtain ⟨x, y, t, e3⟩ := e3
   rw [e3]
   cases Yb (num6 a) <;> rfl
  ·rw [Uu hb]
   show _ = bif Yb (num6 a) && Yb (num6 b) then 256 * num6 a + num6 b else -1
   cases ha : Yb (num6 a) <;> cases hb2 : Yb (num6 b) <;> try rfl
   have h4 := da.2 (by rw [da.1]; exact ha)
   have h5 := db.2 (by rw [db.1]; exact hb2)
   rw [h4, h5]
   exact Qbl _ _ ha hb2
theorem La (s : ByteArray) : F45 s = F29 s := (Mm s).trans (Ml s).symm
end Go.Proofs.YtmoodkjkecjeaaaGreatDoor
