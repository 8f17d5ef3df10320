/- A part of the proof of FnExactConfMay. Texts put together: MS, MT, MY, MYB, MP, MX, LY, DEC, VC0, PS1, VC1, PS2, VC2, PS3, PS4, VF0, PF0, VF1, VF2, PN1, PN2, PN3, PN4, PA1. -/
import Derived.Shelf.Strings.Cut
import Derived.Shelf.Strings.Split
import Derived.Shelf.Strings.OnBuilder
import Derived.Shelf.Slices.In.SortAlone
import Derived.Shelf.Slices.In.SortNone
import Derived.Sort.EveryDepth
import Derived.Test.YthjaknclldmheaaGreatDoorRows
import Derived.Shelf.LaysM
import Derived.Shelf.Strconv.AtoiAll
import Derived.Shelf.Strconv.Itoa3
import Derived.WalkKit
import Derived.BigCall
import Derived.BigGuard
import Derived.Lib.Walk
import Derived.Lib.Hide
import Derived.Lib.IndexBytes
import Derived.Lib.SplitLaws
import Derived.Lib.CutLaws
import Derived.Lib.AtoiAll
import Derived.Lib.ItoaNum
import Derived.Test.YthjaknclldmheaaGreatDoorZC44B
namespace Go.Proofs.YthjaknclldmheaaGreatDoor
open Go.RowKit
set_option maxRecDepth 100000
set_option linter.unusedVariables false
set_option linter.unusedSimpArgs false
theorem n0 (n : Nat) : Int.toNat ((n : Int) - 0) = n := by simp
theorem nn (n : Nat) : Int.toNat (n : Int) = n := by simp
theorem ltD {n : Nat} {k : Nat} (h : k < n) : decide ((k : Int) < (n : Int)) = true := by simp; omega
theorem geD {n : Nat} : decide ((n : Int) < (n : Int)) = false := by simp
theorem Mg {α : Type} [Inhabited α] (xs : List α) {k : Nat} (h : xs.length ≤ k) : xs.getD k default = default := by
 rw [List.getD_eq_getElem?_getD, List.getElem?_eq_none h]; rfl
theorem Wo {α : Type} [Inhabited α] (xs : List α) {k : Nat} (h : k < xs.length) : xs.getD k default = xs[k] := by
 rw [List.getD_eq_getElem?_getD, List.getElem?_eq_getElem h]; rfl
theorem He {α : Type} [Inhabited α] (xs : List α) {k : Nat} (h : k < xs.length) : xs.getD k default ∈ xs := by
 rw [Wo xs h]; exact List.getElem_mem h
theorem Je {α : Type} [Inhabited α] {xs : List α} {x : α} (h : x ∈ xs) : ∃ k, k < xs.length ∧ xs.getD k default = x := by
 obtain ⟨k, hk, e⟩ := List.mem_iff_getElem.1 h
 exact ⟨k, hk, by rw [Wo xs hk]; exact e⟩
theorem Rx {α : Type} [Inhabited α] {s a : List α} {k : Nat} (hl : s.length = a.length) (h : s.take k = a.take k) (hk : k < a.length) : (s.set k (a.getD k default)).take (k + 1) = a.take (k + 1) := by
 rw [List.take_add_one, List.take_add_one, List.take_set_of_le (Nat.le_refl _), h, List.getElem?_set_self (by omega), List.getD_eq_getElem?_getD, List.getElem?_eq_getElem hk]
 rfl
theorem Eh {α : Type} [Inhabited α] {a : List α} {k : Nat} (hk : k < a.length) : a.take (k + 1) = a.take k ++ [a.getD k default] := by
 rw [List.take_add_one, List.getD_eq_getElem?_getD, List.getElem?_eq_getElem hk]
 rfl
theorem Ma {α : Type} [Inhabited α] {a b : List α} (hl : a.length = b.length) (h : ∀ k, k < a.length → a.getD k default = b.getD k default) : a = b := by
 refine List.ext_getElem hl fun k h1 h2 => ?_
 have := h k h1
 rwa [Wo a h1, Wo b h2] at this
theorem Qsc {α : Type} [Inhabited α] (f : α → α) (hf : ∀ x, f x = x) (a init : List α) (hi : init.length = a.length) (step : Int × List α → Lp (Int × List α) (List α))
  (hs : ∀ i xs, step (i, xs) = bif decide (i < (a.length : Int)) then .next (i + 1, xs.set (Int.toNat i) (f (a.getD (Int.toNat i) default))) else .done (i, xs)) :
  (runL step ((Int.toNat ((a.length : Int) - 0)) + 1) (0, init)).fin (fun r => r) (fun s => s.2) = a := by
 have h := Kw (step := step) (fun (k : Nat) (s : List α) => ((k : Int), s)) a.length (fun k s => s.length = a.length ∧ s.take k = a.take k) (fun _ => False)
  (fun k s hk ⟨h1, h2⟩ => .inl ⟨s.set k (a.getD k default), by simp [hs, hf, hk], by simp [h1], Rx h1 h2 hk⟩)
  (fun s _ => by simp [hs]) a.length 0 init (by omega) ⟨hi, by simp⟩ (a.length + 1) (Nat.lt_succ_self _)
 rw [n0]
 rcases h with ⟨s', h, h1, h2⟩ | ⟨r, _, h⟩
 ·have h : runL step (a.length + 1) (0, init) = .done ((a.length : Int), s') := h
  rw [h]
  show s' = a
  rw [List.take_of_length_le (by omega), List.take_of_length_le (by omega)] at h2
  exact h2
 ·exact h.elim
theorem Qtc {α : Type} [Inhabited α] [DecidableEq α] (e : α → α → Bool) (he : ∀ x y, e x y = decide (x = y)) (a b : List α) (step : Int → Lp Int Bool)
  (hs : ∀ i, step i = bif (decide (i < (a.length : Int))) then (bif (!(e (a.getD (Int.toNat i) default) (b.getD (Int.toNat i) default))) then (.ret false) else (.next (i + 1))) else (.done i)) :
  (bif ((a.length : Int) != (b.length : Int)) then false else ((runL step ((Int.toNat ((a.length : Int) - 0)) + 1) 0).fin (fun r => r) (fun _ => true))) = decide (a = b) := by
 by_cases hl : a.length = b.length
 ·have hc : ((a.length : Int) != (b.length : Int)) = false := by simp [hl]
  rw [hc, cond_false]
  have h := Kw (step := step) (fun (k : Nat) (_ : Unit) => (k : Int)) a.length (fun k _ => ∀ j, j < k → a.getD j default = b.getD j default) (fun r => r = false ∧ a ≠ b)
   (fun k _ hk hI => by
    have hc := ltD hk
    by_cases hx : a.getD k default = b.getD k default
    ·refine .inl ⟨(), ?_, fun j hj => ?_⟩
     ·rw [hs, he, Int.toNat_natCast, hc, hx, decide_eq_true rfl]
      rfl
     ·rcases Nat.lt_succ_iff_lt_or_eq.1 hj with h | h
      ·exact hI j h
      ·exact h ▸ hx
    ·refine .inr ⟨false, ?_, rfl, fun e => hx (e ▸ rfl)⟩
     rw [hs, he, Int.toNat_natCast, hc, decide_eq_false hx]
     rfl)
   (fun s _ => by rw [hs]; simp) a.length 0 () (by omega) (fun j hj => by omega) (a.length + 1) (Nat.lt_succ_self _)
  rw [n0]
  rcases h with ⟨_, h, hI⟩ | ⟨r, h, rfl, hne⟩
  ·have h : runL step (a.length + 1) 0 = .done (a.length : Int) := h
   rw [h]
   have := Ma hl hI
   simp [Lp.fin, this]
  ·have h : runL step (a.length + 1) 0 = .ret false := h
   rw [h]
   simp [Lp.fin, hne]
 ·have hc : ((a.length : Int) != (b.length : Int)) = true := by simp; omega
  rw [hc, cond_true]
  symm
  simp only [decide_eq_false_iff_not]
  exact fun e => hl (e ▸ rfl)
theorem Qsx {α : Type} [Inhabited α] (sz : α → Int → Int) (P : α → Prop) (h : ∀ x l, 0 ≤ l → l ≤ 1048576 → 0 ≤ sz x l → P x ∧ sz x l ≤ l) (a : List α) (step : Int × Int → Lp (Int × Int) Int) (l0 : Int) (h0 : 0 ≤ l0) (h1 : l0 ≤ 1048576)
  (hs : ∀ l i, step (l, i) = bif (decide (i < (a.length : Int))) then (bif (decide (sz (a.getD (Int.toNat i) default) l < 0)) then (.ret (-1)) else (.next (sz (a.getD (Int.toNat i) default) l, i + 1))) else (.done (l, i)))
  (hr : 0 ≤ (runL step ((Int.toNat ((a.length : Int) - 0)) + 1) (l0, 0)).fin (fun r => r) (fun s => s.1)) :
  (∀ k, k < a.length → P (a.getD k default)) ∧ (runL step ((Int.toNat ((a.length : Int) - 0)) + 1) (l0, 0)).fin (fun r => r) (fun s => s.1) ≤ l0 := by
 rw [n0] at hr ⊢
 have hh := Kw (step := step) (fun (i : Nat) (l : Int) => (l, (i : Int))) a.length (fun i l => 0 ≤ l ∧ l ≤ l0 ∧ ∀ k, k < i → P (a.getD k default)) (fun r => r = -1)
  (fun i l hi ⟨g1, g2, g3⟩ => by
   by_cases hx : sz (a.getD i default) l < 0
   ·refine .inr ⟨-1, ?_, rfl⟩
    rw [hs, ltD hi, Int.toNat_natCast, decide_eq_true hx]; rfl
   ·refine .inl ⟨sz (a.getD i default) l, ?_, by omega, ?_, fun k hk => ?_⟩
    ·rw [hs, ltD hi, Int.toNat_natCast, decide_eq_false hx]; rfl
    ·have := (h (a.getD i default) l g1 (by omega) (by omega)).2; omega
    ·rcases Nat.lt_succ_iff_lt_or_eq.1 hk with hk | rfl
     ·exact g3 k hk
     ·exact (h _ l g1 (by omega) (by omega)).1)
  (fun l _ => by rw [hs, geD]; rfl) a.length 0 l0 (by omega) ⟨h0, Int.le_refl _, fun k hk => by omega⟩ (a.length + 1) (Nat.lt_succ_self _)
 rcases hh with ⟨l, hh, g1, g2, g3⟩ | ⟨r, hh, rfl⟩
 ·have hh : runL step (a.length + 1) (l0, 0) = .done (l, (a.length : Int)) := hh
  rw [hh]
  exact ⟨g3, g2⟩
 ·have hh : runL step (a.length + 1) (l0, 0) = .ret (-1) := hh
  rw [hh] at hr
  exact absurd hr (by decide)
theorem Xa {n : Int} (h1 : -9223372036854775808 ≤ n) (h2 : n ≤ 9223372036854775807) : IntKind.i64.wrap n = n := Mi h1 h2
theorem neI (a b : Int) : (a != b) = !decide (a = b) := by
 by_cases h : a = b <;> simp [h]
theorem neB (a b : Bool) : (!(a == b)) = !decide (a = b) := by
 cases a <;> cases b <;> rfl
theorem bandd (p q : Bool) : (bif p then q else false) = (p && q) := by cases p <;> rfl
theorem Qu (a : ByteArray) : a.toList = a.data.toList := ByteArray.toList_eq a
theorem Qqv {a b : ByteArray} (h : a.toList = b.toList) : a = b := by
 rw [Qu, Qu] at h
 cases a; cases b
 simp only [ByteArray.mk.injEq]
 exact Array.ext' h
theorem neS (a b : ByteArray) : (!(a.toList == b.toList)) = !decide (a = b) := by
 by_cases h : a = b
 ·simp [h]
 ·have : ¬ a.toList = b.toList := fun e => h (Qqv e)
  simp [h, this]
def first (p : Nat → Bool) (n : Nat) : Option Nat := (List.range n).find? p
theorem first_some {p : Nat → Bool} {n k : Nat} : first p n = some k ↔ k < n ∧ p k = true ∧ ∀ j, j < k → p j = false := by
 unfold first
 rw [List.find?_range_eq_some]
 constructor
 ·rintro ⟨h1, h2, h3⟩
  exact ⟨by simpa using h2, h1, fun j hj => by simpa using h3 j hj⟩
 ·rintro ⟨h1, h2, h3⟩
  exact ⟨h2, by simpa using h1, fun j hj => by simpa using h3 j hj⟩
theorem first_none {p : Nat → Bool} {n : Nat} : first p n = none ↔ ∀ k, k < n → p k = false := by
 unfold first
 rw [List.find?_range_eq_none]
 simp
theorem search {ρ τ : Type} (p : Nat → Bool) (r : Nat → ρ) (n : Nat) (step : Int → Lp Int ρ) (hs : ∀ k : Nat, k < n → step (k : Int) = bif p k then .ret (r k) else .next ((k : Int) + 1)) (he : step (n : Int) = .done (n : Int)) (f : ρ → τ) (g : Int → τ) :
  (runL step ((Int.toNat ((n : Int) - 0)) + 1) 0).fin f g = match first p n with | some k => f (r k) | none => g n := by
 have h := Kw (step := step) (fun (k : Nat) (_ : Unit) => (k : Int)) n (fun k _ => ∀ j, j < k → p j = false) (fun x => ∃ k, first p n = some k ∧ x = r k)
  (fun k _ hk hI => by
   cases hp : p k with
   | false =>
    refine .inl ⟨(), by rw [hs k hk, hp]; rfl, fun j hj => ?_⟩
    rcases Nat.lt_succ_iff_lt_or_eq.1 hj with h | rfl
    ·exact hI j h
    ·exact hp
   | true => exact .inr ⟨r k, by rw [hs k hk, hp]; rfl, k, first_some.2 ⟨hk, hp, hI⟩, rfl⟩)
  (fun _ _ => he) n 0 () (by omega) (fun j hj => by omega) (n + 1) (Nat.lt_succ_self _)
 rw [n0]
 rcases h with ⟨_, h, hI⟩ | ⟨x, h, k, hk, rfl⟩
 ·have h : runL step (n + 1) 0 = .done (n : Int) := h
  rw [h, first_none.2 hI]; rfl
 ·have h : runL step (n + 1) 0 = .ret (r k) := h
  rw [h, hk]; rfl
def oix : Option Nat → Int
 | some k => (k : Int)
 | none => -1
theorem oix_lt {p : Nat → Bool} {n : Nat} : oix (first p n) < (n : Int) := by
 cases h : first p n with
 | none => simp only [oix]; omega
 | some k => have := (first_some.1 h).1; simp only [oix]; omega
theorem oix_neg {o : Option Nat} : oix o < 0 ↔ o = none := by
 cases o with
 | none => simp [oix]
 | some k => simp [oix]
theorem Qqn {o : Option Nat} (h : ¬ oix o < 0) : o = some (oix o).toNat := by
 cases o with
 | none => exact absurd (by decide) h
 | some k => simp [oix]
def idxI {α : Type} [Inhabited α] (p : α → Bool) (xs : List α) : Int := oix (first (fun k => p (xs.getD k default)) xs.length)
theorem Bw {α : Type} [Inhabited α] (p : α → Bool) (xs : List α) (step : Int → Lp Int Int)
  (hs : ∀ i, step i = bif decide (i < (xs.length : Int)) then (bif p (xs.getD (Int.toNat i) default) then .ret i else .next (i + 1)) else .done i) :
  (runL step ((Int.toNat ((xs.length : Int) - 0)) + 1) 0).fin (fun r => r) (fun _ => -1) = idxI p xs := by
 rw [search (fun k => p (xs.getD k default)) (fun k => (k : Int)) xs.length step (fun k hk => by rw [hs, ltD hk, nn]; rfl) (by rw [hs, geD]; rfl)]
 unfold idxI
 all_goals (cases first (fun k => p (xs.getD k default)) xs.length <;> rfl)
theorem Qjv {α : Type} [Inhabited α] (p : α → Bool) (xs : List α) : decide (idxI p xs ≥ 0) = xs.any p := by
 rw [Bool.eq_iff_iff, decide_eq_true_eq, List.any_eq_true]
 constructor
 ·intro h
  have h' : ¬ idxI p xs < 0 := by omega
  have h2 := first_some.1 (Qqn h')
  exact ⟨_, He xs h2.1, h2.2.1⟩
 ·rintro ⟨x, hx, hp⟩
  obtain ⟨k, hk, rfl⟩ := Je hx
  rcases Int.lt_or_le (idxI p xs) 0 with h | h
  ·have := first_none.1 (oix_neg.1 h) k hk
   simp only [hp] at this
   cases this
  ·exact h
theorem Qbo {α : Type} [Inhabited α] (p : α → Bool) (xs : List α) : idxI p xs < (xs.length : Int) := oix_lt
theorem beqD (a b : Int) : (a == b) = decide (a = b) := by
 by_cases h : a = b <;> simp [h]
theorem Rv {α : Type} (xs : List α) {i : Nat} (a : α) (h : i < xs.length) : (xs.set i a).take (i + 1) = xs.take i ++ [a] := by
 rw [List.take_add_one, List.take_set_of_le (Nat.le_refl _), List.getElem?_set_self h]; rfl
theorem Zo {α : Type} [Inhabited α] (p : α → Bool) (s : List α) {k : Nat} (h : k < s.length) : (s.take (k + 1)).filter p = (s.take k).filter p ++ (if p (s.getD k default) then [s.getD k default] else []) := by
 rw [Eh h, List.filter_append]
 congr 1
 simp only [List.filter_cons, List.filter_nil]
theorem Qdu {α : Type} [Inhabited α] (del : α → Bool) (s : List α) (z : α) (step : Int × Int × List α → Lp (Int × Int × List α) (List α))
  (hs : ∀ i j xs, step (i, j, xs) = bif decide (j < (xs.length : Int)) then (bif (!(del (xs.getD (Int.toNat j) default))) then .next (i + 1, j + 1, xs.set (Int.toNat i) (xs.getD (Int.toNat j) default)) else .next (i, j + 1, xs)) else .done (i, j, xs)) :
  (bif (idxI del s == (-1)) then s else (((runL step ((Int.toNat ((s.length : Int) - (idxI del s + 1))) + 1) (idxI del s, idxI del s + 1, s)).fin Lp.ret (fun x => (Lp.done (x.2.2, x.1) : Lp (List α × Int) (List α)))).fin (fun r => r) (fun x => ((x.1.take (Int.toNat x.2) ++ List.replicate (x.1.drop (Int.toNat x.2)).length z ++ x.1.drop (Int.toNat x.2 + (x.1.drop (Int.toNat x.2)).length)).take (Int.toNat x.2))))) = s.filter (fun x => !(del x)) := by
 unfold idxI
 cases e : first (fun k => del (s.getD k default)) s.length with
 | none =>
  have hn := first_none.1 e
  have e1 : (oix (none : Option Nat) == (-1 : Int)) = true := rfl
  rw [e1, cond_true]
  symm
  refine List.filter_eq_self.2 fun x hx => ?_
  obtain ⟨k, hk, rfl⟩ := Je hx
  simpa using hn k hk
 | some k0 =>
  obtain ⟨h1, h2, h3⟩ := first_some.1 e
  have e1 : (oix (some k0) == (-1 : Int)) = false := by rw [beqD]; exact decide_eq_false (by simp only [oix]; omega)
  rw [e1, cond_false]
  simp only [oix]
  have hpre : (s.take (k0 + 1)).filter (fun x => !(del x)) = s.take k0 := by
   rw [Zo _ _ h1]
   simp only [h2, Bool.not_true, Bool.false_eq_true, if_false, List.append_nil]
   refine List.filter_eq_self.2 fun x hx => ?_
   obtain ⟨k, hk, rfl⟩ := List.mem_iff_getElem.1 hx
   have hk' : k < k0 := by simp at hk; omega
   have := h3 k hk'
   rw [Wo s (by omega)] at this
   simpa using this
  have h := Kw (step := step) (fun (k : Nat) (x : Nat × List α) => ((x.1 : Int), (k : Int), x.2)) s.length
   (fun k x => x.1 < k ∧ x.2.length = s.length ∧ x.2.take x.1 = (s.take k).filter (fun x => !(del x)) ∧ ∀ m, k ≤ m → x.2.getD m default = s.getD m default) (fun _ => False)
   (fun k x hk ⟨g1, g2, g3, g4⟩ => by
    obtain ⟨i, xs⟩ := x
    simp only at g1 g2 g3 g4
    have hx := g4 k (Nat.le_refl _)
    cases hd : del (s.getD k default) with
    | false =>
     refine .inl ⟨(i + 1, xs.set i (s.getD k default)), ?_, by simp only; omega, by simp [g2], ?_, fun m hm => ?_⟩
     ·rw [hs, g2, ltD hk, nn, hx, hd]
      simp only [cond_true, Bool.not_false, nn]
      rfl
     ·simp only
      rw [Rv xs _ (by omega), g3, Zo _ _ hk, hd]
      rfl
     ·simp only
      rw [List.getD_eq_getElem?_getD, List.getElem?_set_ne (by omega), ← List.getD_eq_getElem?_getD]
      exact g4 m (by omega)
    | true =>
     refine .inl ⟨(i, xs), ?_, by simp only; omega, g2, ?_, fun m hm => g4 m (by omega)⟩
     ·rw [hs, g2, ltD hk, nn, hx, hd]
      simp only [cond_true, Bool.not_true, cond_false]
      rfl
     ·simp only
      rw [g3, Zo _ _ hk, hd]
      simp)
   (fun x ⟨_, g2, _, _⟩ => by rw [hs, g2, geD]; rfl) (s.length - (k0 + 1)) (k0 + 1) (k0, s) (by omega) ⟨Nat.lt_succ_self _, rfl, hpre.symm, fun _ _ => rfl⟩ (s.length - (k0 + 1) + 1) (Nat.lt_succ_self _)
  have ef : Int.toNat ((s.length : Int) - ((k0 : Int) + 1)) = s.length - (k0 + 1) := by omega
  rw [ef]
  rcases h with ⟨⟨i, xs⟩, h, g1, g2, g3, g4⟩ | ⟨_, _, h⟩
  ·have h : runL step (s.length - (k0 + 1) + 1) ((k0 : Int), (k0 : Int) + 1, s) = .done ((i : Int), (s.length : Int), xs) := h
   simp only at g1 g2 g3
   rw [h]
   simp only [Lp.fin, nn]
   rw [List.take_length] at g3
   rw [← g3, List.append_assoc, List.take_append_of_le_length (by simp; omega), List.take_take, Nat.min_self]
  ·exact h.elim
def RdAll (S : Nat → Prop) (w : World) : List (Value × Dat) → Prop
 | [] => True
 | p :: r => RdV S w p.2 p.1 ∧ RdAll S w r
theorem RdAll.mono {S S' : Nat → Prop} {w w' : World} (hs : ∀ b, S b → S' b ∧ w'.heap[b]? = w.heap[b]?) : ∀ {ds : List (Value × Dat)}, RdAll S w ds → RdAll S' w' ds
 | [], _ => trivial
 | p :: r, h => ⟨RdV.mono hs p.2 p.1 h.1, RdAll.mono hs h.2⟩
def LX (ds : List (Value × Dat)) : FX where
 rd S w y := y.oneCell' = true ∧ RdAll S w ds
 ow w y fp := (y.oneCell' = true ∧ RdAll (· ∈ fp) w ds) ∧ fp.Nodup ∧ ∀ b ∈ fp, b < w.heap.size
 mono S S' w w' y hs h := ⟨h.1, h.2.mono hs⟩
 one S w y h := h.1
 keep w w' y fp hk h := ⟨⟨h.1.1, h.1.2.mono fun b hb => ⟨hb, hk b hb⟩⟩, h.2.1, fun b hb => Bm (h.2.2 b hb) (hk b hb)⟩
 lt w y fp h := h.2.2
 nd w y fp h := h.2.1
 rdo w y fp h := h.1
def BX (s : ByteArray) (n : Nat) : FX where
 rd S w y := y = .string s ∧ s.size ≤ n
 ow w y fp := (y = .string s ∧ s.size ≤ n) ∧ fp = []
 mono S S' w w' y hs h := h
 one S w y h := by rw [h.1]; rfl
 keep w w' y fp hk h := h
 lt w y fp h b hb := by rw [h.2] at hb; cases hb
 nd w y fp h := by rw [h.2]; exact List.nodup_nil
 rdo w y fp h := h.1
theorem Imp.bx {s : ByteArray} {n : Nat} (h : s.size ≤ n) : Imp (.v (.string s)) (.x (BX s n)) := ⟨fun S w y hy => ⟨hy.1, h⟩, fun w y fp hy => ⟨⟨hy.1, h⟩, hy.2.2⟩⟩
theorem Tf {P : Program} {f : FuncId} {i : ByteArray} {n : Nat} {cap : List Arg} {r : RT} {D : Bool} (h : Spec.ok P f ⟨.r (.c (.v (.string i))) :: cap, r, i.size ≤ n⟩ D) : Spec.ok P f ⟨.r (.c (.x (BX i n))) :: cap, r, True⟩ D := by
 intro _ S w vs fp hS hG ha
 obtain ⟨u, us, f1, g1, rfl, ⟨h1, h1'⟩, h2, rfl, h3⟩ := ha
 obtain ⟨rfl, hn⟩ : u = .string i ∧ i.size ≤ n := h1
 have := h hn S w (.string i :: us) (f1 ++ g1) hS hG ⟨_, us, f1, g1, rfl, ⟨⟨rfl, rfl⟩, h1'⟩, h2, rfl, h3⟩
 refine this.mono fun e w' ⟨rv, fr, fb, e1, e2, e3, e4⟩ => ⟨rv, fr, fb, e1, e2, ?_, e4⟩
 obtain ⟨u', us', f', g', k1, k2, k3, k4⟩ := e3
 simp only [List.cons.injEq] at k1
 obtain ⟨rfl, rfl⟩ := k1
 exact ⟨_, _, f', g', rfl, k2, k3, k4⟩
def PX (d : Dat) (Q : Prop) : FX where
 rd S w y := RdV S w d y ∧ Q
 ow w y fp := OwV w d y fp ∧ Q
 mono S S' w w' y hs h := ⟨RdV.mono hs d y h.1, h.2⟩
 one S w y h := h.1.one
 keep w w' y fp hk h := ⟨OwV.keep d y fp hk h.1, h.2⟩
 lt w y fp h := OwV.lt d y fp h.1
 nd w y fp h := h.1.nd
 rdo w y fp h := ⟨OwV.rd d y fp h.1, h.2⟩
theorem Imp.px {d : Dat} {Q : Prop} (h : Q) : Imp d (.x (PX d Q)) := ⟨fun S w y hy => ⟨hy, h⟩, fun w y fp hy => ⟨hy, h⟩⟩
def pxH : List Dat → Prop → List Dat
 | [], _ => []
 | d :: ds, Q => .x (PX d Q) :: ds
theorem Imps.pxH {ds : List Dat} {Q : Prop} (h : Q) : Imps ds (pxH ds Q) := by
 cases ds with
 | nil => trivial
 | cons d ds => exact ⟨Imp.px h, Imps.refl ds⟩
theorem Qmu {P : Program} {f : FuncId} {a b : RA} {Q : Prop} {cap : List Arg} {r : RT} {D : Bool} (hab : ∀ S w v, Qie S w b v → Qie S w a v ∧ Q) (h : Spec.ok P f ⟨.r a :: cap, r, Q⟩ D) : Spec.ok P f ⟨.r b :: cap, r, True⟩ D := by
 intro _ S w vs fp hS hG ha
 obtain ⟨u, us, f1, g1, rfl, ⟨h1, h1'⟩, h2, rfl, h3⟩ := ha
 obtain ⟨k1, hn⟩ := hab S w u h1
 have := h hn S w (u :: us) (f1 ++ g1) hS hG ⟨_, us, f1, g1, rfl, ⟨k1, h1'⟩, h2, rfl, h3⟩
 refine this.mono fun e w' ⟨rv, fr, fb, e1, e2, e3, e4⟩ => ⟨rv, fr, fb, e1, e2, ?_, e4⟩
 obtain ⟨u', us', f', g', k1, k2, k3, k4⟩ := e3
 simp only [List.cons.injEq] at k1
 obtain ⟨rfl, rfl⟩ := k1
 exact ⟨_, _, f', g', rfl, k2, k3, k4⟩
theorem Qnu {P : Program} {f : FuncId} {d : Dat} {Q : Prop} {cap : List Arg} {r : RT} {D : Bool} (h : Spec.ok P f ⟨.r (.c d) :: cap, r, Q⟩ D) : Spec.ok P f ⟨.r (.c (.x (PX d Q))) :: cap, r, True⟩ D :=
 Qmu (a := .c d) (Q := Q) (fun S w v hv => hv) h
theorem ok_pxH {P : Program} {f : FuncId} {d : Dat} {ds : List Dat} {Q : Prop} {cap : List Arg} {r : RT} {D : Bool} (h : Spec.ok P f ⟨.r (.g (d :: ds)) :: cap, r, Q⟩ D) : Spec.ok P f ⟨.r (.g (pxH (d :: ds) Q)) :: cap, r, True⟩ D :=
 Qmu (fun S w v hv => by
  obtain ⟨vs, e, u, us, rfl, h1, h2⟩ := hv
  exact ⟨⟨_, e, u, us, rfl, h1.1, h2⟩, h1.2⟩) h
def toSV : Value → SV
 | .slice a n c => ⟨a, n, c⟩
 | _ => default
theorem RdV.at_sv {S : Nat → Prop} {w : World} {d : Dat} {v : Value} {x : SV} (e : v = sv x) (h : RdV S w d v) : RdV S w d (sv x) := e ▸ h
theorem row3 {S : Nat → Prop} {w : World} {a b c : Value} {d : Dat} (h : RdV S w d c) : ∀ cs, RdVs S w [.v a, .v b, .v c] cs → RdVs S w [.v a, .v b, d] cs := fun cs hc => by
 obtain ⟨u, us, rfl, h1, v, vs, rfl, h2, x, xs, rfl, h3, rfl⟩ := hc
 obtain ⟨rfl, _⟩ := h3
 exact ⟨u, _, rfl, h1, v, _, rfl, h2, _, _, rfl, h, rfl⟩
section
variable {P : Program} {N : Nat} {fs fs' : Nat → Option Fact} {β : Nat → Nat → Value} {φ φ' : Nat → List Nat} {dom ψ IN : Nat → Prop} {w0 w : World}
theorem Rel.pack (R : Rel P fs β φ dom ψ IN w0 w) (src : Nat → List Nat)
  (hok : ∀ X f, fs' X = some f → dom X ∧ Kg P fs' β φ' dom ψ w X f)
  (hsrc : ∀ X f, fs' X = some f → f.mod = true → ∀ b ∈ φ' X, ∃ Y ∈ src X, (∃ g, fs Y = some g ∧ g.mod = true) ∧ b ∈ φ Y)
  (hd : ∀ X X', X ≠ X' → (∃ f, fs' X = some f) → (∃ f, fs' X' = some f) → ∀ Y ∈ src X, Y ∉ src X') : Rel P fs' β φ' dom ψ IN w0 w where
 ok := hok
 dis i j f g hi hj mi mj hne b hb hb' := by
  obtain ⟨Y, h1, ⟨g1, h2, h3⟩, h4⟩ := hsrc i f hi mi b hb
  obtain ⟨Y', k1, ⟨g2, k2, k3⟩, k4⟩ := hsrc j g hj mj b hb'
  have hne' : Y ≠ Y' := fun e => hd i j hne ⟨_, hi⟩ ⟨_, hj⟩ Y h1 (e ▸ k1)
  exact R.dis Y Y' g1 g2 h2 k2 h3 k3 hne' b h4 k4
 lt id f hf hm b hb := by
  obtain ⟨Y, h1, ⟨g1, h2, h3⟩, h4⟩ := hsrc id f hf hm b hb
  exact R.lt Y g1 h2 h3 b h4
 psi := R.psi
 all1 := R.all1
 chg := R.chg
 glo := R.glo
theorem Rel.fpnd (R : Rel P fs β φ dom ψ IN w0 w) {id : Nat} {g : Fact} (h : fs id = some g) (hm : g.mod = true) : (φ id).Nodup := by
 have h2 := (R.ok id g h).2
 cases g <;> simp only [Fact.mod] at hm <;> first | cases hm | skip
 case box T cs => obtain ⟨_, b, _, _, e⟩ := h2; rw [e]; exact (List.nodup_cons.2 ⟨List.not_mem_nil, List.nodup_nil⟩)
 case own V d => exact (h2.2 : OwV w d _ _).nd
 case arr n cs => obtain ⟨_, b, T, _, _, e⟩ := h2; rw [e]; exact (List.nodup_cons.2 ⟨List.not_mem_nil, List.nodup_nil⟩)
def Qgm (fs : Nat → Option Fact) (ids : List Nat) : Bool := ids.all fun id => match fs id with | some g => g.mod | none => false
theorem Eo {ids : List Nat} (h : Qgm fs ids = true) : ∀ id ∈ ids, ∃ g, fs id = some g ∧ g.mod = true := fun id hid => by
 have := List.all_eq_true.1 h id hid
 split at this
 ·rename_i g e; exact ⟨g, e, this⟩
 ·cases this
theorem Rel.flat_nd (R : Rel P fs β φ dom ψ IN w0 w) : ∀ {ids : List Nat}, ids.Nodup → (∀ id ∈ ids, ∃ g, fs id = some g ∧ g.mod = true) → (ids.flatMap φ).Nodup
 | [], _, _ => List.nodup_nil
 | id :: ids, hn, hm => by
  obtain ⟨n1, n2⟩ := List.nodup_cons.1 hn
  obtain ⟨g, h1, h2⟩ := hm id List.mem_cons_self
  simp only [List.flatMap_cons]
  refine List.nodup_append.2 ⟨R.fpnd h1 h2, R.flat_nd n2 fun x hx => hm x (List.mem_cons_of_mem _ hx), fun b hb b' hb' e => ?_⟩
  subst e
  obtain ⟨Y, hY, hbY⟩ := List.mem_flatMap.1 hb'
  obtain ⟨g', h3, h4⟩ := hm Y (List.mem_cons_of_mem _ hY)
  exact R.dis id Y g g' h1 h3 h2 h4 (fun e => n1 (e ▸ hY)) b hb hbY
theorem Rel.flat_lt (R : Rel P fs β φ dom ψ IN w0 w) {ids : List Nat} (hm : ∀ id ∈ ids, ∃ g, fs id = some g ∧ g.mod = true) : ∀ b ∈ ids.flatMap φ, b < w.heap.size := fun b hb => by
 obtain ⟨Y, hY, hbY⟩ := List.mem_flatMap.1 hb
 obtain ⟨g, h1, h2⟩ := hm Y hY
 exact (R.lt Y g h1 h2 b hbY).1
theorem Yc (h : FnH P) (hcap : h.cap = []) (hp : h.pre) {S : Nat → Prop} (hlt : ∀ b, S b → b < w.heap.size) (hcl : Qy P h.f = true) {F : Ux} (hF : h.F = F) : FnOK false P S w F (val β (.cl h.f [])) :=
 hF ▸ FnOK.weak (h.fnOK hp hlt (cap := []) (by rw [hcap]; exact ⟨rfl, rfl⟩) hcl)
theorem Qca (R : Rel P fs β φ dom ψ IN w0 w) {a : Nat} {T : TypeId} {cs : List AV} (ha : fs a = some (.box T cs)) : ∃ b, val β (.p a 0) = .pointer (some ⟨b, 0, none⟩) ∧ Box w b T (vals β cs) ∧ φ a = [b] := by
 obtain ⟨_, _, b, e1, e2, e3⟩ := R.ok a _ ha
 exact ⟨b, by simp only [val, e1, padd, Nat.add_zero], e2, e3⟩
theorem We (R : Rel P fs β φ dom ψ IN w0 w) (h : FnH P) {a c : Nat} {T U : TypeId} {x y : Value} (ha : fs a = some (.box T [.v x])) (hc : fs c = some (.box U [.v y])) (hcap : h.cap = [.rp [.v x], .rp [.v y]]) (hp : h.pre)
  {S : Nat → Prop} (h1 : ∀ b ∈ φ a, S b) (h2 : ∀ b ∈ φ c, S b) (hlt : ∀ b, S b → b < w.heap.size) (hcl : Qy P h.f = true) (hx : x.oneCell' = true) (hy : y.oneCell' = true) {F : Ux} (hF : h.F = F) : FnOK false P S w F (val β (.cl h.f [.p a 0, .p c 0])) := by
 obtain ⟨b, e1, e2, e3⟩ := Qca R ha
 obtain ⟨b', k1, k2, k3⟩ := Qca R hc
 have := FnOK.weak (h.fnOK hp hlt (cap := [val β (.p a 0), val β (.p c 0)]) (by
  rw [hcap]
  refine ⟨_, _, [], [], rfl, ⟨⟨b, 0, [x], e1, h1 b (by rw [e3]; exact List.mem_singleton.2 rfl), e2.has 0 [x] rfl, x, [], rfl, ⟨rfl, hx⟩, rfl⟩, rfl⟩, ?_, rfl, List.nodup_nil⟩
  exact ⟨_, _, [], [], rfl, ⟨⟨b', 0, [y], k1, h2 b' (by rw [k3]; exact List.mem_singleton.2 rfl), k2.has 0 [y] rfl, y, [], rfl, ⟨rfl, hy⟩, rfl⟩, rfl⟩, ⟨rfl, rfl⟩, rfl, List.nodup_nil⟩) hcl)
 rw [← hF]
 exact this
theorem Qma (R : Rel P fs β φ dom ψ IN w0 w) (h : FnH P) {a o V : Nat} {T : TypeId} {d : Dat} (ha : fs a = some (.box T [.h o 0])) (ho : fs o = some (.own V d)) (hcap : h.cap = [.rp [d]]) (hp : h.pre)
  {S : Nat → Prop} (h1 : ∀ b ∈ φ a, S b) (h2 : ∀ b ∈ φ o, S b) (hlt : ∀ b, S b → b < w.heap.size) (hcl : Qy P h.f = true) {F : Ux} (hF : h.F = F) : FnOK false P S w F (val β (.cl h.f [.p a 0])) := by
 obtain ⟨b, e1, e2, e3⟩ := Qca R ha
 obtain ⟨_, _, k1⟩ := R.ok o _ ho
 have := FnOK.weak (h.fnOK hp hlt (cap := [val β (.p a 0)]) (by
  rw [hcap]
  exact ⟨_, _, [], [], rfl, ⟨⟨b, 0, [β o 0], e1, h1 b (by rw [e3]; exact List.mem_singleton.2 rfl), e2.has 0 [β o 0] rfl, β o 0, [], rfl, RdV.mono (fun b hb => ⟨h2 b hb, rfl⟩) _ _ (OwV.rd _ _ _ k1), rfl⟩, rfl⟩, ⟨rfl, rfl⟩, rfl, List.nodup_nil⟩) hcl)
 rw [← hF]
 exact this
def FnsOK (P : Program) (S : Nat → Prop) (w : World) {α : Type} (F : α → Ux) : List α → List Value → Prop
 | [], vs => vs = []
 | p :: ps, vs => ∃ u us, vs = u :: us ∧ FnOK false P S w (F p) u ∧ FnsOK P S w F ps us
theorem FnsOK.at {S : Nat → Prop} {α : Type} {F : α → Ux} : ∀ {ps : List α} {vs : List Value}, FnsOK P S w F ps vs → vs.length = ps.length ∧ ∀ (i : Nat) (p : α), ps[i]? = some p → ∃ u, vs[i]? = some u ∧ FnOK false P S w (F p) u
 | [], vs, h => by rw [h]; exact ⟨rfl, fun i p hp => by simp at hp⟩
 | p :: ps, vs, h => by
  obtain ⟨u, us, rfl, h1, h2⟩ := h
  obtain ⟨e, h3⟩ := FnsOK.at h2
  refine ⟨by simp [e], fun i q hq => ?_⟩
  cases i with
  | zero => simp only [List.getElem?_cons_zero, Option.some.injEq] at hq; subst hq; exact ⟨u, rfl, h1⟩
  | succ i => simpa using h3 i q (by simpa using hq)
theorem Kq (R : Rel P fs β φ dom ψ IN w0 w) {α : Type} [Inhabited α] {o n : Nat} {cs : List AV} {ps : List α} {F : α → Ux} {enc : α → List Dat} (ho : fs o = some (.arr n cs)) (hn : n = ps.length) (hm : n ≤ 9223372036854775807) (he : ∀ p, enc p = [.x (FnX P (F p))])
  {S : Nat → Prop} (h1 : ∀ b ∈ φ o, S b) (hF : FnsOK P S w F ps (vals β cs)) : RdV S w (.l 1 enc ps) (β o 0) := by
 obtain ⟨_, _, b, T, e1, e2, e3⟩ := R.ok o _ ho
 obtain ⟨_, hF⟩ := hF.at
 subst hn
 refine ⟨some ⟨b, 0, none⟩, ps.length, e1, Nat.le_refl _, hm, fun i p hp => ⟨rfl, h1 b (by rw [e3]; exact List.mem_singleton.2 rfl), ?_⟩⟩
 obtain ⟨u, hu, hf⟩ := hF i p hp
 refine ⟨[u], rfl, ?_, ?_⟩
 ·refine e2.has _ _ ?_
  simp only [ao, Option.getD_some, Nat.zero_add, Nat.mul_one, List.length_singleton]
  apply List.ext_getElem?
  intro j
  rw [List.getElem?_take]
  cases j with
  | zero => simpa using hu
  | succ j => simp
 ·rw [he]
  exact ⟨u, [], rfl, hf, rfl⟩
theorem Jq (R : Rel P fs β φ dom ψ IN w0 w) {o n : Nat} {cs : List AV} (ho : fs o = some (.arr n cs)) : β o 0 = sv (toSV (β o 0)) := by
 obtain ⟨_, _, b, T, e1, _⟩ := R.ok o _ ho
 rw [e1]; rfl
theorem Qtv (R : Rel P fs β φ dom ψ IN w0 w) {α : Type} [Inhabited α] {o n sz : Nat} {cs : List AV} {ys : List α} {enc : α → List Dat} (ho : fs o = some (.arr n cs)) (hn : n = ys.length) (hm : n ≤ 9223372036854775807) (hl : ∀ y, (enc y).length = sz)
  (he : (ys.map enc).flatten = (vals β cs).map .v) : OwV w (.l sz enc ys) (β o 0) (φ o) := by
 obtain ⟨_, ⟨hw, hone⟩, b, T, e1, e2, e3⟩ := R.ok o _ ho
 have h1 : OwVs w (ys.map enc).flatten (vals β cs) [] := by
  rw [he]; exact OwVs.flat (Pi R.one hone hw)
 obtain ⟨gs, g1, g2, g3, g4⟩ := h1.split (sz := sz) (fun y _ => hl y)
 subst hn
 have hlen : (vals β cs).length = ys.length * sz := g2
 refine ⟨some ⟨b, 0, none⟩, ys.length, e1, Nat.le_refl _, hm, .inr ⟨b, 0, T, vals β cs, gs, rfl, e2, by omega, g1, fun i y g hy hg => ?_, by rw [e3, ← g3], ?_⟩⟩
 ·obtain ⟨k1, k2⟩ := g4 i y g hy hg
  have hi : i < ys.length := (List.getElem?_eq_some_iff.1 hy).1
  have hfit : i * sz + sz ≤ (vals β cs).length := by
   rw [hlen]
   calc i * sz + sz = (i + 1) * sz := by rw [Nat.succ_mul]
    _ ≤ ys.length * sz := Nat.mul_le_mul_right _ hi
  refine ⟨by simp; omega, ?_⟩
  simpa using k2
 ·rw [e3]; exact (List.nodup_cons.2 ⟨List.not_mem_nil, List.nodup_nil⟩)
def Rel2 {α γ : Type} (Q : α → γ → Prop) : List α → List γ → Prop
 | [], [] => True
 | a :: azz, c :: cs => Q a c ∧ Rel2 Q azz cs
 | _, _ => False
theorem Rel2.filter {α γ : Type} {Q : α → γ → Prop} {p : α → Bool} {q : γ → Bool} (hpq : ∀ a c, Q a c → p a = q c) : ∀ {azz : List α} {cs : List γ}, Rel2 Q azz cs → Rel2 Q (azz.filter p) (cs.filter q)
 | [], [], _ => trivial
 | a :: azz, c :: cs, h => by
  have e := hpq a c h.1
  cases hp : p a with
  | true => rw [List.filter_cons_of_pos hp, List.filter_cons_of_pos (e ▸ hp)]; exact ⟨h.1, Rel2.filter hpq h.2⟩
  | false => rw [List.filter_cons_of_neg (by simp [hp]), List.filter_cons_of_neg (by simp [← e, hp])]; exact Rel2.filter hpq h.2
 | [], _ :: _, h => h.elim
 | _ :: _, [], h => h.elim
theorem Rel2.at {α γ : Type} {Q : α → γ → Prop} : ∀ {azz : List α} {cs : List γ}, Rel2 Q azz cs → azz.length = cs.length ∧ ∀ (i : Nat) (c : γ), cs[i]? = some c → ∃ a, azz[i]? = some a ∧ Q a c
 | [], [], _ => ⟨rfl, fun i c h => by simp at h⟩
 | a :: azz, c :: cs, h => by
  obtain ⟨e, k⟩ := Rel2.at h.2
  refine ⟨by simp [e], fun i x hx => ?_⟩
  cases i with
  | zero => simp only [List.getElem?_cons_zero, Option.some.injEq] at hx; subst hx; exact ⟨a, rfl, h.1⟩
  | succ i => simpa using k i x (by simpa using hx)
 | [], _ :: _, h => h.elim
 | _ :: _, [], h => h.elim
theorem Rel2.mono {α γ : Type} {Q Q' : α → γ → Prop} (hq : ∀ a c, Q a c → Q' a c) : ∀ {azz : List α} {cs : List γ}, Rel2 Q azz cs → Rel2 Q' azz cs
 | [], [], _ => trivial
 | a :: azz, c :: cs, h => ⟨hq _ _ h.1, Rel2.mono hq h.2⟩
 | [], _ :: _, h => h.elim
 | _ :: _, [], h => h.elim
theorem Qlb {α γ : Type} [Inhabited α] [Inhabited γ] {sz : Nat} {enc : α → List Dat} {enc' : γ → List Dat} {ys : List α} {zs : List γ} {v : Value} {fp : List Nat} {S : Nat → Prop} (h : OwV w (.l sz enc ys) v fp) (hS : ∀ b ∈ fp, S b)
  (hr : Rel2 (fun y z => ∀ cs, RdVs S w (enc y) cs → RdVs S w (enc' z) cs) ys zs) : RdV S w (.l sz enc' zs) v := by
 obtain ⟨a, c, e1, e2, e3, e4⟩ := RdV.mono (fun b hb => ⟨hS b hb, rfl⟩) _ _ (OwV.rd _ _ _ h)
 obtain ⟨hl, hr⟩ := hr.at
 refine ⟨a, c, by rw [← hl]; exact e1, by omega, by omega, fun i z hz => ?_⟩
 obtain ⟨y, hy, hq⟩ := hr i z hz
 obtain ⟨g1, g2, cs, g3, g4, g5⟩ := e4 i y hy
 exact ⟨g1, g2, cs, g3, g4, hq cs g5⟩
end
theorem fsG1 {a : Fact} {X : Nat} {f : Fact} (h : fsG [(0, some a)] X = some f) : X = 0 ∧ f = a := by
 simp only [fsG] at h
 cases hb : Nat.beq 0 X with
 | true => rw [hb] at h; cases h; exact ⟨(Nat.eq_of_beq_eq_true hb).symm, rfl⟩
 | false => rw [hb] at h; cases h
theorem fsG3 {a b c : Fact} {X : Nat} {f : Fact} (h : fsG [(0, some a), (1, some b), (2, some c)] X = some f) : (X = 0 ∧ f = a) ∨ (X = 1 ∧ f = b) ∨ (X = 2 ∧ f = c) := by
 simp only [fsG] at h
 cases h0 : Nat.beq 0 X with
 | true => rw [h0] at h; cases h; exact .inl ⟨(Nat.eq_of_beq_eq_true h0).symm, rfl⟩
 | false =>
  rw [h0] at h
  cases h1 : Nat.beq 1 X with
  | true => rw [h1] at h; cases h; exact .inr (.inl ⟨(Nat.eq_of_beq_eq_true h1).symm, rfl⟩)
  | false =>
   rw [h1] at h
   cases h2 : Nat.beq 2 X with
   | true => rw [h2] at h; cases h; exact .inr (.inr ⟨(Nat.eq_of_beq_eq_true h2).symm, rfl⟩)
   | false => rw [h2] at h; cases h
section
variable {P : Program} {N : Nat} {ψ IN : Nat → Prop} {w0 w : World} {a : Act}
theorem pack3 {s : St} {T : TypeId} {bx : List Value} {α : Type} [Inhabited α] {sz : Nat} {enc : α → List Dat} {ys : List α} {X : FX} {rest : List Nat} {β : Nat → Nat → Value} {φ : Nat → List Nat} {dom : Nat → Prop} (V : StOK P N ψ IN w0 s a w β φ dom)
  (h0 : fsG s.fs 0 = some (.box T (bx.map .v))) (h1 : ∃ g, fsG s.fs 1 = some g ∧ g.mod = true) (hr : Qgm (fsG s.fs) rest = true) (hnd : Ki (0 :: 1 :: rest) = true) (hd2 : dom 2)
  (ho : OwV w (.l sz enc ys) (β 1 0) (φ 1)) (hx : (rest.flatMap φ).Nodup → (∀ b ∈ rest.flatMap φ, b < w.heap.size) → X.ow w (β 2 0) (rest.flatMap φ)) :
  Holds P N ψ IN w0 ⟨s.sl, [(0, some (.box T (bx.map .v))), (1, some (.own 1 (.l sz enc ys))), (2, some (.own 2 (.x X)))], s.nx⟩ a w := by
 have R := V.rel
 have hnn := Kx hnd
 have hm := Eo hr
 obtain ⟨n1, n2⟩ := List.nodup_cons.1 hnn
 obtain ⟨n3, n4⟩ := List.nodup_cons.1 n2
 obtain ⟨g1, h1, h1m⟩ := h1
 refine ⟨β, fun X => if X = 2 then rest.flatMap φ else φ X, dom, V.size, V.defers, V.has, ?_, V.bound⟩
 refine R.pack (fun X => if X = 2 then rest else [X]) (fun Y f hY => ?_) (fun Y f hY hmod b hb => ?_) (fun Y Y' hne hY hY' Z hZ hZ' => ?_)
 ·rcases fsG3 hY with ⟨rfl, rfl⟩ | ⟨rfl, rfl⟩ | ⟨rfl, rfl⟩
  ·exact ⟨(R.ok 0 _ h0).1, (R.ok 0 _ h0).2⟩
  ·exact ⟨(R.ok 1 _ h1).1, (R.ok 1 _ h1).1, ho⟩
  ·exact ⟨hd2, hd2, by simp only [if_true]; exact hx (R.flat_nd n4 hm) (R.flat_lt hm)⟩
 ·rcases fsG3 hY with ⟨rfl, rfl⟩ | ⟨rfl, rfl⟩ | ⟨rfl, rfl⟩
  ·exact ⟨0, List.mem_singleton.2 rfl, ⟨_, h0, rfl⟩, hb⟩
  ·exact ⟨1, List.mem_singleton.2 rfl, ⟨_, h1, h1m⟩, hb⟩
  ·simp only [if_true] at hb ⊢
   obtain ⟨Z, k1, k2⟩ := List.mem_flatMap.1 hb
   exact ⟨Z, k1, hm Z k1, k2⟩
 ·obtain ⟨f, hf⟩ := hY
  obtain ⟨f', hf'⟩ := hY'
  have n1' : (0 : Nat) ∉ rest := fun h => n1 (List.mem_cons_of_mem _ h)
  rcases fsG3 hf with ⟨rfl, _⟩ | ⟨rfl, _⟩ | ⟨rfl, _⟩ <;> rcases fsG3 hf' with ⟨rfl, _⟩ | ⟨rfl, _⟩ | ⟨rfl, _⟩ <;> simp only [if_true, if_neg (show ¬ (0 : Nat) = 2 by decide), if_neg (show ¬ (1 : Nat) = 2 by decide), List.mem_singleton] at hZ hZ'
  all_goals first | exact hne rfl | (subst hZ; exact n1' hZ') | (subst hZ; exact n3 hZ') | (subst hZ'; exact n1' hZ) | (subst hZ'; exact n3 hZ) | (subst hZ; cases hZ')
theorem pack1 {s : St} {t : Nat} {d : Dat} {X : FX} {e : Dat} {nx : Nat} (hfs : s.fs = [(0, some (.own 0 d)), (1, some (.own 1 (.x X)))]) (hnx : s.nx = nx) (hsl : slG s.sl t = some (.h 0 0))
  (hr : ∀ (v y : Value) (f g : List Nat), OwV w d v f → X.ow w y g → RdV (fun b => b ∈ f ++ g) w e v) (H : Holds P N ψ IN w0 s a w) :
  Holds P N ψ IN w0 ⟨[(t, some (.h 0 0))], [(0, some (.own 0 (.b e)))], nx⟩ a w := by
 obtain ⟨β, φ, dom, V⟩ := H
 have R := V.rel
 have h0 : fsG s.fs 0 = some (.own 0 d) := by rw [hfs]; rfl
 have h1 : fsG s.fs 1 = some (.own 1 (.x X)) := by rw [hfs]; rfl
 obtain ⟨k1, _, k2⟩ := R.ok 0 _ h0
 obtain ⟨q1, _, q2⟩ := R.ok 1 _ h1
 have hm : ∀ id ∈ [0, 1], ∃ g, fsG s.fs id = some g ∧ g.mod = true := fun id hid => by
  rcases List.mem_cons.1 hid with rfl | hid
  ·exact ⟨_, h0, rfl⟩
  ·obtain rfl := List.mem_singleton.1 hid; exact ⟨_, h1, rfl⟩
 have hfm : [0, 1].flatMap φ = φ 0 ++ φ 1 := by simp
 have hnd := R.flat_nd (ids := [0, 1]) (by decide) hm
 have hlt := R.flat_lt (ids := [0, 1]) hm
 rw [hfm] at hnd hlt
 refine ⟨β, fun X => if X = 0 then φ 0 ++ φ 1 else φ X, dom, V.size, V.defers, fun t' av ht => ?_, ?_, fun id hid => hnx ▸ V.bound id hid⟩
 ·simp only [slG] at ht
  cases hb : Nat.beq t t' with
  | true =>
   rw [hb] at ht
   cases ht
   have e := Nat.eq_of_beq_eq_true hb
   subst e
   exact V.has t _ hsl
  | false => rw [hb] at ht; cases ht
 ·refine R.pack (fun X => if X = 0 then [0, 1] else [X]) (fun Y f hY => ?_) (fun Y f hY hmod b hb => ?_) (fun Y Y' hne hY hY' Z hZ hZ' => ?_)
  ·obtain ⟨rfl, rfl⟩ := fsG1 hY
   exact ⟨k1, k1, by simp only [if_true]; exact ⟨hr _ _ _ _ k2 q2, hnd, hlt⟩⟩
  ·obtain ⟨rfl, rfl⟩ := fsG1 hY
   simp only [if_true] at hb ⊢
   rcases List.mem_append.1 hb with hb | hb
   ·exact ⟨0, by simp, hm 0 (by simp), hb⟩
   ·exact ⟨1, by simp, hm 1 (by simp), hb⟩
  ·obtain ⟨f, hf⟩ := hY
   obtain ⟨f', hf'⟩ := hY'
   exact hne ((fsG1 hf).1.trans (fsG1 hf').1.symm)
end
theorem ifb (c : Bool) {A B : Prop} (a : c = true → A) (b : c = false → B) : (c = true → A) ∧ (c = false → B) := ⟨a, b⟩
theorem ifd (p : Prop) [Decidable p] {A B : Prop} (a : decide p = true → p → A) (b : decide p = false → ¬ p → B) : (decide p = true → A) ∧ (decide p = false → B) :=
 ⟨fun h => a h (of_decide_eq_true h), fun h => b h (of_decide_eq_false h)⟩
theorem ife (x y : Int) {A B : Prop} (a : (x == y) = true → x = y → A) (b : (x == y) = false → ¬ x = y → B) : ((x == y) = true → A) ∧ ((x == y) = false → B) :=
 ⟨fun h => a h (eq_of_beq h), fun h => b h (beqF h)⟩
theorem ifn (x y : Int) {A B : Prop} (a : (x != y) = true → ¬ x = y → A) (b : (x != y) = false → x = y → B) : ((x != y) = true → A) ∧ ((x != y) = false → B) :=
 ⟨fun h => a h (bneT h), fun h => b h (bneF h)⟩
theorem kn {α : Type} (xs : List α) {K : Prop} (k : xs.length ≤ 9223372036854775807 → K) : xs.length ≤ 9223372036854775807 → K := k
abbrev ib (k : Int) {α : Type} (l : List α) : Prop := 0 ≤ k ∧ k < (l.length : Int)
theorem fiB (r c : Bool) (h : r = c) : (.bool r : Value) = .bool c ∧ True := ⟨h ▸ rfl, trivial⟩
theorem fiS (r c : ByteArray) (h : r = c) : (.string r : Value) = .string c ∧ True := ⟨h ▸ rfl, trivial⟩
theorem fiI (r c : Int) (h : r = c) : (.int .i64 r : Value) = .int .i64 c ∧ True := ⟨h ▸ rfl, trivial⟩
abbrev Rf (x : Value) : Prop := x = x
abbrev Im (x : Dat) : Prop := Imp x x
abbrev LpX {σ ρ : Type} (step : σ → Lp σ ρ) (N : Nat × σ) : Lp σ ρ := runL step N.1 N.2
abbrev LpJ {σ ρ : Type} (step : σ → Lp σ ρ) (N i : Nat × σ) (I : Prop) : Prop := runL step i.1 i.2 = runL step N.1 N.2 ∧ I
abbrev LpH {σ ρ : Type} (step : σ → Lp σ ρ) (N i : Nat × σ) (m : Nat) (v : σ) (I : Prop) : Prop := runL step (m + 1) v = runL step N.1 N.2 ∧ m < i.1 ∧ I
theorem iok (x : Int) (h : -9223372036854775808 ≤ x ∧ x ≤ 9223372036854775807) : i64ok x := h
theorem bokr {α : Type} [Inhabited α] (sz : Nat) (enc : α → List Dat) (ys : List α) (hl : ∀ y, (enc y).length = sz) : BuildOK ys.length sz (ys.map enc).flatten (.l sz enc ys) := BuildOK.mk enc ys rfl (Imps.refl _) hl
theorem appr {α : Type} [Inhabited α] (sz : Nat) (enc : α → List Dat) (xs ys : List α) (hl : ∀ y, (enc y).length = sz) : AppA (.l sz enc xs) ys.length sz (ys.map enc).flatten (.l sz enc (xs ++ ys)) := AppA.mk enc xs ys (Imp.refl _) rfl (Imps.refl _) hl
theorem setr {α : Type} [Inhabited α] (sz : Nat) (enc : α → List Dat) (xs : List α) (k : Nat) (x : α) : SetOK (.l sz enc xs) k (enc (xs.getD k default)) (enc x) (.l sz enc (xs.set k x)) := SetOK.mk enc xs x rfl (Imps.refl _)
def datV : Dat → Value
 | .v x => x
 | _ => default
def Plain {α : Type} (k : Nat) (e : α → List Dat) : Prop := ∀ x, (e x).length = k ∧ ∀ d ∈ e x, ∃ v, d = .v v ∧ v.oneCell' = true
def encV {α : Type} (e : α → List Dat) (x : α) : List Value := (e x).map datV
theorem Plain.len {α : Type} {k : Nat} {e : α → List Dat} (h : Plain k e) (x : α) : (encV e x).length = k := by rw [encV, List.length_map, (h x).1]
theorem Plain.one {α : Type} {k : Nat} {e : α → List Dat} (h : Plain k e) (x : α) : ∀ v ∈ encV e x, v.oneCell' = true := fun v hv => by
 obtain ⟨d, hd, rfl⟩ := List.mem_map.1 hv
 obtain ⟨v, rfl, h1⟩ := (h x).2 d hd
 exact h1
end Go.Proofs.YthjaknclldmheaaGreatDoor
namespace Go.Proofs.YthjaknclldmheaaGreatDoor
open Go.RowKit Go.Shelf
set_option linter.unusedVariables false
set_option linter.unusedSimpArgs false
section
variable {P : Program} {ρ : Go.Shelf.Ren}
theorem Qlp (SS : Nat → Prop) (w : World) (n : Nat) : Chg SS w (w.drewN n) := ⟨rfl, rfl, rfl, Nat.le_refl _, fun _ _ _ => rfl, Nat.le_add_right _ _⟩
theorem Qll (SS : Nat → Prop) (w : World) (o : Obj) : Chg SS w (w.alloc o) := Chg.of_below (Ek w o)
def cut3 (s sep : ByteArray) : ByteArray × ByteArray × Bool := (⟨(Lib.cut s.data.toList sep.data.toList).1.toArray⟩, ⟨(Lib.cut s.data.toList sep.data.toList).2.1.toArray⟩, (Lib.cut s.data.toList sep.data.toList).2.2)
theorem cut_ok (L : Lays.n145 P ρ) (hg : ρ.g 1 ∈ GBi) (s sep : ByteArray) : Spec.ok P (ρ.f 145) ⟨[.r (.c (.v (.string s))), .r (.c (.v (.string sep)))], .tu [.v (.string (cut3 s sep).1), .v (.string (cut3 s sep).2.1), .v (.bool (cut3 s sep).2.2)], s.size ≤ 4294967280⟩ := by
 intro hs S w vs fp hS hG hA
 obtain ⟨u, us, f, g, rfl, ⟨⟨rfl, _⟩, rfl⟩, ⟨u2, us2, f2, g2, rfl, ⟨⟨rfl, _⟩, rfl⟩, ⟨rfl, rfl⟩, rfl, _⟩, rfl, _⟩ := hA
 obtain ⟨m, hm⟩ := hG.1.2.1 _ hg
 have hs : s.size ≤ 4294967280 := hs
 refine (Any.strings_Cut L s sep m w (by omega) hm).mono fun e w' ⟨h1, n, h2⟩ => ?_
 subst h2
 exact ⟨_, [], [], h1, ⟨[_, _, _], rfl, _, _, [], [], rfl, ⟨rfl, rfl, rfl⟩, ⟨_, _, [], [], rfl, ⟨rfl, rfl, rfl⟩, ⟨_, _, [], [], rfl, ⟨rfl, rfl, rfl⟩, ⟨rfl, rfl⟩, rfl⟩, rfl⟩, rfl⟩,
  ⟨_, _, [], [], rfl, rfl, ⟨_, _, [], [], rfl, rfl, rfl, rfl⟩, rfl⟩, List.nodup_nil, fun b hb => by simp at hb, Qlp _ w n⟩
def Qi (s sep : ByteArray) : List ByteArray := Lib.splitB sep 0 (Lib.countB s sep) s
theorem Qio (w : World) : ∀ ys : List ByteArray, OwVs w (ys.map eStr).flatten (ys.map Value.string) []
 | [] => ⟨rfl, rfl⟩
 | y :: ys => ⟨.string y, ys.map Value.string, [], [], rfl, ⟨rfl, rfl, rfl⟩, Qio w ys, rfl, List.nodup_nil⟩
theorem Bh (s sep : ByteArray) (h1 : 1 ≤ sep.size) : (Qi s sep).length = Lib.countB s sep + 1 := Lib.splitB_all sep h1 0 _ s rfl
theorem Qrt (L : Lays.n146 P ρ) (hi9 : (P.info? (ρ.t 9)).map (fun i => (i.zero, i.size, i.bytes)) = some (some (.string ByteArray.empty), 1, 16)) (hg : ρ.g 1 ∈ GBi) (s sep : ByteArray) :
  Spec.ok P (ρ.f 146) ⟨[.r (.c (.v (.string s))), .r (.c (.v (.string sep)))], .ow (.l 1 eStr (Qi s sep)), s.size ≤ 4294967280 ∧ 1 ≤ sep.size⟩ := by
 intro ⟨hs, h1⟩ S w vs fp hS hG hA
 obtain ⟨u, us, f, g, rfl, ⟨⟨rfl, _⟩, rfl⟩, ⟨u2, us2, f2, g2, rfl, ⟨⟨rfl, _⟩, rfl⟩, ⟨rfl, rfl⟩, rfl, _⟩, rfl, _⟩ := hA
 obtain ⟨m, hm⟩ := hG.1.2.1 _ hg
 have hle := Lib.countB_le sep h1 s.size s (Nat.le_refl _)
 have hlen := Bh s sep h1
 refine (Any.strings_Split L hi9 s sep m w (by omega) hm h1).mono fun e w' ⟨h2, h3⟩ => ?_
 subst h3
 refine ⟨_, [w.heap.size], [], h2, ?_, ⟨_, _, [], [], rfl, rfl, ⟨_, _, [], [], rfl, rfl, rfl, rfl⟩, rfl⟩, by simp, fun b hb => ?_, (Qll _ w _).toD _⟩
 ·rw [← hlen]
  refine Gi (ys := Qi s sep) (vs := (Qi s sep).map Value.string) (rest := []) (c := (Qi s sep).length) (T := ρ.t 9) (Qio _ _) (fun y _ => rfl) (Ek w _) (by simp) ?_ (by simp) (Nat.le_refl _) (by omega)
  simp only [List.append_nil]
  exact heap_alloc_new w _
 ·have hb : b = w.heap.size := by simpa using hb
  subst hb
  exact ⟨by simp, .inr (Nat.le_refl _)⟩
theorem Qha (s sep : ByteArray) (h1 : 1 ≤ sep.size) : 1 ≤ (Qi s sep).length := (Bh s sep h1).symm ▸ Nat.le_add_left 1 _
theorem Qkg (s sep : ByteArray) (h1 : 1 ≤ sep.size) : (Qi s sep).length ≤ s.size + 1 := by
 rw [Bh s sep h1]
 have := Lib.countB_le sep h1 s.size s (Nat.le_refl _)
 omega
theorem Po (s sep : ByteArray) : ((cut3 s sep).1.size : Int) ≤ (s.size : Int) := by
 have : (cut3 s sep).1.size ≤ s.size := by
  show (Lib.cut s.data.toList sep.data.toList).1.toArray.size ≤ s.data.size
  unfold Lib.cut
  split
  ·simp only [List.size_toArray, List.length_take, List.length_drop]
   have : s.data.toList.length = s.data.size := by simp
   omega
  ·simp
 omega
theorem Qrw (s sep : ByteArray) : ((cut3 s sep).2.1.size : Int) ≤ (s.size : Int) := by
 have : (cut3 s sep).2.1.size ≤ s.size := by
  show (Lib.cut s.data.toList sep.data.toList).2.1.toArray.size ≤ s.data.size
  unfold Lib.cut
  split
  ·simp only [List.size_toArray, List.length_take, List.length_drop]
   have : s.data.toList.length = s.data.size := by simp
   omega
  ·simp
 omega
def Uu (xs : List ByteArray) (sep : ByteArray) : ByteArray := ⟨(Lib.join (xs.map (·.data.toList)) sep.data.toList).toArray⟩
theorem Qty (L : Lays.n156 P ρ) (X : Builder.Extra P ρ) (xs : List ByteArray) (sep : ByteArray) :
  Spec.ok P (ρ.f 156) ⟨[.r (.c (.l 1 eStr xs)), .r (.c (.v (.string sep)))], .v (.string (Uu xs sep)), xs.length ≤ 140737488355328 ∧ (Uu xs sep).size ≤ 140737488355328⟩ false := by
 intro ⟨hl, hj⟩ S w vs fp hS hG hA
 obtain ⟨u, us, f, g, rfl, ⟨⟨a, c, rfl, hc, h63, hx⟩, rfl⟩, ⟨u2, us2, f2, g2, rfl, ⟨⟨rfl, _⟩, rfl⟩, ⟨rfl, rfl⟩, rfl, _⟩, rfl, _⟩ := hA
 have fin : ∀ (e : Ending) (w' : World), e = .returned (.string (Uu xs sep)) → Below w.heap.size w w' → ∃ rv fr fb, e = .returned rv ∧ RTOK w' (.v (.string (Uu xs sep))) rv fr ∧ Hm w' [.r (.c (.l 1 eStr xs)), .r (.c (.v (.string sep)))] [.slice a xs.length c, .string sep] fb ∧ (fr ++ fb).Nodup ∧ (∀ b ∈ fr ++ fb, b < w'.heap.size ∧ (b ∈ ([] ++ ([] ++ []) : List Nat) ∨ w.heap.size ≤ b)) ∧ Chg (· ∈ ([] ++ ([] ++ []) : List Nat)) (atD false w) w' :=
  fun e w' h1 h2 => ⟨_, [], [], h1, ⟨rfl, rfl, rfl⟩, ⟨_, _, [], [], rfl, rfl, ⟨_, _, [], [], rfl, rfl, rfl, rfl⟩, rfl⟩, List.nodup_nil, fun b hb => by simp at hb, ⟨h2.os, h2.tape, h2.output, h2.size, fun k hk _ => h2.block k hk, Nat.zero_le _⟩⟩
 cases xs with
 | nil =>
  refine (Any.strings_Join_none L X a c sep w).mono fun e w' ⟨h1, h2⟩ => fin e w' ?_ (h2 ▸ Below.refl _ _)
  rw [h1]; rfl
 | cons x xs =>
  obtain ⟨ha, hSb, _⟩ := hx 0 x rfl
  rw [ha]
  refine (Any.strings_Join L X (ab a) (ao a) c (x :: xs) sep w (fun j y hy => ?_) (hS _ hSb).1 hl hc (by simpa [Uu, ByteArray.size] using hj)).mono fun e w' ⟨h1, h2⟩ => ?_
  ·obtain ⟨_, _, cs, h1, h2, h3⟩ := hx j y hy
   obtain ⟨u, us, rfl, ⟨rfl, _⟩, _⟩ := h3
   have := h2 0 _ rfl
   simpa using this
  ·have := fin e w' h1 h2
   rw [ha] at this
   exact this
def Yv (xs : List ByteArray) : List ByteArray := ((xs.map (·.data.toList)).mergeSort fun x y => decide (x ≤ y)).map fun l => ⟨l.toArray⟩
theorem Yy (xs : List ByteArray) : (Yv xs).length = xs.length := by simp [Yv, List.length_mergeSort]
open Go.Sort in
theorem Qpz (L : Lays.n190 P ρ) (xs : List ByteArray) :
  Spec.ok P (ρ.f 190) ⟨[.ow (.l 1 eStr xs) (some (.l 1 eStr (Yv xs)))], .tu [], xs.length ≤ 4000000000000000000⟩ := by
 intro hl S w vs fp hS hG hA
 have hl : xs.length ≤ 4000000000000000000 := hl
 obtain ⟨u, us, f, g, rfl, hO, ⟨rfl, rfl⟩, rfl, hnd⟩ := hA
 simp only [List.append_nil] at hnd hS ⊢
 obtain ⟨a, c, rfl, hc, h63, hO⟩ := hO
 by_cases hx : xs = []
 ·subst hx
  refine (calls_of_every_depth fun D => AnyS.slices_Sort_string_none_in L D a c w).mono fun e' w' ⟨h1, h2⟩ => ?_
  subst h2
  have hs : Yv [] = [] := by simp [Yv]
  refine ⟨_, [], f, h1, ⟨[], rfl, rfl, rfl⟩, ⟨_, _, f, [], rfl, ?_, rfl, by simp⟩, by simpa using hnd, fun b hb => ?_, (Chg.of_below (Bel.refl _ _)).toD _⟩
  ·show OwV w' (.l 1 eStr (Yv [])) _ f
   rw [hs]; exact ⟨a, c, rfl, hc, h63, hO⟩
  ·have hb : b ∈ f := by simpa using hb
   exact ⟨OwV.lt (.l 1 eStr ([] : List ByteArray)) _ f ⟨a, c, rfl, hc, h63, hO⟩ b hb, .inl hb⟩
 rcases hO with ⟨_, rfl, _⟩ | ⟨b, o, T, cells, fps, rfl, hbox, hlen, hfl, hel, rfl, hnd'⟩
 ·exact absurd rfl hx
 let zs : List (List UInt8) := xs.map (·.data.toList)
 have hzl : zs.length = xs.length := by simp [zs]
 let ss : List (List UInt8) := zs.mergeSort fun x y => decide (x ≤ y)
 have hsl : ss.length = xs.length := by simp [ss, List.length_mergeSort, hzl]
 have hcell : ∀ i (hi : i < xs.length), cells[o + i]? = some (.string xs[i]) ∧ fps[i]'(by omega) = [] := fun i hi => by
  obtain ⟨h1, h2⟩ := hel i xs[i] (fps[i]'(by omega)) (List.getElem?_eq_getElem hi) (List.getElem?_eq_getElem _)
  obtain ⟨v, vs', f1, f2, h3, ⟨rfl, _, rfl⟩, ⟨rfl, rfl⟩, h4, _⟩ := h2
  refine ⟨?_, by rw [h4]; rfl⟩
  have := congrArg (fun l : List Value => l[0]?) h3
  simpa [List.getElem?_take, List.getElem?_drop] using this
 have hH : Go.Sort.Holds encStr w b o zs.toArray := by
  intro j hj
  have hj' : j < xs.length := by simpa [zs] using hj
  have hb' : w.heap[b]? = some (.cells cells.toArray T (0, 0)) := hbox
  refine ⟨?_, by simp [World.frozen?, hb']⟩
  rw [getElem!_pos zs.toArray j hj]
  simp only [World.cell?, hb']
  simp only [Option.isSome_none, Bool.false_eq_true, if_false, List.getElem?_toArray]
  rw [(hcell j hj').1]
  simp [zs, encStr]
 have hcall := calls_of_every_depth fun D => AnyS.slices_Sort_string_alone L D b o c zs w hH hbox.lt (by omega)
 rw [hzl] at hcall
 refine hcall.mono fun e' w' ⟨h1, n, os, hw'⟩ => ?_
 have hsz : (putRow encStr (Sort.ahead w n) b o ss.toArray).heap.size = w.heap.size := by simp [putRow, mapBlock, Sort.ahead]
 have s1 : ∀ b', b' < w.heap.size → b' ≠ b → w'.heap[b']? = w.heap[b']? := fun b' hb' hne => by
  rw [hw']
  show ((putRow encStr (Sort.ahead w n) b o ss.toArray).heap ++ os)[b']? = _
  rw [Array.getElem?_append_left (by rw [hsz]; exact hb')]
  simp only [putRow, mapBlock, Sort.ahead, Array.getElem?_modify]
  rw [if_neg (Ne.symm hne)]
 have s2 : w.heap.size ≤ w'.heap.size := by
  rw [hw']
  show _ ≤ ((putRow encStr (Sort.ahead w n) b o ss.toArray).heap ++ os).size
  rw [Array.size_append, hsz]; omega
 let cells' : List Value := (putCells encStr o ss.toArray cells.toArray).toList
 have hcl : cells'.length = cells.length := by simp [cells', putCells]
 have hbox' : Box w' b T cells' := by
  show w'.heap[b]? = _
  rw [hw']
  show ((putRow encStr (Sort.ahead w n) b o ss.toArray).heap ++ os)[b]? = _
  have hb' : w.heap[b]? = some (.cells cells.toArray T (0, 0)) := hbox
  rw [Array.getElem?_append_left (by rw [hsz]; exact hbox.lt)]
  simp only [putRow, mapBlock, Sort.ahead, Array.getElem?_modify, if_true, hb', Option.map_some, onCells]
  simp [cells']
 have hc' : ∀ i (hi : i < xs.length), cells'[o + i]? = some (.string ((Yv xs)[i]'(by rw [Yy]; exact hi))) := fun i hi => by
  have hin : o + i < cells.length := by omega
  simp only [cells', putCells, Array.getElem?_toList, Array.getElem?_mapIdx]
  rw [Array.getElem?_eq_getElem (by simp; omega)]
  simp only [Option.map_some]
  rw [if_pos ⟨by omega, by simp only [List.size_toArray]; omega⟩]
  have e1 : o + i - o = i := by omega
  rw [e1, getElem!_pos ss.toArray i (by simp only [List.size_toArray]; omega)]
  simp [encStr, Yv, ss, zs]
 refine ⟨_, [], b :: fps.flatten, h1, ⟨[], rfl, rfl, rfl⟩, ⟨_, _, b :: fps.flatten, [], rfl, ?_, rfl, by simp⟩, by simpa using hnd', fun b' hb' => ?_, Chg.toD _ ?_⟩
 ·have hflat : fps.flatten = [] := by
   rw [List.flatten_eq_nil_iff]
   intro f hf
   obtain ⟨i, hi, rfl⟩ := List.getElem_of_mem hf
   exact (hcell i (by omega)).2
  show OwV w' (.l 1 eStr (Yv xs)) _ _
  refine ⟨_, c, by rw [Yy], by rw [Yy]; exact hc, by rw [Yy]; exact h63, .inr ⟨b, o, T, cells', List.replicate xs.length [], rfl, hbox', by rw [hcl, hlen], by simp [Yy], fun i x f hx hf => ?_, by rw [hflat]; simp, hnd'⟩⟩
  have hi : i < xs.length := by have := (List.getElem?_eq_some_iff.1 hx).1; rwa [Yy] at this
  have hf' : f = [] := by
   rw [List.getElem?_replicate, if_pos hi] at hf
   exact (Option.some.inj hf).symm
  have hxe : (Yv xs)[i]'(by rw [Yy]; exact hi) = x := (List.getElem?_eq_some_iff.1 hx).2
  have htk : (cells'.drop (o + i * 1)).take 1 = [.string x] := by
   have h2 := hc' i hi
   rw [hxe] at h2
   refine List.ext_getElem? fun j => ?_
   rw [List.getElem?_take, Nat.mul_one]
   cases j with
   | zero => simp [List.getElem?_drop, h2]
   | succ j => simp
  rw [htk, hf']
  exact ⟨rfl, _, _, [], [], rfl, ⟨rfl, rfl, rfl⟩, ⟨rfl, rfl⟩, rfl, List.nodup_nil⟩
 ·have hb2 : b' ∈ b :: fps.flatten := by simpa using hb'
  refine ⟨Nat.lt_of_lt_of_le ?_ s2, .inl hb2⟩
  rcases List.mem_cons.1 hb2 with rfl | h
  ·exact hbox.lt
  ·exact OwV.lt (.l 1 eStr xs) _ _ ⟨_, c, rfl, hc, h63, .inr ⟨b, o, T, cells, fps, rfl, hbox, hlen, hfl, hel, rfl, hnd'⟩⟩ b' (List.mem_cons_of_mem _ h)
 ·refine ⟨by rw [hw']; rfl, by rw [hw']; rfl, by rw [hw']; rfl, s2, fun k' hk' hn => s1 k' hk' fun e => hn (by rw [e]; exact List.mem_cons_self), ?_⟩
  rw [hw']
  show w.drawn ≤ w.drawn + n
  omega
end
end Go.Proofs.YthjaknclldmheaaGreatDoor
namespace Go.Proofs.YthjaknclldmheaaGreatDoor
open Go.Shelf Go.RowKit
def Qfp : Go.Shelf.Ren := ⟨fun | 145 => 34 | 220 => 67 | 219 => 97 | 217 => 128 | 225 => 129 | 224 => 130 | 267 => 131 | 266 => 171 | 314 => 172 | n => n, fun | 9 => 9 | 4 => 4 | 59 => 61 | 3 => 3 | 5 => 5 | 46 => 98 | 146 => 176 | 51 => 140 | n => n, fun | 1 => 0 | n => n⟩
theorem layCut : Go.Proofs.Lays.n145 Tryz.prog Qfp := {
 mixed := by kernel_rfl
 f145 := Tryz.func34.trans (congrArg some (by kernel_rfl))
 f217 := Tryz.func128.trans (congrArg some (by kernel_rfl))
 f219 := Tryz.func97.trans (congrArg some (by kernel_rfl))
 f220 := Tryz.func67.trans (congrArg some (by kernel_rfl))
 f224 := Tryz.func130.trans (congrArg some (by kernel_rfl))
 f225 := Tryz.func129.trans (congrArg some (by kernel_rfl))
 f266 := Tryz.func171.trans (congrArg some (by kernel_rfl))
 f267 := Tryz.func131.trans (congrArg some (by kernel_rfl))
 f314 := Tryz.func172.trans (congrArg some (by kernel_rfl))
 t3 := Tryz.underlying3
 a3 := Tryz.isAgg3
 z3 := Tryz.sizeOf3
 v3 := Tryz.zeroValue3
 t4 := Tryz.underlying4
 a4 := Tryz.isAgg4
 z4 := Tryz.sizeOf4
 v4 := Tryz.zeroValue4
 t5 := Tryz.underlying5
 a5 := Tryz.isAgg5
 z5 := Tryz.sizeOf5
 v5 := Tryz.zeroValue5
 t9 := Tryz.underlying9
 a9 := Tryz.isAgg9
 z9 := Tryz.sizeOf9
 v9 := Tryz.zeroValue9
 t46 := Tryz.underlying98
 a46 := Tryz.isAgg98
 z46 := Tryz.sizeOf98
 v46 := Tryz.zeroValue98
 t51 := Tryz.underlying140
 a51 := Tryz.isAgg140
 z51 := Tryz.sizeOf140
 v51 := Tryz.zeroValue140
 t59 := Tryz.underlying61
 a59 := Tryz.isAgg61
 z59 := Tryz.sizeOf61
 v59 := Tryz.zeroValue61
 t146 := Tryz.underlying176
 a146 := Tryz.isAgg176
 z146 := Tryz.sizeOf176
 v146 := Tryz.zeroValue176
 g1 := by kernel_rfl }
def Qdl : Go.Shelf.Ren := ⟨fun | 145 => 34 | 220 => 67 | 219 => 97 | 217 => 128 | 225 => 129 | 224 => 130 | 267 => 131 | 266 => 171 | 314 => 172 | n => n, fun | 9 => 9 | 4 => 4 | 59 => 61 | 3 => 3 | 5 => 5 | 46 => 98 | 146 => 176 | 51 => 140 | n => n, fun | 1 => 0 | n => n⟩
theorem layCutM : Go.Proofs.LaysM.n145 Tryz.prog Qdl := {
 mixed := by kernel_rfl
 f145 := Tryz.func34.trans (congrArg some (by kernel_rfl))
 f217 := Tryz.func128.trans (congrArg some (by kernel_rfl))
 f219 := Tryz.func97.trans (congrArg some (by kernel_rfl))
 f220 := Tryz.func67.trans (congrArg some (by kernel_rfl))
 f224 := Tryz.func130.trans (congrArg some (by kernel_rfl))
 f225 := Tryz.func129.trans (congrArg some (by kernel_rfl))
 f266 := Tryz.func171.trans (congrArg some (by kernel_rfl))
 f267 := Tryz.func131.trans (congrArg some (by kernel_rfl))
 f314 := Tryz.func172.trans (congrArg some (by kernel_rfl))
 t3 := Tryz.underlying3
 a3 := Tryz.isAgg3
 z3 := Tryz.sizeOf3
 v3 := Tryz.zeroValue3
 t4 := Tryz.underlying4
 a4 := Tryz.isAgg4
 z4 := Tryz.sizeOf4
 v4 := Tryz.zeroValue4
 t5 := Tryz.underlying5
 a5 := Tryz.isAgg5
 z5 := Tryz.sizeOf5
 v5 := Tryz.zeroValue5
 t9 := Tryz.underlying9
 a9 := Tryz.isAgg9
 z9 := Tryz.sizeOf9
 v9 := Tryz.zeroValue9
 t46 := Tryz.underlying98
 a46 := Tryz.isAgg98
 z46 := Tryz.sizeOf98
 v46 := Tryz.zeroValue98
 t51 := Tryz.underlying140
 a51 := Tryz.isAgg140
 z51 := Tryz.sizeOf140
 v51 := Tryz.zeroValue140
 t59 := Tryz.underlying61
 a59 := Tryz.isAgg61
 z59 := Tryz.sizeOf61
 v59 := Tryz.zeroValue61
 t146 := Tryz.underlying176
 a146 := Tryz.isAgg176
 z146 := Tryz.sizeOf176
 v146 := Tryz.zeroValue176
 g1 := by kernel_rfl
 i3 := by kernel_rfl
 i4 := by kernel_rfl
 i5 := by kernel_rfl
 i9 := by kernel_rfl
 i46 := by kernel_rfl
 i51 := by kernel_rfl
 i59 := by kernel_rfl
 i146 := by kernel_rfl
 m1 := by kernel_rfl
 s1_3 := fun w h => Go.Proofs.cell_of_shapedOpen_int (zero := #[.int .i64 0]) (t := 3) h (of_decide_eq_true (by kernel_rfl)) (by kernel_rfl) rfl (by kernel_rfl) (by kernel_rfl) Tryz.underlying3 }
def Qbk : Go.Shelf.Ren := ⟨fun | 190 => 41 | 125 => 74 | 258 => 73 | 128 => 115 | 129 => 116 | 302 => 106 | 303 => 107 | 304 => 108 | 305 => 109 | 306 => 110 | 307 => 111 | 308 => 112 | 309 => 113 | 310 => 114 | 333 => 146 | 329 => 147 | 330 => 148 | 334 => 149 | 335 => 150 | 336 => 151 | 344 => 186 | n => n, fun | 31 => 22 | 9 => 9 | 3 => 3 | 46 => 98 | 0 => 0 | 51 => 140 | 53 => 142 | 4 => 4 | 183 => 132 | 182 => 131 | 131 => 137 | 5 => 5 | 218 => 157 | 222 => 161 | 228 => 185 | 229 => 186 | n => n, fun | n => n⟩
theorem Qpy : Go.Proofs.Lays.n190 Tryz.prog Qbk := {
 mixed := by kernel_rfl
 f125 := Tryz.func74.trans (congrArg some (by kernel_rfl))
 f128 := Tryz.func115.trans (congrArg some (by kernel_rfl))
 f129 := Tryz.func116.trans (congrArg some (by kernel_rfl))
 f190 := Tryz.func41.trans (congrArg some (by kernel_rfl))
 f258 := Tryz.func73.trans (congrArg some (by kernel_rfl))
 f302 := Tryz.func106.trans (congrArg some (by kernel_rfl))
 f303 := Tryz.func107.trans (congrArg some (by kernel_rfl))
 f304 := Tryz.func108.trans (congrArg some (by kernel_rfl))
 f305 := Tryz.func109.trans (congrArg some (by kernel_rfl))
 f306 := Tryz.func110.trans (congrArg some (by kernel_rfl))
 f307 := Tryz.func111.trans (congrArg some (by kernel_rfl))
 f308 := Tryz.func112.trans (congrArg some (by kernel_rfl))
 f309 := Tryz.func113.trans (congrArg some (by kernel_rfl))
 f310 := Tryz.func114.trans (congrArg some (by kernel_rfl))
 f329 := Tryz.func147.trans (congrArg some (by kernel_rfl))
 f330 := Tryz.func148.trans (congrArg some (by kernel_rfl))
 f333 := Tryz.func146.trans (congrArg some (by kernel_rfl))
 f334 := Tryz.func149.trans (congrArg some (by kernel_rfl))
 f335 := Tryz.func150.trans (congrArg some (by kernel_rfl))
 f336 := Tryz.func151.trans (congrArg some (by kernel_rfl))
 f344 := Tryz.func186.trans (congrArg some (by kernel_rfl))
 t0 := Tryz.underlying0
 a0 := Tryz.isAgg0
 z0 := Tryz.sizeOf0
 v0 := Tryz.zeroValue0
 t3 := Tryz.underlying3
 a3 := Tryz.isAgg3
 z3 := Tryz.sizeOf3
 v3 := Tryz.zeroValue3
 t4 := Tryz.underlying4
 a4 := Tryz.isAgg4
 z4 := Tryz.sizeOf4
 v4 := Tryz.zeroValue4
 t5 := Tryz.underlying5
 a5 := Tryz.isAgg5
 z5 := Tryz.sizeOf5
 v5 := Tryz.zeroValue5
 t9 := Tryz.underlying9
 a9 := Tryz.isAgg9
 z9 := Tryz.sizeOf9
 v9 := Tryz.zeroValue9
 t31 := Tryz.underlying22
 a31 := Tryz.isAgg22
 z31 := Tryz.sizeOf22
 v31 := Tryz.zeroValue22
 t46 := Tryz.underlying98
 a46 := Tryz.isAgg98
 z46 := Tryz.sizeOf98
 v46 := Tryz.zeroValue98
 t51 := Tryz.underlying140
 a51 := Tryz.isAgg140
 z51 := Tryz.sizeOf140
 v51 := Tryz.zeroValue140
 t53 := Tryz.underlying142
 a53 := Tryz.isAgg142
 z53 := Tryz.sizeOf142
 v53 := Tryz.zeroValue142
 t131 := Tryz.underlying137
 a131 := Tryz.isAgg137
 z131 := Tryz.sizeOf137
 v131 := Tryz.zeroValue137
 t182 := Tryz.underlying131
 a182 := Tryz.isAgg131
 z182 := Tryz.sizeOf131
 v182 := Tryz.zeroValue131
 t183 := Tryz.underlying132
 a183 := Tryz.isAgg132
 z183 := Tryz.sizeOf132
 v183 := Tryz.zeroValue132
 t218 := Tryz.underlying157
 a218 := Tryz.isAgg157
 z218 := Tryz.sizeOf157
 v218 := Tryz.zeroValue157
 t222 := Tryz.underlying161
 a222 := Tryz.isAgg161
 z222 := Tryz.sizeOf161
 v222 := Tryz.zeroValue161
 t228 := Tryz.underlying185
 a228 := Tryz.isAgg185
 z228 := Tryz.sizeOf185
 v228 := Tryz.zeroValue185
 t229 := Tryz.underlying186
 a229 := Tryz.isAgg186
 z229 := Tryz.sizeOf186
 v229 := Tryz.zeroValue186 }
def Qak : Go.Shelf.Ren := ⟨fun | 146 => 70 | 221 => 100 | 268 => 134 | 138 => 135 | 143 => 136 | 195 => 178 | 197 => 179 | 218 => 180 | 219 => 97 | 260 => 203 | 217 => 128 | 225 => 129 | 224 => 130 | 267 => 131 | 266 => 171 | 314 => 172 | n => n, fun | 9 => 9 | 31 => 22 | 3 => 3 | 4 => 4 | 0 => 0 | 105 => 179 | 21 => 21 | 5 => 5 | 46 => 98 | 119 => 200 | 139 => 203 | 138 => 202 | 146 => 176 | 51 => 140 | n => n, fun | 1 => 0 | 3 => 1 | 4 => 2 | n => n⟩
theorem Qlz : Go.Proofs.Lays.n146 Tryz.prog Qak := {
 mixed := by kernel_rfl
 f138 := Tryz.func135.trans (congrArg some (by kernel_rfl))
 f143 := Tryz.func136.trans (congrArg some (by kernel_rfl))
 f146 := Tryz.func70.trans (congrArg some (by kernel_rfl))
 f195 := Tryz.func178.trans (congrArg some (by kernel_rfl))
 f197 := Tryz.func179.trans (congrArg some (by kernel_rfl))
 f217 := Tryz.func128.trans (congrArg some (by kernel_rfl))
 f218 := Tryz.func180.trans (congrArg some (by kernel_rfl))
 f219 := Tryz.func97.trans (congrArg some (by kernel_rfl))
 f221 := Tryz.func100.trans (congrArg some (by kernel_rfl))
 f224 := Tryz.func130.trans (congrArg some (by kernel_rfl))
 f225 := Tryz.func129.trans (congrArg some (by kernel_rfl))
 f260 := Tryz.func203.trans (congrArg some (by kernel_rfl))
 f266 := Tryz.func171.trans (congrArg some (by kernel_rfl))
 f267 := Tryz.func131.trans (congrArg some (by kernel_rfl))
 f268 := Tryz.func134.trans (congrArg some (by kernel_rfl))
 f314 := Tryz.func172.trans (congrArg some (by kernel_rfl))
 t0 := Tryz.underlying0
 a0 := Tryz.isAgg0
 z0 := Tryz.sizeOf0
 v0 := Tryz.zeroValue0
 t3 := Tryz.underlying3
 a3 := Tryz.isAgg3
 z3 := Tryz.sizeOf3
 v3 := Tryz.zeroValue3
 t4 := Tryz.underlying4
 a4 := Tryz.isAgg4
 z4 := Tryz.sizeOf4
 v4 := Tryz.zeroValue4
 t5 := Tryz.underlying5
 a5 := Tryz.isAgg5
 z5 := Tryz.sizeOf5
 v5 := Tryz.zeroValue5
 t9 := Tryz.underlying9
 a9 := Tryz.isAgg9
 z9 := Tryz.sizeOf9
 v9 := Tryz.zeroValue9
 t21 := Tryz.underlying21
 a21 := Tryz.isAgg21
 z21 := Tryz.sizeOf21
 v21 := Tryz.zeroValue21
 t31 := Tryz.underlying22
 a31 := Tryz.isAgg22
 z31 := Tryz.sizeOf22
 v31 := Tryz.zeroValue22
 t46 := Tryz.underlying98
 a46 := Tryz.isAgg98
 z46 := Tryz.sizeOf98
 v46 := Tryz.zeroValue98
 t51 := Tryz.underlying140
 a51 := Tryz.isAgg140
 z51 := Tryz.sizeOf140
 v51 := Tryz.zeroValue140
 t105 := Tryz.underlying179
 a105 := Tryz.isAgg179
 z105 := Tryz.sizeOf179
 v105 := Tryz.zeroValue179
 t119 := Tryz.underlying200
 a119 := Tryz.isAgg200
 z119 := Tryz.sizeOf200
 t138 := Tryz.underlying202
 a138 := Tryz.isAgg202
 z138 := Tryz.sizeOf202
 v138 := Tryz.zeroValue202
 t139 := Tryz.underlying203
 a139 := Tryz.isAgg203
 z139 := Tryz.sizeOf203
 v139 := Tryz.zeroValue203
 t146 := Tryz.underlying176
 a146 := Tryz.isAgg176
 z146 := Tryz.sizeOf176
 v146 := Tryz.zeroValue176
 g1 := by kernel_rfl
 g3 := by kernel_rfl
 g4 := by kernel_rfl }
def Lw : Go.Shelf.Ren := ⟨fun | 156 => 72 | 165 => 103 | 166 => 104 | 169 => 105 | 240 => 144 | 241 => 145 | 276 => 184 | 277 => 185 | n => n, fun | 31 => 22 | 9 => 9 | 3 => 3 | 4 => 4 | 0 => 0 | 20 => 20 | 72 => 123 | 76 => 127 | 70 => 121 | 37 => 85 | 75 => 126 | 127 => 156 | 164 => 182 | 5 => 5 | 80 => 129 | n => n, fun | n => n⟩
theorem Quc : Go.Proofs.Lays.n156 Tryz.prog Lw := {
 mixed := by kernel_rfl
 f156 := Tryz.func72.trans (congrArg some (by kernel_rfl))
 f165 := Tryz.func103.trans (congrArg some (by kernel_rfl))
 f166 := Tryz.func104.trans (congrArg some (by kernel_rfl))
 f169 := Tryz.func105.trans (congrArg some (by kernel_rfl))
 f240 := Tryz.func144.trans (congrArg some (by kernel_rfl))
 f241 := Tryz.func145.trans (congrArg some (by kernel_rfl))
 f276 := Tryz.func184.trans (congrArg some (by kernel_rfl))
 f277 := Tryz.func185.trans (congrArg some (by kernel_rfl))
 t0 := Tryz.underlying0
 a0 := Tryz.isAgg0
 z0 := Tryz.sizeOf0
 v0 := Tryz.zeroValue0
 t3 := Tryz.underlying3
 a3 := Tryz.isAgg3
 z3 := Tryz.sizeOf3
 v3 := Tryz.zeroValue3
 t4 := Tryz.underlying4
 a4 := Tryz.isAgg4
 z4 := Tryz.sizeOf4
 v4 := Tryz.zeroValue4
 t9 := Tryz.underlying9
 a9 := Tryz.isAgg9
 z9 := Tryz.sizeOf9
 v9 := Tryz.zeroValue9
 t20 := Tryz.underlying20
 a20 := Tryz.isAgg20
 z20 := Tryz.sizeOf20
 v20 := Tryz.zeroValue20
 t31 := Tryz.underlying22
 a31 := Tryz.isAgg22
 z31 := Tryz.sizeOf22
 v31 := Tryz.zeroValue22
 t37 := Tryz.underlying85
 a37 := Tryz.isAgg85
 z37 := Tryz.sizeOf85
 v37 := Tryz.zeroValue85
 t70 := Tryz.underlying121
 a70 := Tryz.isAgg121
 z70 := Tryz.sizeOf121
 v70 := Tryz.zeroValue121
 t72 := Tryz.underlying123
 a72 := Tryz.isAgg123
 z72 := Tryz.sizeOf123
 v72 := Tryz.zeroValue123
 t75 := Tryz.underlying126
 a75 := Tryz.isAgg126
 z75 := Tryz.sizeOf126
 v75 := Tryz.zeroValue126
 t76 := Tryz.underlying127
 a76 := Tryz.isAgg127
 z76 := Tryz.sizeOf127
 v76 := Tryz.zeroValue127
 t127 := Tryz.underlying156
 a127 := Tryz.isAgg156
 z127 := Tryz.sizeOf156
 v127 := Tryz.zeroValue156
 t164 := Tryz.underlying182
 a164 := Tryz.isAgg182
 z164 := Tryz.sizeOf182
 v164 := Tryz.zeroValue182 }
def layAtoi_ren : Go.Shelf.Ren := ⟨fun | 172 => 205 | 244 => 209 | 245 => 210 | 247 => 212 | 279 => 213 | 280 => 214 | 281 => 215 | 282 => 216 | 287 => 218 | 316 => 219 | 171 => 206 | 205 => 220 | 321 => 225 | 322 => 226 | 243 => 211 | 246 => 217 | 283 => 221 | 284 => 222 | 285 => 223 | 286 => 224 | 129 => 116 | 317 => 227 | 318 => 228 | 319 => 229 | 320 => 230 | 337 => 231 | 338 => 232 | n => n, fun | 9 => 9 | 3 => 3 | 75 => 126 | 76 => 127 | 4 => 4 | 5 => 5 | 167 => 205 | 37 => 85 | 0 => 0 | 85 => 206 | 2 => 2 | 168 => 208 | 53 => 142 | 175 => 212 | 46 => 98 | 210 => 215 | 127 => 156 | 145 => 224 | 143 => 222 | 21 => 21 | 171 => 217 | 173 => 219 | 212 => 226 | 51 => 140 | 20 => 20 | 213 => 227 | 232 => 228 | 233 => 229 | 80 => 129 | n => n, fun | 15 => 3 | 16 => 4 | 17 => 5 | 18 => 6 | 19 => 7 | n => n⟩
theorem Qba : Go.Proofs.LaysC.n172 Tryz.prog layAtoi_ren := {
 mixed := by kernel_rfl
 f129 := Tryz.func116.trans (congrArg some (by kernel_rfl))
 f171 := Tryz.func206.trans (congrArg some (by kernel_rfl))
 f172 := Tryz.func205.trans (congrArg some (by kernel_rfl))
 f205 := Tryz.func220.trans (congrArg some (by kernel_rfl))
 f243 := Tryz.func211.trans (congrArg some (by kernel_rfl))
 f244 := Tryz.func209.trans (congrArg some (by kernel_rfl))
 f245 := Tryz.func210.trans (congrArg some (by kernel_rfl))
 f246 := Tryz.func217.trans (congrArg some (by kernel_rfl))
 f247 := Tryz.func212.trans (congrArg some (by kernel_rfl))
 f279 := Tryz.func213.trans (congrArg some (by kernel_rfl))
 f280 := Tryz.func214.trans (congrArg some (by kernel_rfl))
 f281 := Tryz.func215.trans (congrArg some (by kernel_rfl))
 f282 := Tryz.func216.trans (congrArg some (by kernel_rfl))
 f283 := Tryz.func221.trans (congrArg some (by kernel_rfl))
 f284 := Tryz.func222.trans (congrArg some (by kernel_rfl))
 f285 := Tryz.func223.trans (congrArg some (by kernel_rfl))
 f286 := Tryz.func224.trans (congrArg some (by kernel_rfl))
 f287 := Tryz.func218.trans (congrArg some (by kernel_rfl))
 f316 := Tryz.func219.trans (congrArg some (by kernel_rfl))
 f317 := Tryz.func227.trans (congrArg some (by kernel_rfl))
 f318 := Tryz.func228.trans (congrArg some (by kernel_rfl))
 f319 := Tryz.func229.trans (congrArg some (by kernel_rfl))
 f320 := Tryz.func230.trans (congrArg some (by kernel_rfl))
 f321 := Tryz.func225.trans (congrArg some (by kernel_rfl))
 f322 := Tryz.func226.trans (congrArg some (by kernel_rfl))
 f337 := Tryz.func231.trans (congrArg some (by kernel_rfl))
 f338 := Tryz.func232.trans (congrArg some (by kernel_rfl))
 t0 := Tryz.underlying0
 a0 := Tryz.isAgg0
 z0 := Tryz.sizeOf0
 v0 := Tryz.zeroValue0
 t2 := Tryz.underlying2
 a2 := Tryz.isAgg2
 z2 := Tryz.sizeOf2
 v2 := Tryz.zeroValue2
 t3 := Tryz.underlying3
 a3 := Tryz.isAgg3
 z3 := Tryz.sizeOf3
 v3 := Tryz.zeroValue3
 t4 := Tryz.underlying4
 a4 := Tryz.isAgg4
 z4 := Tryz.sizeOf4
 v4 := Tryz.zeroValue4
 t5 := Tryz.underlying5
 a5 := Tryz.isAgg5
 z5 := Tryz.sizeOf5
 v5 := Tryz.zeroValue5
 t9 := Tryz.underlying9
 a9 := Tryz.isAgg9
 z9 := Tryz.sizeOf9
 v9 := Tryz.zeroValue9
 t20 := Tryz.underlying20
 a20 := Tryz.isAgg20
 z20 := Tryz.sizeOf20
 v20 := Tryz.zeroValue20
 t21 := Tryz.underlying21
 a21 := Tryz.isAgg21
 z21 := Tryz.sizeOf21
 v21 := Tryz.zeroValue21
 t37 := Tryz.underlying85
 a37 := Tryz.isAgg85
 z37 := Tryz.sizeOf85
 v37 := Tryz.zeroValue85
 t46 := Tryz.underlying98
 a46 := Tryz.isAgg98
 z46 := Tryz.sizeOf98
 v46 := Tryz.zeroValue98
 t51 := Tryz.underlying140
 a51 := Tryz.isAgg140
 z51 := Tryz.sizeOf140
 v51 := Tryz.zeroValue140
 t53 := Tryz.underlying142
 a53 := Tryz.isAgg142
 z53 := Tryz.sizeOf142
 v53 := Tryz.zeroValue142
 t75 := Tryz.underlying126
 a75 := Tryz.isAgg126
 z75 := Tryz.sizeOf126
 v75 := Tryz.zeroValue126
 t76 := Tryz.underlying127
 a76 := Tryz.isAgg127
 z76 := Tryz.sizeOf127
 v76 := Tryz.zeroValue127
 t85 := Tryz.underlying206
 a85 := Tryz.isAgg206
 z85 := Tryz.sizeOf206
 v85 := Tryz.zeroValue206
 t127 := Tryz.underlying156
 a127 := Tryz.isAgg156
 z127 := Tryz.sizeOf156
 v127 := Tryz.zeroValue156
 t143 := Tryz.underlying222
 a143 := Tryz.isAgg222
 z143 := Tryz.sizeOf222
 v143 := Tryz.zeroValue222
 t145 := Tryz.underlying224
 a145 := Tryz.isAgg224
 z145 := Tryz.sizeOf224
 v145 := Tryz.zeroValue224
 t167 := Tryz.underlying205
 a167 := Tryz.isAgg205
 z167 := Tryz.sizeOf205
 v167 := Tryz.zeroValue205
 t168 := Tryz.underlying208
 a168 := Tryz.isAgg208
 z168 := Tryz.sizeOf208
 v168 := Tryz.zeroValue208
 t171 := Tryz.underlying217
 a171 := Tryz.isAgg217
 z171 := Tryz.sizeOf217
 v171 := Tryz.zeroValue217
 t173 := Tryz.underlying219
 a173 := Tryz.isAgg219
 z173 := Tryz.sizeOf219
 v173 := Tryz.zeroValue219
 t175 := Tryz.underlying212
 a175 := Tryz.isAgg212
 z175 := Tryz.sizeOf212
 v175 := Tryz.zeroValue212
 t210 := Tryz.underlying215
 a210 := Tryz.isAgg215
 z210 := Tryz.sizeOf215
 v210 := Tryz.zeroValue215
 t212 := Tryz.underlying226
 a212 := Tryz.isAgg226
 z212 := Tryz.sizeOf226
 v212 := Tryz.zeroValue226
 t213 := Tryz.underlying227
 a213 := Tryz.isAgg227
 z213 := Tryz.sizeOf227
 t232 := Tryz.underlying228
 a232 := Tryz.isAgg228
 z232 := Tryz.sizeOf228
 v232 := Tryz.zeroValue228
 t233 := Tryz.underlying229
 a233 := Tryz.isAgg229
 z233 := Tryz.sizeOf229
 v233 := Tryz.zeroValue229
 g15 := by kernel_rfl
 g16 := by kernel_rfl
 g17 := by kernel_rfl
 g18 := by kernel_rfl
 g19 := by kernel_rfl
 t80 := Tryz.underlying129
 a80 := Tryz.isAgg129
 z80 := Tryz.sizeOf129
 v80 := Tryz.zeroValue129
 i0 := by kernel_rfl
 i2 := by kernel_rfl
 i3 := by kernel_rfl
 i4 := by kernel_rfl
 i5 := by kernel_rfl
 i9 := by kernel_rfl
 i20 := by kernel_rfl
 i21 := by kernel_rfl
 i37 := by kernel_rfl
 i46 := by kernel_rfl
 i51 := by kernel_rfl
 i53 := by kernel_rfl
 i75 := by kernel_rfl
 i76 := by kernel_rfl
 i80 := by kernel_rfl
 i85 := by kernel_rfl
 i127 := by kernel_rfl
 i143 := by kernel_rfl
 i145 := by kernel_rfl
 i167 := by kernel_rfl
 i168 := by kernel_rfl
 i171 := by kernel_rfl
 i173 := by kernel_rfl
 i175 := by kernel_rfl
 i210 := by kernel_rfl
 i212 := by kernel_rfl
 i232 := by kernel_rfl
 i233 := by kernel_rfl
 m15 := by kernel_rfl
 m16 := by kernel_rfl
 m17 := by kernel_rfl
 m18 := by kernel_rfl
 m19 := by kernel_rfl
 c0 := by kernel_rfl
 c2 := by kernel_rfl
 c3 := by kernel_rfl
 c4 := by kernel_rfl
 c5 := by kernel_rfl
 c9 := by kernel_rfl
 c20 := by kernel_rfl
 c21 := by kernel_rfl
 c37 := by kernel_rfl
 c46 := by kernel_rfl
 c51 := by kernel_rfl
 c53 := by kernel_rfl
 c75 := by kernel_rfl
 c76 := by kernel_rfl
 c80 := by kernel_rfl
 c85 := by kernel_rfl
 c127 := by kernel_rfl
 c143 := by kernel_rfl
 c145 := by kernel_rfl
 c167 := by kernel_rfl
 c168 := by kernel_rfl
 c171 := by kernel_rfl
 c173 := by kernel_rfl
 c175 := by kernel_rfl
 c210 := by kernel_rfl
 c212 := by kernel_rfl
 c213 := by kernel_rfl
 c232 := by kernel_rfl
 c233 := by kernel_rfl }
def layItoa_ren : Go.Shelf.Ren := ⟨fun | 171 => 206 | 243 => 211 | 246 => 217 | 283 => 221 | 284 => 222 | 285 => 223 | 286 => 224 | 129 => 116 | 317 => 227 | 318 => 228 | 319 => 229 | 320 => 230 | 337 => 231 | 338 => 232 | n => n, fun | 3 => 3 | 9 => 9 | 2 => 2 | 4 => 4 | 171 => 217 | 0 => 0 | 53 => 142 | 37 => 85 | 5 => 5 | 173 => 219 | 212 => 226 | 51 => 140 | 20 => 20 | 213 => 227 | 46 => 98 | 232 => 228 | 233 => 229 | n => n, fun | 17 => 5 | 18 => 6 | 19 => 7 | n => n⟩
theorem layItoa : Go.Proofs.LaysM.n171 Tryz.prog layItoa_ren := {
 mixed := by kernel_rfl
 f129 := Tryz.func116.trans (congrArg some (by kernel_rfl))
 f171 := Tryz.func206.trans (congrArg some (by kernel_rfl))
 f243 := Tryz.func211.trans (congrArg some (by kernel_rfl))
 f246 := Tryz.func217.trans (congrArg some (by kernel_rfl))
 f283 := Tryz.func221.trans (congrArg some (by kernel_rfl))
 f284 := Tryz.func222.trans (congrArg some (by kernel_rfl))
 f285 := Tryz.func223.trans (congrArg some (by kernel_rfl))
 f286 := Tryz.func224.trans (congrArg some (by kernel_rfl))
 f317 := Tryz.func227.trans (congrArg some (by kernel_rfl))
 f318 := Tryz.func228.trans (congrArg some (by kernel_rfl))
 f319 := Tryz.func229.trans (congrArg some (by kernel_rfl))
 f320 := Tryz.func230.trans (congrArg some (by kernel_rfl))
 f337 := Tryz.func231.trans (congrArg some (by kernel_rfl))
 f338 := Tryz.func232.trans (congrArg some (by kernel_rfl))
 t0 := Tryz.underlying0
 a0 := Tryz.isAgg0
 z0 := Tryz.sizeOf0
 v0 := Tryz.zeroValue0
 t2 := Tryz.underlying2
 a2 := Tryz.isAgg2
 z2 := Tryz.sizeOf2
 v2 := Tryz.zeroValue2
 t3 := Tryz.underlying3
 a3 := Tryz.isAgg3
 z3 := Tryz.sizeOf3
 v3 := Tryz.zeroValue3
 t4 := Tryz.underlying4
 a4 := Tryz.isAgg4
 z4 := Tryz.sizeOf4
 v4 := Tryz.zeroValue4
 t5 := Tryz.underlying5
 a5 := Tryz.isAgg5
 z5 := Tryz.sizeOf5
 v5 := Tryz.zeroValue5
 t9 := Tryz.underlying9
 a9 := Tryz.isAgg9
 z9 := Tryz.sizeOf9
 v9 := Tryz.zeroValue9
 t20 := Tryz.underlying20
 a20 := Tryz.isAgg20
 z20 := Tryz.sizeOf20
 v20 := Tryz.zeroValue20
 t37 := Tryz.underlying85
 a37 := Tryz.isAgg85
 z37 := Tryz.sizeOf85
 v37 := Tryz.zeroValue85
 t46 := Tryz.underlying98
 a46 := Tryz.isAgg98
 z46 := Tryz.sizeOf98
 v46 := Tryz.zeroValue98
 t51 := Tryz.underlying140
 a51 := Tryz.isAgg140
 z51 := Tryz.sizeOf140
 v51 := Tryz.zeroValue140
 t53 := Tryz.underlying142
 a53 := Tryz.isAgg142
 z53 := Tryz.sizeOf142
 v53 := Tryz.zeroValue142
 t171 := Tryz.underlying217
 a171 := Tryz.isAgg217
 z171 := Tryz.sizeOf217
 v171 := Tryz.zeroValue217
 t173 := Tryz.underlying219
 a173 := Tryz.isAgg219
 z173 := Tryz.sizeOf219
 v173 := Tryz.zeroValue219
 t212 := Tryz.underlying226
 a212 := Tryz.isAgg226
 z212 := Tryz.sizeOf226
 v212 := Tryz.zeroValue226
 t213 := Tryz.underlying227
 a213 := Tryz.isAgg227
 z213 := Tryz.sizeOf227
 t232 := Tryz.underlying228
 a232 := Tryz.isAgg228
 z232 := Tryz.sizeOf228
 v232 := Tryz.zeroValue228
 t233 := Tryz.underlying229
 a233 := Tryz.isAgg229
 z233 := Tryz.sizeOf229
 v233 := Tryz.zeroValue229
 g17 := by kernel_rfl
 g18 := by kernel_rfl
 g19 := by kernel_rfl
 i0 := by kernel_rfl
 i2 := by kernel_rfl
 i3 := by kernel_rfl
 i4 := by kernel_rfl
 i5 := by kernel_rfl
 i9 := by kernel_rfl
 i20 := by kernel_rfl
 i37 := by kernel_rfl
 i46 := by kernel_rfl
 i51 := by kernel_rfl
 i53 := by kernel_rfl
 i171 := by kernel_rfl
 i173 := by kernel_rfl
 i212 := by kernel_rfl
 i232 := by kernel_rfl
 i233 := by kernel_rfl
 m17 := by kernel_rfl
 m18 := by kernel_rfl
 m19 := by kernel_rfl }
theorem Qmg : Builder.Extra Tryz.prog Lw where
 sizeBuilder := by kernel_rfl
 liesBuilder := by kernel_rfl
 t5 := Tryz.underlying5
 a5 := Tryz.isAgg5
 z5 := Tryz.sizeOf5
 v5 := Tryz.zeroValue5
 infoByte := by kernel_rfl
 cellsByte := by kernel_rfl
 sizeByte := by kernel_rfl
 neB5 := by decide
end Go.Proofs.YthjaknclldmheaaGreatDoor
namespace Go.Proofs.YthjaknclldmheaaGreatDoor
open Go.RowKit
set_option maxRecDepth 100000
set_option linter.unusedVariables false
set_option linter.unusedSimpArgs false
open Go.Shelf
def decN (s : ByteArray) : Int := match Lib.atoiAll s.data.toList with
 | .ok v => bif decide (0 ≤ v) && (Lib.itoa v == s.data.toList) then v else -1
 | _ => -1
theorem GP.tab {w : World} (h : GP w) : Lib.TabIs Tryz.prog w "internal/strconv.uint64pow10" .u64 Lib.pow10Tab := by
 obtain ⟨T, fz, h1⟩ := h.2.2 _ (List.mem_append_right _ (List.mem_singleton.2 rfl))
 have hg := layItoa.m17
 unfold Lib.TabIs World.var?
 rw [hg]
 simp only [Option.bind_some]
 exact (congrArg (fun o => match o with | some (Obj.cells cs _ _) => some cs | _ => none) h1)
theorem GP.err1 {w : World} (h : GP w) : ∃ e, w.cell? ⟨layAtoi_ren.g 15, 0, none⟩ = some e ∧ (e = .nilIface ∨ ∃ te pe, e = .iface te pe) := h.1 _ (by decide)
theorem GP.err2 {w : World} (h : GP w) : ∃ e, w.cell? ⟨layAtoi_ren.g 16, 0, none⟩ = some e ∧ (e = .nilIface ∨ ∃ te pe, e = .iface te pe) := h.1 _ (by decide)
theorem Qmn {w w' : World} (h : Lib.TabIs Tryz.prog w "internal/strconv.uint64pow10" .u64 Lib.pow10Tab) (hb : Below w.heap.size w w') : Lib.TabIs Tryz.prog w' "internal/strconv.uint64pow10" .u64 Lib.pow10Tab := by
 unfold Lib.TabIs World.var? at h ⊢
 rw [layItoa.m17] at h ⊢
 simp only [Option.bind_some] at h ⊢
 have hlt : layItoa_ren.g 17 < w.heap.size := by
  rcases Nat.lt_or_ge (layItoa_ren.g 17) w.heap.size with h1 | h1
  ·exact h1
  ·rw [Array.getElem?_eq_none h1] at h; cases h
 rw [hb.block _ hlt]
 exact h
set_option maxHeartbeats 1000000 in
theorem Qeg (s : ByteArray) (w : World) (v0 : Int) (R : World → Prop) (hI : Calls Tryz.prog 205 #[.string s] w fun e w' => (∃ N, e = .returned (.tuple #[.int .i64 v0, .iface (layAtoi_ren.t 168) (.pointer (some ⟨N, 0, none⟩))])) ∧ Below w.heap.size w w') :
  Calls Tryz.prog 196 #[.string s] w fun e w' => e = .returned (.int .i64 (-1)) ∧ Below w.heap.size w w' := by
 go_enter Tryz.func196, Tryz.ntmps196
 go_wp2_with (go_at_call 205; refine hI.mono ?_; rintro e W1 ⟨⟨N, rfl⟩, hW⟩)
 go_ret
 exact ⟨rfl, hW⟩
set_option maxHeartbeats 1000000 in
theorem Qsa (s : ByteArray) (w : World) (v : Int) (hv : decide (v < 0) = true) (hI : Calls Tryz.prog 205 #[.string s] w fun e w' => e = .returned (.tuple #[.int .i64 v, .nilIface]) ∧ Below w.heap.size w w') :
  Calls Tryz.prog 196 #[.string s] w fun e w' => e = .returned (.int .i64 (-1)) ∧ Below w.heap.size w w' := by
 go_enter Tryz.func196, Tryz.ntmps196
 go_wp2_with (go_at_call 205; refine hI.mono ?_; rintro e W1 ⟨rfl, hW⟩)
 go_ret
 exact ⟨rfl, hW⟩
set_option maxHeartbeats 1000000 in
theorem Qud (s : ByteArray) (w : World) (v : Int) (hv : decide (v < 0) = false) (hv2 : v ≤ 9223372036854775807) (ht : Lib.TabIs Tryz.prog w "internal/strconv.uint64pow10" .u64 Lib.pow10Tab)
  (hI : Calls Tryz.prog 205 #[.string s] w fun e w' => e = .returned (.tuple #[.int .i64 v, .nilIface]) ∧ Below w.heap.size w w') :
  Calls Tryz.prog 196 #[.string s] w fun e w' => e = .returned (.int .i64 (bif Lib.itoa v == s.data.toList then v else -1)) ∧ Below w.heap.size w w' := by
 have hv0 : 0 ≤ v := by simpa using hv
 have hT : ∀ W1, Below w.heap.size w W1 → Calls Tryz.prog 206 #[.int .i64 v] W1 fun e w' => e = .returned (.string ⟨(Lib.itoa v).toArray⟩) ∧ Below W1.heap.size W1 w' := fun W1 hW => by
  refine (Any.strconv_Itoa layItoa v (by omega) hv2 W1 (Qmn ht hW)).mono ?_
  rintro e w' ⟨rfl, k, os, rfl⟩
  exact ⟨rfl, ⟨rfl, rfl, rfl, by simp [Go.Sort.grow], fun b hb => by simp [Go.Sort.grow, Array.getElem?_append_left hb]⟩⟩
 have H := Lib.hid hT
 clear hT
 have key : (bif Lib.itoa v == s.data.toList then v else -1) = (bif (!(Lib.itoa v == s.toList)) then -1 else v) := by
  have e : s.toList = s.data.toList := Qu s
  rw [e]
  cases (Lib.itoa v == s.data.toList) <;> rfl
 rw [key]
 clear key
 go_enter Tryz.func196, Tryz.ntmps196
 go_wp2_with (first | (go_at_call 205; refine hI.mono ?_; rintro e W1 ⟨rfl, hW⟩) | (go_at_call 206; refine (H.out _ hW).mono ?_; rintro e W2 ⟨rfl, hW2⟩))
 all_goals
  rename_i hq
  rw [hq]
  go_ret
  exact ⟨rfl, hW.trans (hW2.mono hW.size)⟩
theorem dec_ok (s : ByteArray) (hs : s.size ≤ 281474976710656) (w : World) (hG : GP w) :
  Calls Tryz.prog 196 #[.string s] w fun e w' => e = .returned (.int .i64 (decN s)) ∧ Below w.heap.size w w' := by
 unfold decN
 cases h : Lib.atoiAll s.data.toList with
 | ok v =>
  obtain ⟨b0, b1⟩ := Lib.atoiAll_bounds h
  have hI : Calls Tryz.prog 205 #[.string s] w fun e w' => e = .returned (.tuple #[.int .i64 v, .nilIface]) ∧ Below w.heap.size w w' := by
   refine (Any.strconv_Atoi_ok Qba s (by omega) v h w).mono ?_
   rintro e w' ⟨rfl, hw⟩
   refine ⟨rfl, ?_⟩
   rcases hw with rfl | ⟨t, rfl⟩
   ·exact Below.refl _ _
   ·exact Lib.bytesWorld_below _ _ _
  by_cases hv : v < 0
  ·have e1 : (bif decide (0 ≤ v) && (Lib.itoa v == s.data.toList) then v else -1) = -1 := by
    rw [decide_eq_false (by omega)]; rfl
   simp only [e1]
   exact Qsa s w v (decide_eq_true hv) hI
  ·have e1 : (bif decide (0 ≤ v) && (Lib.itoa v == s.data.toList) then v else -1) = (bif Lib.itoa v == s.data.toList then v else -1) := by
    rw [decide_eq_true (by omega), Bool.true_and]
   simp only [e1]
   exact Qud s w v (decide_eq_false hv) (by omega) hG.tab hI
 | range =>
  obtain ⟨ev, h1, h2⟩ := hG.err2
  refine Qeg s w (Lib.atoiSat s.data.toList) (fun _ => True) ((Any.strconv_Atoi_range Qba s hs h ev w h1 h2).mono ?_)
  rintro e w' ⟨N, rfl, _, _, hb⟩
  exact ⟨⟨N, rfl⟩, hb⟩
 | _ =>
  obtain ⟨ev, h1, h2⟩ := hG.err1
  refine Qeg s w 0 (fun _ => True) ((Any.strconv_Atoi_syntax Qba s hs h ev w h1 h2).mono ?_)
  rintro e w' ⟨N, rfl, _, _, hb⟩
  exact ⟨⟨N, rfl⟩, hb⟩
theorem Qgt (s : ByteArray) : Spec.ok Tryz.prog 196 ⟨[.r (.c (.v (.string s)))], .v (.int .i64 (decN s)), s.size ≤ 281474976710656⟩ false := by
 intro hs S w vs fp hS hG hA
 obtain ⟨u, us, f, g, rfl, ⟨⟨rfl, _⟩, rfl⟩, ⟨rfl, rfl⟩, rfl, _⟩ := hA
 refine (dec_ok s hs w hG.1).mono fun e w' ⟨h1, h2⟩ => ?_
 exact ⟨_, [], [], h1, ⟨rfl, rfl, rfl⟩, ⟨_, _, [], [], rfl, rfl, rfl, rfl⟩, List.nodup_nil, fun b hb => by simp at hb, ⟨h2.os, h2.tape, h2.output, h2.size, fun k hk _ => h2.block k hk, Nat.zero_le _⟩⟩
end Go.Proofs.YthjaknclldmheaaGreatDoor
namespace Go.Proofs.YthjaknclldmheaaGreatDoor
theorem ai {a b : Prop} (h : a) (k : b) : a ∧ b := ⟨h, k⟩
theorem ir {d:Dat}:Imp d d := Imp.refl d
abbrev vI (x : Int) : Value := .int .i64 x
open Go.RowKit
set_option maxRecDepth 100000
set_option linter.unusedVariables false
set_option linter.unusedSimpArgs false
theorem mixed : Tryz.prog.follows .mixedOrders = true := Checked.mixed Tryz.checked
def F34 (s : ByteArray) (sep : ByteArray) : ByteArray × ByteArray × Bool :=
 cut3 s sep
def S34 (s : ByteArray) (sep : ByteArray) : Spec := ⟨[.r (.c (.v (.string s))), .r (.c (.v (.string sep)))], .tu [.v (.string ((F34 s sep).1)), .v (.string ((F34 s sep).2.1)), .v (.bool ((F34 s sep).2.2))], s.size ≤ 4294967280⟩
theorem ok34 (s : ByteArray) (sep : ByteArray) : (S34 s sep).ok Tryz.prog 34 :=
 cut_ok layCut (by decide) s sep
theorem g34_0 (s : ByteArray) (sep : ByteArray) : (F34 s sep).1.size ≤ (s.size : Int) := by
 exact Po s sep
theorem g34_1 (s : ByteArray) (sep : ByteArray) : (F34 s sep).2.1.size ≤ (s.size : Int) := by
 exact Qrw s sep
def F196 (text : ByteArray) : Int :=
 decN text
def S196 (text : ByteArray) : Spec := ⟨[.r (.c (.v (.string text)))], .v (vI (F196 text)), text.size ≤ 281474976710656⟩
theorem ok196 (text : ByteArray) : (S196 text).ok Tryz.prog 196 false :=
 Qgt text
def F84 (n : Int) (low : Int) (high : Int) : Bool :=
 (bif decide (low ≤ n) then decide (n ≤ high) else false)
def S84 (R : Bool) (n : Int) (low : Int) (high : Int) : Spec := ⟨[.r (.c (.v (vI n))), .r (.c (.v (vI low))), .r (.c (.v (vI high)))], .v (.bool R), True⟩
theorem ok84 (n : Int) (low : Int) (high : Int) : (S84 (F84 n low high) n low high).ok Tryz.prog 84 :=
 Qj mixed (fn := Tryz.f84) (ct := .seq .no (.seq .no .no)) Tryz.func84 (fun (_ : True) => fiB (bif decide (low ≤ n) then decide (n ≤ high) else false) (F84 n low high) rfl) (by kernel_rfl)
theorem as84 (n : Int) (low : Int) (high : Int) : F84 n low high = (decide (low ≤ n ∧ n ≤ high)) := by
 simp only [F84, Bool.decide_and, bandd]
theorem oa84 (n : Int) (low : Int) (high : Int) : (S84 (decide (low ≤ n ∧ n ≤ high)) n low high).ok Tryz.prog 84 := by
 intro hp; have h := ok84 n low high hp; rw [as84 n low high] at h; exact h
theorem kc34 (s : ByteArray) (sep : ByteArray) {K_ : Prop} (p0_ : s.size ≤ 4294967280) (k_ : ((F34 s sep).1.size ≤ (s.size : Int)) → ((F34 s sep).2.1.size ≤ (s.size : Int)) → K_) : (s.size ≤ 4294967280) ∧ (Imp (.v (.string s)) (.v (.string s))) ∧ (Imp (.v (.string sep)) (.v (.string sep))) ∧ K_ := ⟨p0_, Imp.refl _, Imp.refl _, k_ (g34_0 s sep) (g34_1 s sep)⟩
theorem Qka (text : ByteArray) {K_ : Prop} (p0_ : text.size ≤ 281474976710656) (k_ : K_) : (text.size ≤ 281474976710656) ∧ (Imp (.v (.string text)) (.v (.string text))) ∧ K_ := ⟨p0_, Imp.refl _, k_⟩
abbrev Qju (s : ByteArray) (sep : ByteArray) : Hint false Tryz.prog := .call 34 (S34 s sep) ((ok34 s sep).to false) none
abbrev Qja (text : ByteArray) : Hint false Tryz.prog := .call 196 (S196 text) (ok196 text) none
theorem Qiv (n : Int) (low : Int) (high : Int) {K_ : Prop} (k_ : K_) : (True) ∧ (Imp (.v (vI n)) (.v (vI n))) ∧ (Imp (.v (vI low)) (.v (vI low))) ∧ (Imp (.v (vI high)) (.v (vI high))) ∧ K_ := ⟨trivial, Imp.refl _, Imp.refl _, Imp.refl _, k_⟩
theorem Qpt {K_ : Prop} (c_ b_ : Bool) (n : Int) (low : Int) (high : Int) (k_ : K_) : (c_ = b_ → True) ∧ (c_ = b_ → Imp (.v (vI n)) (.v (vI n))) ∧ (c_ = b_ → Imp (.v (vI low)) (.v (vI low))) ∧ (c_ = b_ → Imp (.v (vI high)) (.v (vI high))) ∧ K_ := ⟨fun _ => trivial, fun _ => Imp.refl _, fun _ => Imp.refl _, fun _ => Imp.refl _, k_⟩
abbrev Qbp (n : Int) (low : Int) (high : Int) : Hint false Tryz.prog := .call 84 (S84 (decide (low ≤ n ∧ n ≤ high)) n low high) ((oa84 n low high).to false) none
abbrev w0_ : ByteArray := ⟨#[46]⟩
def F165 (text : ByteArray) : Int :=
 bif (bif (bif (!((F34 text (⟨#[46]⟩ : ByteArray)).2.2)) then true else (!(decide (0 ≤ (F196 ((F34 text (⟨#[46]⟩ : ByteArray)).1)) ∧ (F196 ((F34 text (⟨#[46]⟩ : ByteArray)).1)) ≤ 255)))) then true else (!(decide (0 ≤ (F196 ((F34 text (⟨#[46]⟩ : ByteArray)).2.1)) ∧ (F196 ((F34 text (⟨#[46]⟩ : ByteArray)).2.1)) ≤ 255)))) then (-1) else (IntKind.i64.wrap ((IntKind.i64.wrap (256 * (F196 ((F34 text (⟨#[46]⟩ : ByteArray)).1)))) + (F196 ((F34 text (⟨#[46]⟩ : ByteArray)).2.1))))
def S165 (text : ByteArray) : Spec := ⟨[.r (.c (.v (.string text)))], .v (vI (F165 text)), text.size ≤ 1048576⟩
theorem ok165 (text : ByteArray) : (S165 text).ok Tryz.prog 165 false :=
 Qj mixed (fn := Tryz.f165) (ct := .seq .no (.seq (.reg [(1, Qju text w0_)]) (.seq (.reg [(1, Qja ((F34 text w0_).1)), (3, Qja ((F34 text w0_).2.1))]) (.seq (.seq (.reg [(4, Qbp (F196 ((F34 text w0_).1)) 0 255), (9, Qbp (F196 ((F34 text w0_).2.1)) 0 255)]) (.cond (.seq .no .no) .no)) (.seq .no .no))))) Tryz.func165 (fun (hpre0 : text.size ≤ 1048576) => kc34 text w0_ (by omega) (fun gv1 gv2 => Qka ((F34 text w0_).1) (by omega) (Qka ((F34 text w0_).2.1) (by omega) (Qpt (!((F34 text w0_).2.2)) false (F196 ((F34 text w0_).1)) 0 255 (Qpt (bif (!((F34 text w0_).2.2)) then true else (!(decide (0 ≤ (F196 ((F34 text w0_).1)) ∧ (F196 ((F34 text w0_).1)) ≤ 255)))) false (F196 ((F34 text w0_).2.1)) 0 255 (ifb (bif (bif (!((F34 text w0_).2.2)) then true else (!(decide (0 ≤ (F196 ((F34 text w0_).1)) ∧ (F196 ((F34 text w0_).1)) ≤ 255)))) then true else (!(decide (0 ≤ (F196 ((F34 text w0_).2.1)) ∧ (F196 ((F34 text w0_).2.1)) ≤ 255)))) (fun h5 => fiI (-1) (F165 text) (condT h5 rfl)) (fun h5 => have _ : (F34 text w0_).2.2 = true := (Uv (orF1 (orF1 h5))); have _ : 0 ≤ (F196 ((F34 text w0_).1)) ∧ (F196 ((F34 text w0_).1)) ≤ 255 := of_decide_eq_true (Uv (orF2 (orF1 h5))); have _ : 0 ≤ (F196 ((F34 text w0_).2.1)) ∧ (F196 ((F34 text w0_).2.1)) ≤ 255 := of_decide_eq_true (Uv (orF2 h5)); fiI (IntKind.i64.wrap ((IntKind.i64.wrap (256 * (F196 ((F34 text w0_).1)))) + (F196 ((F34 text w0_).2.1)))) (F165 text) (condF h5 rfl)))))))) (by kernel_rfl)
structure Qq where
 Addr : Int
 Len : Int
 deriving DecidableEq, Inhabited
def Wk (x : Qq) : List Dat := [.v (vI x.Addr), .v (vI x.Len)]
def F207 (p : Qq) : Int :=
 (IntKind.i64.wrap (1 * 2 ^ (min (16 - p.Len).toNat IntKind.i64.bits)))
def S207 (p : Qq) : Spec := ⟨[.r (.g (Wk p))], .v (vI (F207 p)), 0 ≤ p.Len ∧ p.Len ≤ 16⟩
theorem ok207 (p : Qq) : (S207 p).ok Tryz.prog 207 :=
 Qj mixed (fn := Tryz.f207) (ct := .seq .no (.seq (.reg [(2, .bnd)]) .no)) Tryz.func207 (fun (hp : 0 ≤ p.Len ∧ p.Len ≤ 16) => have hpre0 := hp.1; have hpre1 := hp.2; ai (iok (16 - p.Len) (by omega)) (ai (by omega : 0 ≤ (16 - p.Len)) (fiI (IntKind.i64.wrap (1 * 2 ^ (min (16 - p.Len).toNat IntKind.i64.bits))) (F207 p) rfl))) (by kernel_rfl)
theorem g207_0 (p : Qq) : 0 ≤ p.Len → p.Len ≤ 16 → 1 ≤ (F207 p) ∧ (F207 p) ≤ 65536 := by
 obtain ⟨a, l⟩ := p; intro h1 h2; simp only at h1 h2; have h3 : l = 0 ∨ l = 1 ∨ l = 2 ∨ l = 3 ∨ l = 4 ∨ l = 5 ∨ l = 6 ∨ l = 7 ∨ l = 8 ∨ l = 9 ∨ l = 10 ∨ l = 11 ∨ l = 12 ∨ l = 13 ∨ l = 14 ∨ l = 15 ∨ l = 16 := by omega
 rcases h3 with rfl | rfl | rfl | rfl | rfl | rfl | rfl | rfl | rfl | rfl | rfl | rfl | rfl | rfl | rfl | rfl | rfl <;> exact of_decide_eq_true rfl
abbrev Qoe (n : Int) (low : Int) (high : Int) : Hint true Tryz.prog := .call 84 (S84 (decide (low ≤ n ∧ n ≤ high)) n low high) (oa84 n low high) none
theorem kg207 {K_ : Prop} (c_ b_ : Bool) (p : Qq) (p_ : c_ = b_ → 0 ≤ p.Len ∧ p.Len ≤ 16) (k_ : K_) : (c_ = b_ → 0 ≤ p.Len ∧ p.Len ≤ 16) ∧ (c_ = b_ → Imps (Wk p) (Wk p)) ∧ K_ := ⟨p_, fun _ => Imps.refl _, k_⟩
abbrev kh207 (p : Qq) : Hint true Tryz.prog := .call 207 (S207 p) (ok207 p) none
def F199 (p : Qq) : Bool :=
 (bif (bif (decide (0 ≤ p.Len ∧ p.Len ≤ 16)) then (decide (0 ≤ p.Addr ∧ p.Addr ≤ 65535)) else false) then ((p.Addr.tmod (F207 p)) == 0) else false)
def S199 (p : Qq) : Spec := ⟨[.r (.g (Wk p))], .v (.bool (F199 p)), True⟩
theorem ok199 (p : Qq) : (S199 p).ok Tryz.prog 199 :=
 Qj mixed (fn := Tryz.f199) (ct := .seq .no (.seq (.reg [(2, Qoe p.Len 0 16), (6, Qoe p.Addr 0 65535), (12, kh207 p)]) .no)) Tryz.func199 (fun (_ : True) => Qiv p.Len 0 16 (Qpt (decide (0 ≤ p.Len ∧ p.Len ≤ 16)) true p.Addr 0 65535 (kg207 (bif (decide (0 ≤ p.Len ∧ p.Len ≤ 16)) then (decide (0 ≤ p.Addr ∧ p.Addr ≤ 65535)) else false) true p (fun k4 => have _ := of_decide_eq_true (Qg k4); have _ := of_decide_eq_true (Ua k4); ⟨(by omega), (by omega)⟩) (ai (fun k5 : (bif (decide (0 ≤ p.Len ∧ p.Len ≤ 16)) then (decide (0 ≤ p.Addr ∧ p.Addr ≤ 65535)) else false) = true => have _ := of_decide_eq_true (Qg k5); have _ := of_decide_eq_true (Ua k5); (by have h9 := g207_0 p (by omega) (by omega); omega : ¬ (F207 p) = 0)) (fiB (bif (bif (decide (0 ≤ p.Len ∧ p.Len ≤ 16)) then (decide (0 ≤ p.Addr ∧ p.Addr ≤ 65535)) else false) then ((p.Addr.tmod (F207 p)) == 0) else false) (F199 p) rfl))))) (by kernel_rfl)
theorem kc165 (text : ByteArray) {K_ : Prop} (p0_ : text.size ≤ 1048576) (k_ : K_) : (text.size ≤ 1048576) ∧ (Imp (.v (.string text)) (.v (.string text))) ∧ K_ := ⟨p0_, Imp.refl _, k_⟩
abbrev kh165 (text : ByteArray) : Hint false Tryz.prog := .call 165 (S165 text) (ok165 text) none
abbrev w1_ : ByteArray := ⟨#[47]⟩
def F169 (text : ByteArray) : Qq × Bool :=
 bif (bif (!((F34 text (⟨#[47]⟩ : ByteArray)).2.2)) then true else (!(F199 (⟨(F165 ((F34 text (⟨#[47]⟩ : ByteArray)).1)), (F196 ((F34 text (⟨#[47]⟩ : ByteArray)).2.1))⟩ : Qq)))) then ((⟨0, 0⟩ : Qq), false) else ((⟨(F165 ((F34 text (⟨#[47]⟩ : ByteArray)).1)), (F196 ((F34 text (⟨#[47]⟩ : ByteArray)).2.1))⟩ : Qq), true)
theorem fi169 (text : ByteArray) (r : Qq × Bool) (hF : r = (F169 text)) : ((.int .i64 r.1.Addr : Value) = .int .i64 (((F169 text).1).Addr)) ∧ ((.int .i64 r.1.Len : Value) = .int .i64 (((F169 text).1).Len)) ∧ ((.bool r.2 : Value) = .bool ((F169 text).2)) ∧ True := by cases hF; exact ⟨rfl, rfl, rfl, trivial⟩
def S169 (text : ByteArray) : Spec := ⟨[.r (.c (.v (.string text)))], .tu [.ag [.v (vI (((F169 text).1).Addr)), .v (vI (((F169 text).1).Len))], .v (.bool ((F169 text).2))], text.size ≤ 1048576⟩
theorem ok169 (text : ByteArray) : (S169 text).ok Tryz.prog 169 false :=
 Qj mixed (fn := Tryz.f169) (ct := .seq .no (.seq (.reg [(1, Qju text w1_)]) (.seq (.reg [(1, kh165 ((F34 text w1_).1)), (3, Qja ((F34 text w1_).2.1))]) (.seq (.seq (.reg [(4, .call 199 (S199 (⟨(F165 ((F34 text w1_).1)), (F196 ((F34 text w1_).2.1))⟩ : Qq)) ((ok199 (⟨(F165 ((F34 text w1_).1)), (F196 ((F34 text w1_).2.1))⟩ : Qq)).to false) none)]) (.cond (.seq .no .no) .no)) (.seq .no .no))))) Tryz.func169 (fun (hpre0 : text.size ≤ 1048576) => kc34 text w1_ (by omega) (fun gv1 gv2 => kc165 ((F34 text w1_).1) (by omega) (Qka ((F34 text w1_).2.1) (by omega) (ai (fun k3 : (!((F34 text w1_).2.2)) = false => have _ : (F34 text w1_).2.2 = true := (Uv k3); trivial) (ai (fun k4 : (!((F34 text w1_).2.2)) = false => have _ : (F34 text w1_).2.2 = true := (Uv k4); (Imps.refl (Wk (⟨(F165 ((F34 text w1_).1)), (F196 ((F34 text w1_).2.1))⟩ : Qq)))) (ifb (bif (!((F34 text w1_).2.2)) then true else (!(F199 (⟨(F165 ((F34 text w1_).1)), (F196 ((F34 text w1_).2.1))⟩ : Qq)))) (fun h5 => fi169 text ((⟨0, 0⟩ : Qq), false) (condT h5 rfl)) (fun h5 => have _ : (F34 text w1_).2.2 = true := (Uv (orF1 h5)); fi169 text ((⟨(F165 ((F34 text w1_).1)), (F196 ((F34 text w1_).2.1))⟩ : Qq), true) (condF h5 rfl)))))))) (by kernel_rfl)
def F70 (s : ByteArray) (sep : ByteArray) : List ByteArray :=
 Qi s sep
def S70 (s : ByteArray) (sep : ByteArray) : Spec := ⟨[.r (.c (.v (.string s))), .r (.c (.v (.string sep)))], .ow (.l 1 eStr (F70 s sep)), s.size ≤ 4294967280 ∧ 1 ≤ sep.size⟩
theorem ok70 (s : ByteArray) (sep : ByteArray) : (S70 s sep).ok Tryz.prog 70 :=
 Qrt Qlz (by kernel_rfl) (by decide) s sep
def Lg (s : List ByteArray) (v1 : ByteArray) : Int → Lp Int Int := fun v8 =>
 bif (decide (v8 < (s.length : Int))) then (bif (v1.toList == (s.getD (Int.toNat v8) default).toList) then (.ret v8) else (.next (v8 + 1))) else (.done v8)
def F61 (s : List ByteArray) (v1 : ByteArray) : Int :=
 (runL (Lg s v1) ((Int.toNat ((s.length : Int) - 0)) + 1) 0).fin (fun r => r) (fun v8 => (-1))
abbrev Pb (s : List ByteArray) : Nat × Int := (((Int.toNat ((s.length : Int) - 0)) + 1), 0)
abbrev Qgj (s : List ByteArray) (m39 : Nat) (v8 : Int) : Prop := Int.toNat ((s.length : Int) - v8) < m39 ∧ (0 : Int) ≤ v8
abbrev Qok (s : List ByteArray) (v1 : ByteArray) : Lp Int Int := LpX (Lg s v1) (Pb s)
abbrev Pf (s : List ByteArray) (v1 : ByteArray) (i : Nat × Int) : Prop := LpJ (Lg s v1) (Pb s) i (Qgj s i.1 i.2)
abbrev Qpb (s : List ByteArray) (v1 : ByteArray) (i : Nat × Int) (m39 : Nat) (v8 : Int) : Prop := LpH (Lg s v1) (Pb s) i m39 v8 (Qgj s (m39 + 1) v8)
abbrev Qrv (s : List ByteArray) (v1 : ByteArray) (v8 : Int) (v8_ : Int) (K39 : Prop) : Prop := (Rf (.string v1)) ∧ (Rf (.int .i64 (s.length : Int))) ∧ ((.int .i64 v8 : Value) = .int .i64 v8_) ∧ (Im (.l 1 eStr s)) ∧ K39
theorem un61_0 (s : List ByteArray) (v1 : ByteArray) (i : Nat × Int) (h : Pf s v1 i) : Qpb s v1 i (i.1 - 1) i.2 := ⟨hd1 h.1 h.2.1, hd3 h.2.1, hd2 h.2.1, h.2.2⟩
theorem bk61_0 (s : List ByteArray) (v1 : ByteArray) (i : Nat × Int) (m39 : Nat) (v8 : Int) (hl : m39 < i.1) (e : runL (Lg s v1) m39 v8 = Qok s v1) (h : Qgj s m39 v8) : ∃ j : Nat × Int, Qrv s v1 v8 j.2 (Pf s v1 j ∧ j.1 < i.1) := ⟨(m39, v8), rfl, rfl, rfl, Imp.refl _, ⟨e, h⟩, hl⟩
theorem en61_0 (s : List ByteArray) (v1 : ByteArray) (h : (0 : Int) ≤ 0) : Qrv s v1 0 0 (Pf s v1 (Pb s)) := ⟨rfl, rfl, rfl, Imp.refl _, rfl, Nat.lt_succ_self _, h⟩
def S61 (s : List ByteArray) (v1 : ByteArray) : Spec := ⟨[.r (.c (.l 1 eStr s)), .r (.c (.v (.string v1)))], .v (vI (F61 s v1)), True⟩
theorem ok61 (s : List ByteArray) (v1 : ByteArray) : (S61 s v1).ok Tryz.prog 61 :=
 Qj mixed (fn := Tryz.f61) (ct := .seqk [(0, 0)] .no (.seq (.seqk [(0, 0)] .no (.blk (.loop (ι := Nat × Int) (fun i => (fun (v8 : Int) => (⟨[(0, some (.h 0 0)), (1, some (.v (.string v1))), (7, some (.v (vI (s.length : Int)))), (8, some (.v (vI v8)))], [(0, some (.shr none (.l 1 eStr s)))], 1⟩ : St)) i.2) (Pf s v1) (fun i => i.1) (Pb s) (fun i => (fun (v8 : Int) => (.seq .no (.seq (.cond .no .no) (.seq (.blk (.seq .no (.seq .no (.cond (.seq .no .no) .no)))) (.reg [(0, .bnd)]))))) i.2)))) (.seq .no .no))) Tryz.func61 (fun (_ : True) => kn s fun _ => kn s fun _ => ai (en61_0 s v1 (by omega)) (fun (i0 : Nat × Int) (hi0 : Pf s v1 i0) => (fun (m0 : Nat) (v8 : Int) (hh0 : Qpb s v1 i0 m0 v8) => have hI0 := hh0.1; have hl0 := hh0.2.1; have _ := hh0.2.2.1; have _ := hh0.2.2.2; ifd (v8 < (s.length : Int)) (fun h2 _ => ai (by omega : ib v8 s) (ifb (v1.toList == (s.getD (Int.toNat v8) default).toList) (fun h3 => fiI v8 (F61 s v1) (finR (Qs hI0 (condT h2 (condT h3 rfl))) rfl)) (fun h3 => ai (iok (v8 + 1) (by omega)) (bk61_0 s v1 i0 m0 (v8 + 1) hl0 (Qd hI0 (condT h2 (condF h3 rfl))) (by refine ⟨?_, ?_⟩ <;> omega))))) (fun h2 _ => have hD0_4 : Qok s v1 = Lp.done v8 := Ql hI0 (condF h2 rfl); fiI (-1) (F61 s v1) (finD hD0_4 rfl))) (i0.1 - 1) i0.2 (un61_0 s v1 i0 hi0))) (by kernel_rfl)
theorem kc61 (s : List ByteArray) (v1 : ByteArray) {K_ : Prop} (k_ : K_) : (True) ∧ (Imp (.l 1 eStr s) (.l 1 eStr s)) ∧ (Imp (.v (.string v1)) (.v (.string v1))) ∧ K_ := ⟨trivial, Imp.refl _, Imp.refl _, k_⟩
abbrev kh61 (s : List ByteArray) (v1 : ByteArray) : Hint true Tryz.prog := .call 61 (S61 s v1) (ok61 s v1) none
def F26 (s : List ByteArray) (v1 : ByteArray) : Bool :=
 decide ((F61 s v1) ≥ 0)
def S26 (s : List ByteArray) (v1 : ByteArray) : Spec := ⟨[.r (.c (.l 1 eStr s)), .r (.c (.v (.string v1)))], .v (.bool (F26 s v1)), True⟩
theorem ok26 (s : List ByteArray) (v1 : ByteArray) : (S26 s v1).ok Tryz.prog 26 :=
 Qj mixed (fn := Tryz.f26) (ct := .seqk [(0, 0)] .no (.seq (.reg [(2, kh61 s v1)]) .no)) Tryz.func26 (fun (_ : True) => kn s fun _ => kc61 s v1 (fiB (decide ((F61 s v1) ≥ 0)) (F26 s v1) rfl)) (by kernel_rfl)
theorem kc70 (s : ByteArray) (sep : ByteArray) {K_ : Prop} (p0_ : s.size ≤ 4294967280) (p1_ : 1 ≤ sep.size) (q0_ : 1 ≤ sep.size) (q1_ : 1 ≤ sep.size) (k_ : ((F70 s sep).length ≤ s.size + 1) → (1 ≤ (F70 s sep).length) → K_) : (s.size ≤ 4294967280 ∧ 1 ≤ sep.size) ∧ (Imp (.v (.string s)) (.v (.string s))) ∧ (Imp (.v (.string sep)) (.v (.string sep))) ∧ K_ := ⟨⟨p0_, p1_⟩, Imp.refl _, Imp.refl _, k_ (Qkg s sep q0_) (Qha s sep q1_)⟩
abbrev kh70 (s : ByteArray) (sep : ByteArray) : Hint true Tryz.prog := .call 70 (S70 s sep) (ok70 s sep) none
theorem kc26 (s : List ByteArray) (v1 : ByteArray) {K_ : Prop} (k_ : K_) : (True) ∧ (Imp (.l 1 eStr s) (.l 1 eStr s)) ∧ (Imp (.v (.string v1)) (.v (.string v1))) ∧ K_ := ⟨trivial, Imp.refl _, Imp.refl _, k_⟩
abbrev kh26 (s : List ByteArray) (v1 : ByteArray) : Hint true Tryz.prog := .call 26 (S26 s v1) (ok26 s v1) none
abbrev w2_ : ByteArray := ⟨#[44]⟩
abbrev w3_ : ByteArray := ⟨#[100, 111, 111, 114]⟩
abbrev w4_ : ByteArray := ⟨#[104, 111, 115, 116]⟩
abbrev w5_ : ByteArray := ⟨#[110, 97, 116]⟩
abbrev w6_ : ByteArray := ⟨#[112, 101, 101, 114]⟩
abbrev w7_ : ByteArray := ⟨#[112, 111, 114, 116]⟩
abbrev w8_ : ByteArray := ⟨#[114, 111, 117, 116, 101]⟩
abbrev w9_ : ByteArray := ⟨#[114, 117, 108, 101]⟩
abbrev w10_ : ByteArray := ⟨#[117, 115, 101, 114]⟩
abbrev w11_ : ByteArray := ⟨#[97, 108, 108]⟩
abbrev w12_ : ByteArray := ⟨#[110, 111, 110, 101]⟩
def Wc (word : ByteArray) : Int → Lp Int (List ByteArray × Bool) := fun v19 =>
 bif (decide (v19 < ((F70 word (⟨#[44]⟩ : ByteArray)).length : Int))) then (bif (bif (!(F26 ([(⟨#[100, 111, 111, 114]⟩ : ByteArray), (⟨#[104, 111, 115, 116]⟩ : ByteArray), (⟨#[110, 97, 116]⟩ : ByteArray), (⟨#[112, 101, 101, 114]⟩ : ByteArray), (⟨#[112, 111, 114, 116]⟩ : ByteArray), (⟨#[114, 111, 117, 116, 101]⟩ : ByteArray), (⟨#[114, 117, 108, 101]⟩ : ByteArray), (⟨#[117, 115, 101, 114]⟩ : ByteArray)] : List ByteArray) ((F70 word (⟨#[44]⟩ : ByteArray)).getD (Int.toNat v19) default))) then true else (bif decide (v19 > 0) then (!(Op.bytesLess ((F70 word (⟨#[44]⟩ : ByteArray)).getD (Int.toNat (v19 - 1)) default).toList ((F70 word (⟨#[44]⟩ : ByteArray)).getD (Int.toNat v19) default).toList)) else false)) then (.ret (([] : List ByteArray), false)) else (.next (v19 + 1))) else (.done v19)
def F66 (word : ByteArray) : List ByteArray × Bool :=
 bif (bif (word.toList == (⟨#[97, 108, 108]⟩ : ByteArray).toList) then true else (word.toList == (⟨#[110, 111, 110, 101]⟩ : ByteArray).toList)) then (([word] : List ByteArray), true) else ((runL (Wc word) ((Int.toNat (((F70 word (⟨#[44]⟩ : ByteArray)).length : Int) - 0)) + 1) 0).fin (fun r => r) (fun v19 => ((F70 word (⟨#[44]⟩ : ByteArray)), true)))
abbrev Rk (word : ByteArray) : Nat × Int := (((Int.toNat (((F70 word w2_).length : Int) - 0)) + 1), 0)
abbrev Qfm (word : ByteArray) (m39 : Nat) (v19 : Int) : Prop := Int.toNat (((F70 word w2_).length : Int) - v19) < m39 ∧ (0 : Int) ≤ v19
abbrev Qnf (word : ByteArray) : Lp Int (List ByteArray × Bool) := LpX (Wc word) (Rk word)
abbrev Nf (word : ByteArray) (i : Nat × Int) : Prop := LpJ (Wc word) (Rk word) i (Qfm word i.1 i.2)
abbrev Qmb (word : ByteArray) (i : Nat × Int) (m39 : Nat) (v19 : Int) : Prop := LpH (Wc word) (Rk word) i m39 v19 (Qfm word (m39 + 1) v19)
abbrev Qqr (word : ByteArray) (v19 : Int) (v19_ : Int) (K39 : Prop) : Prop := (Rf (.int .i64 ((F70 word w2_).length : Int))) ∧ ((.int .i64 v19 : Value) = .int .i64 v19_) ∧ (Im (.l 1 eStr (F70 word w2_))) ∧ K39
theorem un66_0 (word : ByteArray) (i : Nat × Int) (h : Nf word i) : Qmb word i (i.1 - 1) i.2 := ⟨hd1 h.1 h.2.1, hd3 h.2.1, hd2 h.2.1, h.2.2⟩
theorem bk66_0 (word : ByteArray) (i : Nat × Int) (m39 : Nat) (v19 : Int) (hl : m39 < i.1) (e : runL (Wc word) m39 v19 = Qnf word) (h : Qfm word m39 v19) : ∃ j : Nat × Int, Qqr word v19 j.2 (Nf word j ∧ j.1 < i.1) := ⟨(m39, v19), rfl, rfl, Imp.refl _, ⟨e, h⟩, hl⟩
theorem en66_0 (word : ByteArray) (h : (0 : Int) ≤ 0) : Qqr word 0 0 (Nf word (Rk word)) := ⟨rfl, rfl, Imp.refl _, rfl, Nat.lt_succ_self _, h⟩
theorem fi66 (word : ByteArray) (r : List ByteArray × Bool) (hF : r = (F66 word)) : (Imp (.l 1 eStr r.1) (.l 1 eStr ((F66 word).1))) ∧ ((.bool r.2 : Value) = .bool ((F66 word).2)) ∧ True := by cases hF; exact ⟨Imp.refl _, rfl, trivial⟩
def S66 (word : ByteArray) : Spec := ⟨[.r (.c (.v (.string word)))], .tu [.ow (.l 1 eStr ((F66 word).1)), .v (.bool ((F66 word).2))], word.size ≤ 1048576⟩
theorem ok66 (word : ByteArray) : (S66 word).ok Tryz.prog 66 :=
 Qj mixed (fn := Tryz.f66) (ct := .seq .no (.seq (.seq .no (.cond (.seq (.reg [(1, .dat (.l 1 eStr ([word] : List ByteArray)))]) .no) .no)) (.seq (.reg [(1, kh70 word w2_)]) (.seq (.seqk [(4, 0), (17, 0)] .no (.blk (.loop (ι := Nat × Int) (fun i => (fun (v19 : Int) => (⟨[(4, some (.h 0 0)), (17, some (.h 0 0)), (18, some (.v (vI ((F70 word w2_).length : Int)))), (19, some (.v (vI v19)))], [(0, some (.own 0 (.l 1 eStr (F70 word w2_))))], 1⟩ : St)) i.2) (Nf word) (fun i => i.1) (Rk word) (fun i => (fun (v19 : Int) => (.seq .no (.seq (.cond .no .no) (.seq (.blk (.seq .no (.seq (.reg [(0, .dat (.l 1 eStr ([w3_, w4_, w5_, w6_, w7_, w8_, w9_, w10_] : List ByteArray))), (2, kh26 ([w3_, w4_, w5_, w6_, w7_, w8_, w9_, w10_] : List ByteArray) ((F70 word w2_).getD (Int.toNat v19) default)), (10, .bnd)]) (.cond (.seq .no .no) .no)))) (.reg [(0, .bnd)]))))) i.2)))) (.seq .no .no))))) Tryz.func66 (fun (hpre0 : word.size ≤ 1048576) => ifb (bif (word.toList == w11_.toList) then true else (word.toList == w12_.toList)) (fun h1 => ai (bokr 1 eStr ([word] : List ByteArray) fun _ => rfl) (fi66 word (([word] : List ByteArray), true) (condT h1 rfl))) (fun h1 => have _ : (word.toList == w11_.toList) = false := (orF1 h1); have _ : (word.toList == w12_.toList) = false := (orF2 h1); kc70 word w2_ (by omega) (by decide) (by decide) (by decide) (fun gv2 gv3 => kn (F70 word w2_) fun _ => kn (F70 word w2_) fun _ => ai (en66_0 word (by omega)) (fun (i0 : Nat × Int) (hi0 : Nf word i0) => (fun (m0 : Nat) (v19 : Int) (hh0 : Qmb word i0 m0 v19) => have hI0 := hh0.1; have hl0 := hh0.2.1; have _ := hh0.2.2.1; have _ := hh0.2.2.2; ifd (v19 < ((F70 word w2_).length : Int)) (fun h5 _ => ai (by omega : ib v19 (F70 word w2_)) (ai (bokr 1 eStr ([w3_, w4_, w5_, w6_, w7_, w8_, w9_, w10_] : List ByteArray) fun _ => rfl) (kc26 ([w3_, w4_, w5_, w6_, w7_, w8_, w9_, w10_] : List ByteArray) ((F70 word w2_).getD (Int.toNat v19) default) (ai (fun k7 : (decide (v19 > 0)) = true => have _ := of_decide_eq_true k7; (fun k6 : (!(F26 ([w3_, w4_, w5_, w6_, w7_, w8_, w9_, w10_] : List ByteArray) ((F70 word w2_).getD (Int.toNat v19) default))) = false => iok (v19 - 1) (by omega))) (ai (fun k9 : (decide (v19 > 0)) = true => have _ := of_decide_eq_true k9; (fun k8 : (!(F26 ([w3_, w4_, w5_, w6_, w7_, w8_, w9_, w10_] : List ByteArray) ((F70 word w2_).getD (Int.toNat v19) default))) = false => (by omega : ib (v19 - 1) (F70 word w2_)))) (ifb (bif (!(F26 ([w3_, w4_, w5_, w6_, w7_, w8_, w9_, w10_] : List ByteArray) ((F70 word w2_).getD (Int.toNat v19) default))) then true else (bif decide (v19 > 0) then (!(Op.bytesLess ((F70 word w2_).getD (Int.toNat (v19 - 1)) default).toList ((F70 word w2_).getD (Int.toNat v19) default).toList)) else false)) (fun h10 => (fun hF : (([] : List ByteArray), false) = (F66 word) => ai ((Imp.nil 1 eStr).trans (Imp.of_eq (congrArg (fun r : List ByteArray × Bool => Dat.l 1 eStr r.1) hF))) (ai (congrArg (fun r : List ByteArray × Bool => (.bool r.2 : Value)) hF) trivial)) (condF h1 (finR (Qs hI0 (condT h5 (condT h10 rfl))) rfl))) (fun h10 => ai (iok (v19 + 1) (by omega)) (bk66_0 word i0 m0 (v19 + 1) hl0 (Qd hI0 (condT h5 (condF h10 rfl))) (by refine ⟨?_, ?_⟩ <;> omega))))))))) (fun h5 _ => have hD0_11 : Qnf word = Lp.done v19 := Ql hI0 (condF h5 rfl); fi66 word ((F70 word w2_), true) (condF h1 (finD hD0_11 rfl)))) (i0.1 - 1) i0.2 (un66_0 word i0 hi0))))) (by kernel_rfl)
abbrev w13_ : ByteArray := ⟨#[]⟩
def F176 (w1 : ByteArray) : Bool :=
 (w1.toList == (⟨#[]⟩ : ByteArray).toList)
def S176 (w1 : ByteArray) : Spec := ⟨[.r (.c (.v (.string w1)))], .v (.bool (F176 w1)), True⟩
theorem ok176 (w1 : ByteArray) : (S176 w1).ok Tryz.prog 176 :=
 Qj mixed (fn := Tryz.f176) (ct := .seq .no (.seq .no .no)) Tryz.func176 (fun (_ : True) => fiB (w1.toList == w13_.toList) (F176 w1) rfl) (by kernel_rfl)
def Yp (Q : ByteArray → Prop) (p : ByteArray → Bool) : Ux := ⟨ByteArray, fun i => [.c (.x (PX (.v (.string i)) (Q i)))], fun i => .bool (p i)⟩
def Xg (s : List ByteArray) (f : ByteArray → Bool) : Int → Lp Int Int := fun v8 =>
 bif (decide (v8 < (s.length : Int))) then (bif (f (s.getD (Int.toNat v8) default)) then (.ret v8) else (.next (v8 + 1))) else (.done v8)
def F127 (s : List ByteArray) (f : ByteArray → Bool) : Int :=
 (runL (Xg s f) ((Int.toNat ((s.length : Int) - 0)) + 1) 0).fin (fun r => r) (fun v8 => (-1))
abbrev Bz (s : List ByteArray) : Nat × Int := (((Int.toNat ((s.length : Int) - 0)) + 1), 0)
abbrev Qbb (s : List ByteArray) (m39 : Nat) (v8 : Int) : Prop := Int.toNat ((s.length : Int) - v8) < m39 ∧ (0 : Int) ≤ v8
abbrev Qhm (s : List ByteArray) (f : ByteArray → Bool) : Lp Int Int := LpX (Xg s f) (Bz s)
abbrev Ge (s : List ByteArray) (f : ByteArray → Bool) (i : Nat × Int) : Prop := LpJ (Xg s f) (Bz s) i (Qbb s i.1 i.2)
abbrev Qji (s : List ByteArray) (f : ByteArray → Bool) (i : Nat × Int) (m39 : Nat) (v8 : Int) : Prop := LpH (Xg s f) (Bz s) i m39 v8 (Qbb s (m39 + 1) v8)
abbrev Qjf (Qf : ByteArray → Prop) (s : List ByteArray) (f : ByteArray → Bool) (v8 : Int) (v8_ : Int) (K39 : Prop) : Prop := (Rf (.int .i64 (s.length : Int))) ∧ ((.int .i64 v8 : Value) = .int .i64 v8_) ∧ (Im (.l 1 eStr s)) ∧ (Yp Qf f = Yp Qf f) ∧ K39
theorem Qtj (s : List ByteArray) (f : ByteArray → Bool) (i : Nat × Int) (h : Ge s f i) : Qji s f i (i.1 - 1) i.2 := ⟨hd1 h.1 h.2.1, hd3 h.2.1, hd2 h.2.1, h.2.2⟩
theorem Qtr (Qf : ByteArray → Prop) (s : List ByteArray) (f : ByteArray → Bool) (i : Nat × Int) (m39 : Nat) (v8 : Int) (hl : m39 < i.1) (e : runL (Xg s f) m39 v8 = Qhm s f) (h : Qbb s m39 v8) : ∃ j : Nat × Int, Qjf Qf s f v8 j.2 (Ge s f j ∧ j.1 < i.1) := ⟨(m39, v8), rfl, rfl, Imp.refl _, rfl, ⟨e, h⟩, hl⟩
theorem Qsp (Qf : ByteArray → Prop) (s : List ByteArray) (f : ByteArray → Bool) (h : (0 : Int) ≤ 0) : Qjf Qf s f 0 0 (Ge s f (Bz s)) := ⟨rfl, rfl, Imp.refl _, rfl, rfl, Nat.lt_succ_self _, h⟩
def S127 (R : Int) (s : List ByteArray) (f : ByteArray → Bool) (Qf : ByteArray → Prop) : Spec := ⟨[.r (.c (.l 1 eStr s)), .fn (Yp Qf f)], .v (vI R), (∀ k : Nat, k < s.length → Qf (s.getD k default))⟩
theorem ok127 (s : List ByteArray) (f : ByteArray → Bool) (Qf : ByteArray → Prop) : (S127 (F127 s f) s f Qf).ok Tryz.prog 127 false :=
 Qj mixed (fn := Tryz.f127) (ct := .seqk [(0, 0)] .no (.seq (.seqk [(0, 0)] .no (.blk (.loop (ι := Nat × Int) (fun i => (fun (v8 : Int) => (⟨[(0, some (.h 0 0)), (1, some (.h 1 0)), (7, some (.v (vI (s.length : Int)))), (8, some (.v (vI v8)))], [(0, some (.shr none (.l 1 eStr s))), (1, some (.fn (Yp Qf f)))], 2⟩ : St)) i.2) (Ge s f) (fun i => i.1) (Bz s) (fun i => (fun (v8 : Int) => (.seq .no (.seq (.cond .no .no) (.seq (.blk (.seq .no (.seq (.reg [(5, .fnv (Yp Qf f) (s.getD (Int.toNat v8) default))]) (.cond (.seq .no .no) .no)))) (.reg [(0, .bnd)]))))) i.2)))) (.seq .no .no))) Tryz.func127 (fun (hpre0 : ∀ k : Nat, k < s.length → Qf (s.getD k default)) => kn s fun _ => kn s fun _ => ai (Qsp Qf s f (by omega)) (fun (i0 : Nat × Int) (hi0 : Ge s f i0) => (fun (m0 : Nat) (v8 : Int) (hh0 : Qji s f i0 m0 v8) => have hI0 := hh0.1; have hl0 := hh0.2.1; have _ := hh0.2.2.1; have _ := hh0.2.2.2; ifd (v8 < (s.length : Int)) (fun h2 _ => ai (by omega : ib v8 s) (ai (Eq.refl (Yp Qf f)) (ai (Imp.px (d := .v (.string (s.getD (Int.toNat v8) default))) (hpre0 (Int.toNat v8) (by omega))) (ifb (f (s.getD (Int.toNat v8) default)) (fun h3 => fiI v8 (F127 s f) (finR (Qs hI0 (condT h2 (condT h3 rfl))) rfl)) (fun h3 => ai (iok (v8 + 1) (by omega)) (Qtr Qf s f i0 m0 (v8 + 1) hl0 (Qd hI0 (condT h2 (condF h3 rfl))) (by refine ⟨?_, ?_⟩ <;> omega))))))) (fun h2 _ => have hD0_4 : Qhm s f = Lp.done v8 := Ql hI0 (condF h2 rfl); fiI (-1) (F127 s f) (finD hD0_4 rfl))) (i0.1 - 1) i0.2 (Qtj s f i0 hi0))) (by kernel_rfl)
theorem as127 (s : List ByteArray) (f : ByteArray → Bool) : F127 s f = (idxI f s) := by
 exact Bw f s (Xg s f) (fun i => rfl)
theorem oa127 (s : List ByteArray) (f : ByteArray → Bool) (Qf : ByteArray → Prop) : (S127 (idxI f s) s f Qf).ok Tryz.prog 127 false := by
 intro hp; have h := ok127 s f Qf hp; rw [as127 s f] at h; exact h
theorem g127_0 (s : List ByteArray) (f : ByteArray → Bool) : (idxI f s) < (s.length : Int) := by
 exact Qbo f s
theorem g127_1 (s : List ByteArray) (f : ByteArray → Bool) : -1 ≤ (idxI f s) := by
 (show -1 ≤ idxI f s; unfold idxI; cases first (fun k => f (s.getD k default)) s.length <;> simp only [oix] <;> omega)
theorem Qqt (s : List ByteArray) (f : ByteArray → Bool) (Qf : ByteArray → Prop) {K_ : Prop} (p0_ : ∀ k : Nat, k < s.length → Qf (s.getD k default)) (k_ : ((idxI f s) < (s.length : Int)) → (-1 ≤ (idxI f s)) → K_) : (∀ k : Nat, k < s.length → Qf (s.getD k default)) ∧ (Imp (.l 1 eStr s) (.l 1 eStr s)) ∧ (Yp Qf f = Yp Qf f) ∧ K_ := ⟨p0_, Imp.refl _, rfl, k_ (g127_0 s f) (g127_1 s f)⟩
abbrev Qrm (s : List ByteArray) (f : ByteArray → Bool) (Qf : ByteArray → Prop) : Hint false Tryz.prog := .call 127 (S127 (idxI f s) s f Qf) (oa127 s f Qf) none
def Xh (s : List ByteArray) (del : ByteArray → Bool) : (Int × Int × List ByteArray) → Lp (Int × Int × List ByteArray) (List ByteArray) := fun (i41, j1, xs) =>
 bif (decide (j1 < (xs.length : Int))) then (bif (!(del (xs.getD (Int.toNat j1) default))) then (.next ((i41 + 1), (j1 + 1), (xs.set (i41).toNat (xs.getD (Int.toNat j1) default)))) else (.next (i41, (j1 + 1), xs))) else (.done (i41, j1, xs))
def Mf (s : List ByteArray) (del : ByteArray → Bool) : Lp (List ByteArray × Int) (List ByteArray) :=
 (runL (Xh s del) ((Int.toNat ((s.length : Int) - ((idxI del s) + 1))) + 1) ((idxI del s), ((idxI del s) + 1), s)).fin Lp.ret (fun (i41, j1, xs) => .done (xs, i41))
def F175 (s : List ByteArray) (del : ByteArray → Bool) : List ByteArray :=
 bif ((idxI del s) == (-1)) then s else ((Mf s del).fin (fun r => r) (fun (s1, i40) => ((s1.take (Int.toNat i40) ++ List.replicate (s1.drop (Int.toNat i40)).length ((⟨#[]⟩ : ByteArray) : ByteArray) ++ s1.drop ((Int.toNat i40) + (s1.drop (Int.toNat i40)).length)).take (Int.toNat i40))))
abbrev Hi (s : List ByteArray) (del : ByteArray → Bool) : Nat × (Int × Int × List ByteArray) := (((Int.toNat ((s.length : Int) - ((idxI del s) + 1))) + 1), ((idxI del s), ((idxI del s) + 1), s))
abbrev Qbm (Qdel : ByteArray → Prop) (s : List ByteArray) (m39 : Nat) (i41 : Int) (j1 : Int) (xs : List ByteArray) : Prop := Int.toNat ((xs.length : Int) - j1) < m39 ∧ (0 ≤ i41 ∧ i41 < j1) ∧ j1 ≤ (xs.length : Int) ∧ xs.length ≤ 1000000000 ∧ (∀ k : Nat, j1 ≤ (k : Int) → k < xs.length → Qdel (xs.getD k default)) ∧ xs.length = s.length
abbrev Qje (s : List ByteArray) (del : ByteArray → Bool) : Lp (Int × Int × List ByteArray) (List ByteArray) := LpX (Xh s del) (Hi s del)
abbrev Gv (Qdel : ByteArray → Prop) (s : List ByteArray) (del : ByteArray → Bool) (i : Nat × (Int × Int × List ByteArray)) : Prop := LpJ (Xh s del) (Hi s del) i (Qbm Qdel s i.1 i.2.1 i.2.2.1 i.2.2.2)
abbrev Qhq (Qdel : ByteArray → Prop) (s : List ByteArray) (del : ByteArray → Bool) (i : Nat × (Int × Int × List ByteArray)) (m39 : Nat) (i41 : Int) (j1 : Int) (xs : List ByteArray) : Prop := LpH (Xh s del) (Hi s del) i m39 (i41, j1, xs) (Qbm Qdel s (m39 + 1) i41 j1 xs)
abbrev Qii (Qdel : ByteArray → Prop) (del : ByteArray → Bool) (i41 : Int) (j1 : Int) (xs : List ByteArray) (i41_ : Int) (j1_ : Int) (xs_ : List ByteArray) (K39 : Prop) : Prop := ((.int .i64 i41 : Value) = .int .i64 i41_) ∧ ((.int .i64 j1 : Value) = .int .i64 j1_) ∧ (Imp (.l 1 eStr xs) (.l 1 eStr xs_)) ∧ (Yp Qdel del = Yp Qdel del) ∧ K39
theorem Quj (Qdel : ByteArray → Prop) (s : List ByteArray) (del : ByteArray → Bool) (i : Nat × (Int × Int × List ByteArray)) (h : Gv Qdel s del i) : Qhq Qdel s del i (i.1 - 1) i.2.1 i.2.2.1 i.2.2.2 := ⟨hd1 h.1 h.2.1, hd3 h.2.1, hd2 h.2.1, h.2.2⟩
theorem Qhx (Qdel : ByteArray → Prop) (s : List ByteArray) (del : ByteArray → Bool) (i : Nat × (Int × Int × List ByteArray)) (m39 : Nat) (i41 : Int) (j1 : Int) (xs : List ByteArray) (hl : m39 < i.1) (e : runL (Xh s del) m39 (i41, j1, xs) = Qje s del) (h : Qbm Qdel s m39 i41 j1 xs) : ∃ j : Nat × (Int × Int × List ByteArray), Qii Qdel del i41 j1 xs j.2.1 j.2.2.1 j.2.2.2 (Gv Qdel s del j ∧ j.1 < i.1) := ⟨(m39, (i41, j1, xs)), rfl, rfl, Imp.refl _, rfl, ⟨e, h⟩, hl⟩
theorem Qse (Qdel : ByteArray → Prop) (s : List ByteArray) (del : ByteArray → Bool) (h : (0 ≤ (idxI del s) ∧ (idxI del s) < ((idxI del s) + 1)) ∧ ((idxI del s) + 1) ≤ (s.length : Int) ∧ s.length ≤ 1000000000 ∧ (∀ k : Nat, ((idxI del s) + 1) ≤ (k : Int) → k < s.length → Qdel (s.getD k default)) ∧ s.length = s.length) : Qii Qdel del (idxI del s) ((idxI del s) + 1) s (idxI del s) ((idxI del s) + 1) s (Gv Qdel s del (Hi s del)) := ⟨rfl, rfl, Imp.refl _, rfl, rfl, Nat.lt_succ_self _, h⟩
abbrev Qaj (s : List ByteArray) (del : ByteArray → Bool) (s1 : List ByteArray) (i40 : Int) : Prop := (0 ≤ i40 ∧ i40 ≤ (s1.length : Int)) ∧ True
abbrev Qbr (s : List ByteArray) (del : ByteArray → Bool) (j : List ByteArray × Int) : Prop := (Mf s del) = Lp.done j ∧ Qaj s del j.1 j.2
theorem Qst (s : List ByteArray) (del : ByteArray → Bool) (s1 : List ByteArray) (i40 : Int) (e : (Mf s del) = Lp.done (s1, i40)) (h : Qaj s del s1 i40) : ∃ j : List ByteArray × Int, ((.int .i64 i40 : Value) = .int .i64 j.2) ∧ (Imp (.l 1 eStr s1) (.l 1 eStr j.1)) ∧ Qbr s del j := ⟨(s1, i40), rfl, Imp.refl _, e, h⟩
theorem fi175 (s : List ByteArray) (del : ByteArray → Bool) (r : List ByteArray) (hF : r = (F175 s del)) : (Imp (.l 1 eStr r) (.l 1 eStr (F175 s del))) ∧ True := by cases hF; exact ⟨Imp.refl _, trivial⟩
def S175 (R : List ByteArray) (s : List ByteArray) (del : ByteArray → Bool) (Qdel : ByteArray → Prop) : Spec := ⟨[.ow (.l 1 eStr s) none, .fn (Yp Qdel del)], .ow (.l 1 eStr R), s.length ≤ 1000000000 ∧ (∀ k : Nat, k < s.length → Qdel (s.getD k default))⟩
theorem ok175 (s : List ByteArray) (del : ByteArray → Bool) (Qdel : ByteArray → Prop) : (S175 (F175 s del) s del Qdel).ok Tryz.prog 175 false :=
 Qj mixed (fn := Tryz.f175) (ct := .seqk [(0, 0)] .no (.seq (.reg [(2, Qrm s del Qdel)]) (.seq (.seq .no (.cond (.seq .no .no) .no)) (.cut (ι := List ByteArray × Int) (fun j => (fun (s1 : List ByteArray) (i40 : Int) => (⟨[(0, some (.h 0 0)), (5, some (.v (vI i40)))], [(0, some (.own 0 (.l 1 eStr s1)))], 1⟩ : St)) j.1 j.2) (Qbr s del) (.seqk [(0, 0)] (.reg [(1, .bnd)]) (.blk (.loop (ι := Nat × (Int × Int × List ByteArray)) (fun i => (fun (i41 : Int) (j1 : Int) (xs : List ByteArray) => (⟨[(0, some (.h 0 0)), (1, some (.h 1 0)), (5, some (.v (vI i41))), (6, some (.v (vI j1)))], [(0, some (.own 0 (.l 1 eStr xs))), (1, some (.fn (Yp Qdel del)))], 2⟩ : St)) i.2.1 i.2.2.1 i.2.2.2) (Gv Qdel s del) (fun i => i.1) (Hi s del) (fun i => (fun (i41 : Int) (j1 : Int) (xs : List ByteArray) => (.seq (.seq .no (.cond .no .no)) (.seq (.blk (.seq .no (.seq (.reg [(2, .fnv (Yp Qdel del) (xs.getD (Int.toNat j1) default))]) (.cond (.seq (.reg [(4, .dat (.l 1 eStr (xs.set (i41).toNat (xs.getD (Int.toNat j1) default))))]) (.reg [(1, .bnd)])) .no)))) (.reg [(1, .bnd)])))) i.2.1 i.2.2.1 i.2.2.2)))) (fun j => (fun (s1 : List ByteArray) (i40 : Int) => (.seq (.reg [(2, .part), (3, .dat (.l 1 eStr (s1.take (Int.toNat i40) ++ List.replicate (s1.drop (Int.toNat i40)).length (w13_ : ByteArray) ++ s1.drop ((Int.toNat i40) + (s1.drop (Int.toNat i40)).length))))]) (.seq (.reg [(2, .own)]) .no))) j.1 j.2))))) Tryz.func175 (fun (hp : s.length ≤ 1000000000 ∧ (∀ k : Nat, k < s.length → Qdel (s.getD k default))) => have hpre0 := hp.1; have hpre1 := hp.2; kn s fun _ => Qqt s del Qdel (by first | assumption | exact hpre1 _ | exact fun k _ => hpre1 k | (intros; exact trivial) | (intros; exact Nat.zero_le _)) (fun gv1 gv2 => ife (idxI del s) (-1) (fun h3 _ => fi175 s del s (condT h3 rfl)) (fun h3 _ => ai (ai (iok ((idxI del s) + 1) (by first | omega | (simp only [lens, ib] at * <;> omega))) (kn s fun _ => ai (Qse Qdel s del (by refine ⟨?_, ?_, ?_, ?_, ?_⟩ <;> first | omega | (simp only [lens, ib] at * <;> omega) | (intro k hk hk2; first | exact (by assumption : ∀ k : Nat, k < s.length → Qdel (s.getD k default)) k hk2 | exact (by assumption : ∀ k : Nat, j1 ≤ (k : Int) → k < xs.length → Qdel (xs.getD k default)) k (by first | omega | (simp only [lens, ib] at * <;> omega)) hk2 | (rw [Uz _ _ _ _ (by first | omega | (simp only [lens, ib] at * <;> omega))]; exact (by assumption : ∀ k : Nat, j1 ≤ (k : Int) → k < xs.length → Qdel (xs.getD k default)) k (by first | omega | (simp only [lens, ib] at * <;> omega)) (by simpa using hk2))))) (fun (i0 : Nat × (Int × Int × List ByteArray)) (hi0 : Gv Qdel s del i0) => (fun (m0 : Nat) (i41 : Int) (j1 : Int) (xs : List ByteArray) (hh0 : Qhq Qdel s del i0 m0 i41 j1 xs) => have hI0 := hh0.1; have hl0 := hh0.2.1; have _ := hh0.2.2.1; have _ := hh0.2.2.2.1; have _ := hh0.2.2.2.2.1; have _ := hh0.2.2.2.2.2.1; have _ := hh0.2.2.2.2.2.2.1; have _ := hh0.2.2.2.2.2.2.2; ifd (j1 < (xs.length : Int)) (fun h5 _ => ai (by first | omega | (simp only [lens, ib] at * <;> omega) : ib j1 xs) (ai (Eq.refl (Yp Qdel del)) (ai (Imp.px (d := .v (.string (xs.getD (Int.toNat j1) default))) ((by assumption : ∀ k : Nat, j1 ≤ (k : Int) → k < xs.length → Qdel (xs.getD k default)) (Int.toNat j1) (by first | omega | (simp only [lens, ib] at * <;> omega)) (by first | omega | (simp only [lens, ib] at * <;> omega)))) (ifb (!(del (xs.getD (Int.toNat j1) default))) (fun h6 => have _ := (Km h6); ai (by first | omega | (simp only [lens, ib] at * <;> omega) : ib i41 xs) (ai (setr 1 eStr xs (i41).toNat (xs.getD (Int.toNat j1) default)) (ai (iok (i41 + 1) (by first | omega | (simp only [lens, ib] at * <;> omega))) (ai (iok (j1 + 1) (by first | omega | (simp only [lens, ib] at * <;> omega))) (Qhx Qdel s del i0 m0 (i41 + 1) (j1 + 1) (xs.set (i41).toNat (xs.getD (Int.toNat j1) default)) hl0 (Qd hI0 (condT h5 (condT h6 rfl))) (by refine ⟨?_, ?_, ?_, ?_, ?_, ?_⟩ <;> first | omega | (simp only [lens, ib] at * <;> omega) | (intro k hk hk2; first | exact (by assumption : ∀ k : Nat, k < s.length → Qdel (s.getD k default)) k hk2 | exact (by assumption : ∀ k : Nat, j1 ≤ (k : Int) → k < xs.length → Qdel (xs.getD k default)) k (by first | omega | (simp only [lens, ib] at * <;> omega)) hk2 | (rw [Uz _ _ _ _ (by first | omega | (simp only [lens, ib] at * <;> omega))]; exact (by assumption : ∀ k : Nat, j1 ≤ (k : Int) → k < xs.length → Qdel (xs.getD k default)) k (by first | omega | (simp only [lens, ib] at * <;> omega)) (by simpa using hk2))))))))) (fun h6 => have _ := (Uv h6); ai (iok (j1 + 1) (by first | omega | (simp only [lens, ib] at * <;> omega))) (Qhx Qdel s del i0 m0 i41 (j1 + 1) xs hl0 (Qd hI0 (condT h5 (condF h6 rfl))) (by refine ⟨?_, ?_, ?_, ?_, ?_, ?_⟩ <;> first | omega | (simp only [lens, ib] at * <;> omega) | (intro k hk hk2; first | exact (by assumption : ∀ k : Nat, k < s.length → Qdel (s.getD k default)) k hk2 | exact (by assumption : ∀ k : Nat, j1 ≤ (k : Int) → k < xs.length → Qdel (xs.getD k default)) k (by first | omega | (simp only [lens, ib] at * <;> omega)) hk2 | (rw [Uz _ _ _ _ (by first | omega | (simp only [lens, ib] at * <;> omega))]; exact (by assumption : ∀ k : Nat, j1 ≤ (k : Int) → k < xs.length → Qdel (xs.getD k default)) k (by first | omega | (simp only [lens, ib] at * <;> omega)) (by simpa using hk2)))))))))) (fun h5 _ => have hD0_7 : Qje s del = Lp.done (i41, j1, xs) := Ql hI0 (condF h5 rfl); Qst s del xs i41 (Eq.symm (finD hD0_7 rfl)) (by refine ⟨?_, ?_⟩ <;> first | exact trivial | first | omega | (simp only [lens, ib] at * <;> omega)))) (i0.1 - 1) i0.2.1 i0.2.2.1 i0.2.2.2 (Quj Qdel s del i0 hi0)))) (fun (j : List ByteArray × Int) (hj : Qbr s del j) => (fun (s1 : List ByteArray) (i40 : Int) (hJ0_8 : (Mf s del) = Lp.done (s1, i40)) (hw : Qaj s del s1 i40) => have _ := hw.1; ai (by first | omega | (simp only [lens, ib] at * <;> omega) : 0 ≤ i40 ∧ i40 ≤ (s1.length : Int) ∧ (s1.length : Int) ≤ (s1.length : Int)) (ai (ClearOK.mk eStr s1 (w13_ : ByteArray) rfl (fun y e he => by simp only [eStr, List.mem_cons, List.not_mem_nil, or_false] at he; rcases he with rfl <;> exact ⟨_, rfl⟩) : ClearOK (.l 1 eStr s1) (Int.toNat i40) (s1.drop (Int.toNat i40)).length 1 [.string w13_] (.l 1 eStr (s1.take (Int.toNat i40) ++ List.replicate (s1.drop (Int.toNat i40)).length (w13_ : ByteArray) ++ s1.drop ((Int.toNat i40) + (s1.drop (Int.toNat i40)).length)))) (ai (by first | omega | (simp only [lens, ib] at * <;> omega) : 0 ≤ (0 : Int) ∧ (0 : Int) ≤ i40 ∧ i40 ≤ ((s1.take (Int.toNat i40) ++ List.replicate (s1.drop (Int.toNat i40)).length (w13_ : ByteArray) ++ s1.drop ((Int.toNat i40) + (s1.drop (Int.toNat i40)).length)).length : Int)) (fi175 s del ((s1.take (Int.toNat i40) ++ List.replicate (s1.drop (Int.toNat i40)).length (w13_ : ByteArray) ++ s1.drop ((Int.toNat i40) + (s1.drop (Int.toNat i40)).length)).take (Int.toNat i40)) (condF h3 (finD hJ0_8 rfl)))))) j.1 j.2 hj.1 hj.2)))) (by kernel_rfl)
theorem as175 (s : List ByteArray) (del : ByteArray → Bool) : F175 s del = (s.filter (fun x => !(del x))) := by
 exact Qdu del s _ (Xh s del) (fun i j xs => rfl)
theorem oa175 (s : List ByteArray) (del : ByteArray → Bool) (Qdel : ByteArray → Prop) : (S175 (s.filter (fun x => !(del x))) s del Qdel).ok Tryz.prog 175 false := by
 intro hp; have h := ok175 s del Qdel hp; rw [as175 s del] at h; exact h
def F177 (w1 : ByteArray) : Bool :=
 decide ((w1.size : Int) > 24)
def S177 (w1 : ByteArray) : Spec := ⟨[.r (.c (.v (.string w1)))], .v (.bool (F177 w1)), True⟩
theorem ok177 (w1 : ByteArray) : (S177 w1).ok Tryz.prog 177 :=
 Qj mixed (fn := Tryz.f177) (ct := .seq .no (.seq .no .no)) Tryz.func177 (fun (_ : True) => fiB (decide ((w1.size : Int) > 24)) (F177 w1) rfl) (by kernel_rfl)
def F94 (s : List ByteArray) (f : ByteArray → Bool) : Bool :=
 decide ((idxI f s) ≥ 0)
def S94 (R : Bool) (s : List ByteArray) (f : ByteArray → Bool) (Qf : ByteArray → Prop) : Spec := ⟨[.r (.c (.l 1 eStr s)), .fn (Yp Qf f)], .v (.bool R), (∀ k : Nat, k < s.length → Qf (s.getD k default))⟩
theorem ok94 (s : List ByteArray) (f : ByteArray → Bool) (Qf : ByteArray → Prop) : (S94 (F94 s f) s f Qf).ok Tryz.prog 94 false :=
 Qj mixed (fn := Tryz.f94) (ct := .seqk [(0, 0)] .no (.seq (.reg [(2, Qrm s f Qf)]) .no)) Tryz.func94 (fun (hpre0 : ∀ k : Nat, k < s.length → Qf (s.getD k default)) => kn s fun _ => Qqt s f Qf (by assumption) (fun gv1 gv2 => fiB (decide ((idxI f s) ≥ 0)) (F94 s f) rfl)) (by kernel_rfl)
theorem as94 (s : List ByteArray) (f : ByteArray → Bool) : F94 s f = (s.any f) := by
 exact Qjv f s
theorem oa94 (s : List ByteArray) (f : ByteArray → Bool) (Qf : ByteArray → Prop) : (S94 (s.any f) s f Qf).ok Tryz.prog 94 false := by
 intro hp; have h := ok94 s f Qf hp; rw [as94 s f] at h; exact h
abbrev kh70f (s : ByteArray) (sep : ByteArray) : Hint false Tryz.prog := .call 70 (S70 s sep) ((ok70 s sep).to false) none
abbrev w14_ : ByteArray := ⟨#[35]⟩
abbrev w15_ : ByteArray := ⟨#[32]⟩
def Zz (line : ByteArray) : Int → Lp Int (List ByteArray × Bool) := fun i40 =>
 bif (decide (i40 < (((F34 line (⟨#[35]⟩ : ByteArray)).1).size : Int))) then (bif (!(decide (32 ≤ (IntKind.i64.wrap ((((F34 line (⟨#[35]⟩ : ByteArray)).1).data.getD (Int.toNat i40) 0).toNat : Int)) ∧ (IntKind.i64.wrap ((((F34 line (⟨#[35]⟩ : ByteArray)).1).data.getD (Int.toNat i40) 0).toNat : Int)) ≤ 126))) then (.ret (([] : List ByteArray), false)) else (.next (i40 + 1))) else (.done i40)
def F133 (line : ByteArray) : List ByteArray × Bool :=
 (runL (Zz line) ((Int.toNat ((((F34 line (⟨#[35]⟩ : ByteArray)).1).size : Int) - 0)) + 1) 0).fin (fun r => r) (fun i40 => bif (bif decide ((((F70 ((F34 line (⟨#[35]⟩ : ByteArray)).1) (⟨#[32]⟩ : ByteArray)).filter (fun x => !((fun (x0 : ByteArray) => F176 x0) x))).length : Int) > 8) then true else (((F70 ((F34 line (⟨#[35]⟩ : ByteArray)).1) (⟨#[32]⟩ : ByteArray)).filter (fun x => !((fun (x0 : ByteArray) => F176 x0) x))).any (fun (x0 : ByteArray) => F177 x0))) then (([] : List ByteArray), false) else (((F70 ((F34 line (⟨#[35]⟩ : ByteArray)).1) (⟨#[32]⟩ : ByteArray)).filter (fun x => !((fun (x0 : ByteArray) => F176 x0) x))), true))
abbrev Hj (line : ByteArray) : Nat × Int := (((Int.toNat ((((F34 line w14_).1).size : Int) - 0)) + 1), 0)
abbrev Qbe (line : ByteArray) (m39 : Nat) (i40 : Int) : Prop := Int.toNat ((((F34 line w14_).1).size : Int) - i40) < m39 ∧ (0 : Int) ≤ i40
abbrev Qjh (line : ByteArray) : Lp Int (List ByteArray × Bool) := LpX (Zz line) (Hj line)
abbrev Gl (line : ByteArray) (i : Nat × Int) : Prop := LpJ (Zz line) (Hj line) i (Qbe line i.1 i.2)
abbrev Qjn (line : ByteArray) (i : Nat × Int) (m39 : Nat) (i40 : Int) : Prop := LpH (Zz line) (Hj line) i m39 i40 (Qbe line (m39 + 1) i40)
abbrev Qip (line : ByteArray) (i40 : Int) (i40_ : Int) (K39 : Prop) : Prop := (Rf (.string ((F34 line w14_).1))) ∧ ((.int .i64 i40 : Value) = .int .i64 i40_) ∧ K39
theorem Qsm (line : ByteArray) (i : Nat × Int) (h : Gl line i) : Qjn line i (i.1 - 1) i.2 := ⟨hd1 h.1 h.2.1, hd3 h.2.1, hd2 h.2.1, h.2.2⟩
theorem Qtp (line : ByteArray) (i : Nat × Int) (m39 : Nat) (i40 : Int) (hl : m39 < i.1) (e : runL (Zz line) m39 i40 = Qjh line) (h : Qbe line m39 i40) : ∃ j : Nat × Int, Qip line i40 j.2 (Gl line j ∧ j.1 < i.1) := ⟨(m39, i40), rfl, rfl, ⟨e, h⟩, hl⟩
theorem Qtx (line : ByteArray) (h : (0 : Int) ≤ 0) : Qip line 0 0 (Gl line (Hj line)) := ⟨rfl, rfl, rfl, Nat.lt_succ_self _, h⟩
theorem fi133 (line : ByteArray) (r : List ByteArray × Bool) (hF : r = (F133 line)) : (Imp (.l 1 eStr r.1) (.l 1 eStr ((F133 line).1))) ∧ ((.bool r.2 : Value) = .bool ((F133 line).2)) ∧ True := by cases hF; exact ⟨Imp.refl _, rfl, trivial⟩
def S133 (line : ByteArray) : Spec := ⟨[.r (.c (.v (.string line)))], .tu [.ow (.l 1 eStr ((F133 line).1)), .v (.bool ((F133 line).2))], line.size ≤ 1048576⟩
theorem ok133 (line : ByteArray) : (S133 line).ok Tryz.prog 133 false :=
 Qj mixed (fn := Tryz.f133) (ct := .seq .no (.seq (.reg [(1, Qju line w14_)]) (.seq (.seq .no (.blk (.loop (ι := Nat × Int) (fun i => (fun (i40 : Int) => (⟨[(0, some (.v (.string ((F34 line w14_).1)))), (4, some (.v (vI i40)))], [], 0⟩ : St)) i.2) (Gl line) (fun i => i.1) (Hj line) (fun i => (fun (i40 : Int) => (.seq (.seq .no (.cond .no .no)) (.seq (.blk (.seq (.reg [(4, Qbp (IntKind.i64.wrap ((((F34 line w14_).1).data.getD (Int.toNat i40) 0).toNat : Int)) 32 126)]) (.cond (.seq .no .no) .no))) (.reg [(1, .bnd)])))) i.2)))) (.seq (.reg [(1, kh70f ((F34 line w14_).1) w15_), (2, .call 175 (S175 ((F70 ((F34 line w14_).1) w15_).filter (fun x => !((fun (x0 : ByteArray) => F176 x0) x))) (F70 ((F34 line w14_).1) w15_) (fun (x0 : ByteArray) => F176 x0) (fun (x0 : ByteArray) => True)) (oa175 (F70 ((F34 line w14_).1) w15_) (fun (x0 : ByteArray) => F176 x0) (fun (x0 : ByteArray) => True)) (some ⟨true, 176, Yp (fun (x0 : ByteArray) => True) (fun (x0 : ByteArray) => F176 x0), [], rfl, True, fun i => Qnu (ok176 i)⟩))]) (.seq (.seq (.reg [(5, .call 94 (S94 (((F70 ((F34 line w14_).1) w15_).filter (fun x => !((fun (x0 : ByteArray) => F176 x0) x))).any (fun (x0 : ByteArray) => F177 x0)) ((F70 ((F34 line w14_).1) w15_).filter (fun x => !((fun (x0 : ByteArray) => F176 x0) x))) (fun (x0 : ByteArray) => F177 x0) (fun (x0 : ByteArray) => True)) (oa94 ((F70 ((F34 line w14_).1) w15_).filter (fun x => !((fun (x0 : ByteArray) => F176 x0) x))) (fun (x0 : ByteArray) => F177 x0) (fun (x0 : ByteArray) => True)) (some ⟨true, 177, Yp (fun (x0 : ByteArray) => True) (fun (x0 : ByteArray) => F177 x0), [], rfl, True, fun i => Qnu (ok177 i)⟩))]) (.cond (.seq .no .no) .no)) (.seq .no .no)))))) Tryz.func133 (fun (hpre0 : line.size ≤ 1048576) => kc34 line w14_ (by omega) (fun gv1 gv2 => ai (Qtx line (by omega)) (fun (i0 : Nat × Int) (hi0 : Gl line i0) => (fun (m0 : Nat) (i40 : Int) (hh0 : Qjn line i0 m0 i40) => have hI0 := hh0.1; have hl0 := hh0.2.1; have _ := hh0.2.2.1; have _ := hh0.2.2.2; ifd (i40 < (((F34 line w14_).1).size : Int)) (fun h4 _ => ai (by omega : 0 ≤ i40 ∧ i40 < (((F34 line w14_).1).size : Int)) (Qiv (IntKind.i64.wrap ((((F34 line w14_).1).data.getD (Int.toNat i40) 0).toNat : Int)) 32 126 (ifb (!(decide (32 ≤ (IntKind.i64.wrap ((((F34 line w14_).1).data.getD (Int.toNat i40) 0).toNat : Int)) ∧ (IntKind.i64.wrap ((((F34 line w14_).1).data.getD (Int.toNat i40) 0).toNat : Int)) ≤ 126))) (fun h5 => have _ : ¬ (32 ≤ (IntKind.i64.wrap ((((F34 line w14_).1).data.getD (Int.toNat i40) 0).toNat : Int)) ∧ (IntKind.i64.wrap ((((F34 line w14_).1).data.getD (Int.toNat i40) 0).toNat : Int)) ≤ 126) := of_decide_eq_false (Km h5); (fun hF : (([] : List ByteArray), false) = (F133 line) => ai ((Imp.nil 1 eStr).trans (Imp.of_eq (congrArg (fun r : List ByteArray × Bool => Dat.l 1 eStr r.1) hF))) (ai (congrArg (fun r : List ByteArray × Bool => (.bool r.2 : Value)) hF) trivial)) (finR (Qs hI0 (condT h4 (condT h5 rfl))) rfl)) (fun h5 => have _ : 32 ≤ (IntKind.i64.wrap ((((F34 line w14_).1).data.getD (Int.toNat i40) 0).toNat : Int)) ∧ (IntKind.i64.wrap ((((F34 line w14_).1).data.getD (Int.toNat i40) 0).toNat : Int)) ≤ 126 := of_decide_eq_true (Uv h5); ai (iok (i40 + 1) (by omega)) (Qtp line i0 m0 (i40 + 1) hl0 (Qd hI0 (condT h4 (condF h5 rfl))) (by refine ⟨?_, ?_⟩ <;> omega)))))) (fun h4 _ => have hD0_6 : Qjh line = Lp.done i40 := Ql hI0 (condF h4 rfl); kc70 ((F34 line w14_).1) w15_ (by omega) (by decide) (by decide) (by decide) (fun gv7 gv8 => ai (ai (by omega : (F70 ((F34 line w14_).1) w15_).length ≤ 1000000000) (by (intros; exact trivial) : ∀ k : Nat, k < (F70 ((F34 line w14_).1) w15_).length → (fun (x0 : ByteArray) => True) ((F70 ((F34 line w14_).1) w15_).getD k default))) (ai (Imp.refl (.l 1 eStr (F70 ((F34 line w14_).1) w15_))) (ai (Eq.refl (Yp (fun (x0 : ByteArray) => True) (fun (x0 : ByteArray) => F176 x0))) (ai trivial (ai (fun k9 : (decide ((((F70 ((F34 line w14_).1) w15_).filter (fun x => !((fun (x0 : ByteArray) => F176 x0) x))).length : Int) > 8)) = false => have _ : ¬ (((F70 ((F34 line w14_).1) w15_).filter (fun x => !((fun (x0 : ByteArray) => F176 x0) x))).length : Int) > 8 := of_decide_eq_false k9; (by (intros; exact trivial) : ∀ k : Nat, k < ((F70 ((F34 line w14_).1) w15_).filter (fun x => !((fun (x0 : ByteArray) => F176 x0) x))).length → (fun (x0 : ByteArray) => True) (((F70 ((F34 line w14_).1) w15_).filter (fun x => !((fun (x0 : ByteArray) => F176 x0) x))).getD k default))) (ai (fun k10 : (decide ((((F70 ((F34 line w14_).1) w15_).filter (fun x => !((fun (x0 : ByteArray) => F176 x0) x))).length : Int) > 8)) = false => have _ : ¬ (((F70 ((F34 line w14_).1) w15_).filter (fun x => !((fun (x0 : ByteArray) => F176 x0) x))).length : Int) > 8 := of_decide_eq_false k10; (Imp.refl (.l 1 eStr ((F70 ((F34 line w14_).1) w15_).filter (fun x => !((fun (x0 : ByteArray) => F176 x0) x)))))) (ai (fun k11 : (decide ((((F70 ((F34 line w14_).1) w15_).filter (fun x => !((fun (x0 : ByteArray) => F176 x0) x))).length : Int) > 8)) = false => have _ : ¬ (((F70 ((F34 line w14_).1) w15_).filter (fun x => !((fun (x0 : ByteArray) => F176 x0) x))).length : Int) > 8 := of_decide_eq_false k11; (Eq.refl (Yp (fun (x0 : ByteArray) => True) (fun (x0 : ByteArray) => F177 x0)))) (ai (fun k12 : (decide ((((F70 ((F34 line w14_).1) w15_).filter (fun x => !((fun (x0 : ByteArray) => F176 x0) x))).length : Int) > 8)) = false => have _ : ¬ (((F70 ((F34 line w14_).1) w15_).filter (fun x => !((fun (x0 : ByteArray) => F176 x0) x))).length : Int) > 8 := of_decide_eq_false k12; trivial) (ifb (bif decide ((((F70 ((F34 line w14_).1) w15_).filter (fun x => !((fun (x0 : ByteArray) => F176 x0) x))).length : Int) > 8) then true else (((F70 ((F34 line w14_).1) w15_).filter (fun x => !((fun (x0 : ByteArray) => F176 x0) x))).any (fun (x0 : ByteArray) => F177 x0))) (fun h13 => (fun hF : (([] : List ByteArray), false) = (F133 line) => ai ((Imp.nil 1 eStr).trans (Imp.of_eq (congrArg (fun r : List ByteArray × Bool => Dat.l 1 eStr r.1) hF))) (ai (congrArg (fun r : List ByteArray × Bool => (.bool r.2 : Value)) hF) trivial)) (finD hD0_6 (condT h13 rfl))) (fun h13 => have _ : ¬ (((F70 ((F34 line w14_).1) w15_).filter (fun x => !((fun (x0 : ByteArray) => F176 x0) x))).length : Int) > 8 := of_decide_eq_false (orF1 h13); fi133 line (((F70 ((F34 line w14_).1) w15_).filter (fun x => !((fun (x0 : ByteArray) => F176 x0) x))), true) (finD hD0_6 (condF h13 rfl)))))))))))))) (i0.1 - 1) i0.2 (Qsm line i0 hi0)))) (by kernel_rfl)
end Go.Proofs.YthjaknclldmheaaGreatDoor
namespace Go.Proofs.YthjaknclldmheaaGreatDoor
open Go.RowKit
set_option maxRecDepth 100000
set_option linter.unusedVariables false
set_option linter.unusedSimpArgs false
def Qp (c : UInt8) : List UInt8 → List (List UInt8)
 | [] => [[]]
 | b :: l => if b = c then [] :: Qp c l else (match Qp c l with | [] => [[b]] | w :: ws => (b :: w) :: ws)
theorem Uf {c : UInt8} : ∀ {l : List UInt8}, c ∉ l → Qp c l = [l]
 | [], _ => rfl
 | b :: l, h => by
  have hb : b ≠ c := fun e => h (by rw [e]; exact List.mem_cons_self)
  rw [Qp, if_neg hb, Uf (fun hm => h (List.mem_cons_of_mem _ hm))]
theorem Uj {c : UInt8} (b : List UInt8) : ∀ {a : List UInt8}, c ∉ a → Qp c (a ++ c :: b) = a :: Qp c b
 | [], _ => by rw [List.nil_append, Qp, if_pos rfl]
 | x :: a, h => by
  have hb : x ≠ c := fun e => h (by rw [e]; exact List.mem_cons_self)
  rw [List.cons_append, Qp, if_neg hb, Uj b (fun hm => h (List.mem_cons_of_mem _ hm))]
theorem Kf (c : UInt8) : ∀ l : List UInt8, (Lib.index l [c] = -1 ∧ c ∉ l) ∨ ∃ a b, l = a ++ c :: b ∧ c ∉ a ∧ Lib.index l [c] = (a.length : Int)
 | [] => .inl ⟨rfl, by simp⟩
 | x :: l => by
  rw [Lib.index_one, Lib.indexByte]
  by_cases hx : x = c
  ·subst hx
   exact .inr ⟨[], l, rfl, by simp, by simp⟩
  ·have hx' : (x == c) = false := by simpa using hx
   rw [hx']
   rcases Kf c l with ⟨h1, h2⟩ | ⟨a, b, h1, h2, h3⟩
   ·rw [Lib.index_one] at h1
    refine .inl ⟨by rw [h1]; rfl, fun hm => ?_⟩
    rcases List.mem_cons.1 hm with h | h
    ·exact hx h.symm
    ·exact h2 h
   ·rw [Lib.index_one] at h3
    refine .inr ⟨x :: a, b, by rw [h1]; rfl, fun hm => ?_, ?_⟩
    ·rcases List.mem_cons.1 hm with h | h
     ·exact hx h.symm
     ·exact h2 h
    ·rw [h3]
     have : ((a.length : Int) == -1) = false := by
      rw [beq_eq_false_iff_ne]; omega
     simp only [this, Bool.false_eq_true, if_false, List.length_cons]
     omega
theorem Kk {a b : ByteArray} (h : a.data.toList = b.data.toList) : a = b := by
 cases a; cases b
 simp only at h
 congr
 exact Array.ext' h
theorem Ys (s : ByteArray) (c : UInt8) : (c ∉ s.data.toList ∧ cut3 s ⟨#[c]⟩ = (s, ⟨#[]⟩, false)) ∨ ∃ a b, s.data.toList = a ++ c :: b ∧ c ∉ a ∧ cut3 s ⟨#[c]⟩ = (⟨a.toArray⟩, ⟨b.toArray⟩, true) := by
 rcases Kf c s.data.toList with ⟨h1, h2⟩ | ⟨a, b, h1, h2, h3⟩
 ·refine .inl ⟨h2, ?_⟩
  unfold cut3 Lib.cut
  rw [h1]
  rfl
 ·refine .inr ⟨a, b, h1, h2, ?_⟩
  unfold cut3 Lib.cut
  rw [h3, if_pos (by omega), h1]
  simp
theorem Mo (c : UInt8) : ∀ (k : Nat) (s : ByteArray), s.data.toList.count c = k → (Lib.splitB ⟨#[c]⟩ 0 k s).map (·.data.toList) = Qp c s.data.toList
 | 0, s, hk => by
  rw [Uf (List.count_eq_zero.1 hk)]
  rfl
 | k + 1, s, hk => by
  rcases Kf c s.data.toList with ⟨h1, h2⟩ | ⟨a, b, h1, h2, h3⟩
  ·rw [List.count_eq_zero.2 h2] at hk; omega
  ·have hi : Lib.indexB s ⟨#[c]⟩ = (a.length : Int) := h3
   unfold Lib.splitB
   rw [hi, if_neg (by rw [beq_iff_eq]; omega), List.map_cons, h1, Uj b h2]
   have hsz : s.size = a.length + (b.length + 1) := by
    have := congrArg List.length h1
    rw [List.length_append, List.length_cons, Array.length_toList] at this
    exact this
   have e1 : (s.extract 0 (((a.length : Int)).toNat + 0)).data.toList = a := by
    rw [ByteArray.data_extract, Array.toList_extract, List.extract_eq_take_drop, h1, Int.toNat_natCast, Nat.add_zero, Nat.sub_zero, List.drop_zero]
    rw [List.take_append_of_le_length (Nat.le_refl _), List.take_length]
   have e2 : (s.extract (((a.length : Int)).toNat + (⟨#[c]⟩ : ByteArray).size) s.size).data.toList = b := by
    have hc1 : (⟨#[c]⟩ : ByteArray).size = 1 := rfl
    rw [hc1]
    simp only [ByteArray.data_extract, Array.toList_extract, List.extract_eq_take_drop, h1, Int.toNat_natCast, hsz]
    rw [List.drop_append, List.drop_of_length_le (by omega), List.nil_append]
    have e3 : a.length + 1 - a.length = 1 := by omega
    rw [e3, List.drop_succ_cons, List.drop_zero, List.take_of_length_le (by omega)]
   rw [e1, Mo c k _ (by rw [e2]; rw [h1] at hk; simp [List.count_eq_zero.2 h2] at hk; omega), e2]
theorem Ri (s : ByteArray) (c : UInt8) : (Qi s ⟨#[c]⟩).map (·.data.toList) = Qp c s.data.toList := by
 have : Lib.countB s ⟨#[c]⟩ = s.data.toList.count c := Lib.count_one c s.data.toList
 unfold Qi
 rw [this]
 exact Mo c _ s rfl
def Vk (line : ByteArray) : Int → Lp Int ByteArray := fun i40 =>
 bif (decide (i40 < (line.size : Int))) then (bif (((line.data.getD (Int.toNat i40) 0).toNat : Int) == 35) then (.ret (line.extract (Int.toNat (0 : Int)) (Int.toNat i40))) else (.next (i40 + 1))) else (.done i40)
def F96 (line : ByteArray) : ByteArray :=
 (runL (Vk line) ((Int.toNat ((line.size : Int) - 0)) + 1) 0).fin (fun r => r) (fun i40 => line)
abbrev Na (line : ByteArray) : Nat × Int := (((Int.toNat ((line.size : Int) - 0)) + 1), 0)
abbrev Qgq (line : ByteArray) (m39 : Nat) (i40 : Int) : Prop := Int.toNat ((line.size : Int) - i40) < m39 ∧ (0 : Int) ≤ i40
abbrev Qmw (line : ByteArray) : Lp Int ByteArray := LpX (Vk line) (Na line)
abbrev No (line : ByteArray) (i : Nat × Int) : Prop := LpJ (Vk line) (Na line) i (Qgq line i.1 i.2)
abbrev Qqz (line : ByteArray) (i : Nat × Int) (m39 : Nat) (i40 : Int) : Prop := LpH (Vk line) (Na line) i m39 i40 (Qgq line (m39 + 1) i40)
abbrev Qqk (line : ByteArray) (i40 : Int) (i40_ : Int) (K39 : Prop) : Prop := (Rf (.string line)) ∧ ((.int .i64 i40 : Value) = .int .i64 i40_) ∧ K39
theorem un96_0 (line : ByteArray) (i : Nat × Int) (h : No line i) : Qqz line i (i.1 - 1) i.2 := ⟨hd1 h.1 h.2.1, hd3 h.2.1, hd2 h.2.1, h.2.2⟩
theorem bk96_0 (line : ByteArray) (i : Nat × Int) (m39 : Nat) (i40 : Int) (hl : m39 < i.1) (e : runL (Vk line) m39 i40 = Qmw line) (h : Qgq line m39 i40) : ∃ j : Nat × Int, Qqk line i40 j.2 (No line j ∧ j.1 < i.1) := ⟨(m39, i40), rfl, rfl, ⟨e, h⟩, hl⟩
theorem en96_0 (line : ByteArray) (h : (0 : Int) ≤ 0) : Qqk line 0 0 (No line (Na line)) := ⟨rfl, rfl, rfl, Nat.lt_succ_self _, h⟩
def S96 (R : ByteArray) (line : ByteArray) : Spec := ⟨[.r (.c (.v (.string line)))], .v (.string R), line.size ≤ 1048576⟩
theorem ok96 (line : ByteArray) : (S96 (F96 line) line).ok Tryz.prog 96 :=
 Qj mixed (fn := Tryz.f96) (ct := .seq .no (.seq (.seq .no (.blk (.loop (ι := Nat × Int) (fun i => (fun (i40 : Int) => (⟨[(0, some (.v (.string line))), (3, some (.v (vI i40)))], [], 0⟩ : St)) i.2) (No line) (fun i => i.1) (Na line) (fun i => (fun (i40 : Int) => (.seq (.seq .no (.cond .no .no)) (.seq (.blk (.seq .no (.cond (.seq .no .no) .no))) (.reg [(1, .bnd)])))) i.2)))) (.seq .no .no))) Tryz.func96 (fun (hpre0 : line.size ≤ 1048576) => ai (en96_0 line (by omega)) (fun (i0 : Nat × Int) (hi0 : No line i0) => (fun (m0 : Nat) (i40 : Int) (hh0 : Qqz line i0 m0 i40) => have hI0 := hh0.1; have hl0 := hh0.2.1; have _ := hh0.2.2.1; have _ := hh0.2.2.2; ifd (i40 < (line.size : Int)) (fun h2 _ => ai (by omega : 0 ≤ i40 ∧ i40 < (line.size : Int)) (ife ((line.data.getD (Int.toNat i40) 0).toNat : Int) 35 (fun h3 _ => ai (by omega : 0 ≤ (0 : Int) ∧ (0 : Int) ≤ i40 ∧ i40 ≤ (line.size : Int)) (fiS (line.extract (Int.toNat (0 : Int)) (Int.toNat i40)) (F96 line) (finR (Qs hI0 (condT h2 (condT h3 rfl))) rfl))) (fun h3 _ => ai (iok (i40 + 1) (by omega)) (bk96_0 line i0 m0 (i40 + 1) hl0 (Qd hI0 (condT h2 (condF h3 rfl))) (by refine ⟨?_, ?_⟩ <;> omega))))) (fun h2 _ => have hD0_4 : Qmw line = Lp.done i40 := Ql hI0 (condF h2 rfl); fiS line (F96 line) (finD hD0_4 rfl))) (i0.1 - 1) i0.2 (un96_0 line i0 hi0))) (by kernel_rfl)
theorem Yt (s : ByteArray) (i : Nat) : s.data.getD i 0 = s.data.toList.getD i 0 := by
 simp [Array.getD, List.getD_eq_getElem?_getD]
 split <;> simp_all
theorem cut_at {s : ByteArray} {c : UInt8} {i : Nat} (hi : i < s.size) (h : s.data.toList.getD i 0 = c) (hn : ∀ j, j < i → s.data.toList.getD j 0 ≠ c) : (cut3 s ⟨#[c]⟩).1 = s.extract 0 i := by
 have hl : s.data.toList.length = s.size := Array.length_toList
 rcases Ys s c with ⟨h1, _⟩ | ⟨a, b, h1, h2, h3⟩
 ·exact absurd (by rw [← h, List.getD_eq_getElem?_getD, List.getElem?_eq_getElem (by omega)]; exact List.getElem_mem _) h1
 ·rw [h3]
  have hai : a.length = i := by
   rcases Nat.lt_trichotomy a.length i with hlt | heq | hgt
   ·refine absurd ?_ (hn a.length hlt)
    rw [h1, List.getD_eq_getElem?_getD, List.getElem?_append_right (Nat.le_refl _)]
    simp
   ·exact heq
   ·rw [h1, List.getD_eq_getElem?_getD, List.getElem?_append_left hgt, List.getElem?_eq_getElem hgt] at h
    exact absurd (h ▸ List.getElem_mem hgt) h2
  refine Kk ?_
  rw [ByteArray.data_extract, Array.toList_extract, List.extract_eq_take_drop, h1, List.drop_zero, Nat.sub_zero, ← hai, List.take_append_of_le_length (Nat.le_refl _), List.take_length]
theorem Qsv {s : ByteArray} {c : UInt8} (hn : ∀ j, j < s.size → s.data.toList.getD j 0 ≠ c) : (cut3 s ⟨#[c]⟩).1 = s := by
 have hl : s.data.toList.length = s.size := Array.length_toList
 rcases Ys s c with ⟨_, h1⟩ | ⟨a, b, h1, h2, h3⟩
 ·rw [h1]
 ·refine absurd ?_ (hn a.length (by rw [← hl, h1]; simp))
  rw [h1, List.getD_eq_getElem?_getD, List.getElem?_append_right (Nat.le_refl _)]
  simp
theorem Qij (b : UInt8) (k : UInt8) : ((b.toNat : Int) == (k.toNat : Int)) = decide (b = k) := by
 rw [beqD]
 congr 1
 refine propext ⟨fun h => ?_, fun h => by rw [h]⟩
 exact UInt8.toNat_inj.1 (by omega)
theorem Ts (s : ByteArray) : ∀ (m i : Nat), i + m = s.size → (∀ j, j < i → s.data.toList.getD j 0 ≠ 35) → ∀ fuel, m < fuel →
  (runL (Vk s) fuel (i : Int)).fin (fun r => r) (fun _ => s) = (cut3 s ⟨#[35]⟩).1
 | m, i, _, _, 0, hf => absurd hf (Nat.not_lt_zero _)
 | 0, i, h, hn, fuel + 1, _ => by
  have h1 : decide ((i : Int) < (s.size : Int)) = false := decide_eq_false (by omega)
  simp only [runL, Vk, h1, cond_false]
  rw [Qsv (fun j hj => hn j (by omega))]
  rfl
 | m + 1, i, h, hn, fuel + 1, hf => by
  have h1 : decide ((i : Int) < (s.size : Int)) = true := decide_eq_true (by omega)
  have h2 := Qij (s.data.toList.getD i 0) 35
  have h3 : ((35 : UInt8).toNat : Int) = 35 := rfl
  rw [h3] at h2
  simp only [runL, Vk, h1, cond_true, Int.toNat_natCast, Yt, h2]
  by_cases hc : s.data.toList.getD i 0 = 35
  ·rw [decide_eq_true hc, cond_true, cut_at (by omega) hc hn]
   rfl
  ·rw [decide_eq_false hc, cond_false]
   have := Ts s m (i + 1) (by omega) (fun j hj => by
    rcases Nat.lt_or_ge j i with h4 | h4
    ·exact hn j h4
    ·obtain rfl : j = i := by omega
     exact hc) fuel (by omega)
   simpa using this
theorem as96 (line : ByteArray) : F96 line = ((cut3 line (⟨#[35]⟩ : ByteArray)).1) := by
 unfold F96
 exact Ts line line.size 0 (by omega) (fun j hj => absurd hj (Nat.not_lt_zero _)) _ (by omega)
theorem Qtz (line : ByteArray) : ((cut3 line (⟨#[35]⟩ : ByteArray)).1.size : Int) ≤ line.size := Po _ _
theorem Qmh (line : ByteArray) (h : line.size ≤ 1048576) : (cut3 line (⟨#[35]⟩ : ByteArray)).1.size ≤ 1048576 := by
 have := Po line ⟨#[35]⟩
 omega
theorem oa96 (line : ByteArray) : (S96 ((cut3 line (⟨#[35]⟩ : ByteArray)).1) line).ok Tryz.prog 96 := by
 intro hp; have h := ok96 line hp; rw [as96 line] at h; exact h
theorem kc96a (line : ByteArray) {K_ : Prop} (p0_ : line.size ≤ 1048576) (q0_ : line.size ≤ 1048576) (k_ : ((((cut3 line w14_).1).size : Int) ≤ line.size) → (((cut3 line w14_).1).size ≤ 1048576) → K_) : (line.size ≤ 1048576) ∧ (Imp (.v (.string line)) (.v (.string line))) ∧ K_ := ⟨p0_, Imp.refl _, k_ (Qtz line) (Qmh line q0_)⟩
abbrev kh96a (line : ByteArray) : Hint true Tryz.prog := .call 96 (S96 ((cut3 line w14_).1) line) (oa96 line) none
def Kj (line : ByteArray) : (List ByteArray × List Int × Int) → Lp (List ByteArray × List Int × Int) (List ByteArray × Bool) := fun (out, word, i40) =>
 bif (decide (i40 ≤ (((cut3 line (⟨#[35]⟩ : ByteArray)).1).size : Int))) then (bif (bif decide (i40 < (((cut3 line (⟨#[35]⟩ : ByteArray)).1).size : Int)) then (bif decide (((((cut3 line (⟨#[35]⟩ : ByteArray)).1).data.getD (Int.toNat i40) 0).toNat : Int) < 32) then true else decide (((((cut3 line (⟨#[35]⟩ : ByteArray)).1).data.getD (Int.toNat i40) 0).toNat : Int) > 126)) else false) then (.ret (([] : List ByteArray), false)) else (bif (bif decide (i40 < (((cut3 line (⟨#[35]⟩ : ByteArray)).1).size : Int)) then (((((cut3 line (⟨#[35]⟩ : ByteArray)).1).data.getD (Int.toNat i40) 0).toNat : Int) != 32) else false) then (bif (decide (((word ++ [((((cut3 line (⟨#[35]⟩ : ByteArray)).1).data.getD (Int.toNat i40) 0).toNat : Int)]).length : Int) > 24)) then (.ret (([] : List ByteArray), false)) else (.next (out, (word ++ [((((cut3 line (⟨#[35]⟩ : ByteArray)).1).data.getD (Int.toNat i40) 0).toNat : Int)]), (i40 + 1)))) else (bif (decide ((word.length : Int) > 0)) then (bif (decide (((out ++ [(Wx word)]).length : Int) > 8)) then (.ret (([] : List ByteArray), false)) else (.next ((out ++ [(Wx word)]), ([] : List Int), (i40 + 1)))) else (.next (out, word, (i40 + 1)))))) else (.done (out, word, i40))
def F64 (line : ByteArray) : List ByteArray × Bool :=
 (runL (Kj line) ((Int.toNat ((((cut3 line (⟨#[35]⟩ : ByteArray)).1).size : Int) - 0 + 1)) + 1) (([] : List ByteArray), ([] : List Int), 0)).fin (fun r => r) (fun (out, word, i40) => (out, true))
abbrev Nc (line : ByteArray) : Nat × (List ByteArray × List Int × Int) := (((Int.toNat ((((cut3 line w14_).1).size : Int) - 0 + 1)) + 1), (([] : List ByteArray), ([] : List Int), 0))
abbrev Qeo (line : ByteArray) (m39 : Nat) (out : List ByteArray) (word : List Int) (i40 : Int) : Prop := Int.toNat ((((cut3 line w14_).1).size : Int) - i40 + 1) < m39 ∧ word.length ≤ 24 ∧ out.length ≤ 8 ∧ (0 : Int) ≤ i40
abbrev Qrq (line : ByteArray) : Lp (List ByteArray × List Int × Int) (List ByteArray × Bool) := LpX (Kj line) (Nc line)
abbrev Nm (line : ByteArray) (i : Nat × (List ByteArray × List Int × Int)) : Prop := LpJ (Kj line) (Nc line) i (Qeo line i.1 i.2.1 i.2.2.1 i.2.2.2)
abbrev Qqg (line : ByteArray) (i : Nat × (List ByteArray × List Int × Int)) (m39 : Nat) (out : List ByteArray) (word : List Int) (i40 : Int) : Prop := LpH (Kj line) (Nc line) i m39 (out, word, i40) (Qeo line (m39 + 1) out word i40)
abbrev Qog (line : ByteArray) (out : List ByteArray) (word : List Int) (i40 : Int) (out_ : List ByteArray) (word_ : List Int) (i40_ : Int) (K39 : Prop) : Prop := (Rf (.string ((cut3 line w14_).1))) ∧ ((.int .i64 i40 : Value) = .int .i64 i40_) ∧ (Imp (.l 1 eStr out) (.l 1 eStr out_)) ∧ (Imp (.l 1 Wp word) (.l 1 Wp word_)) ∧ K39
theorem un64_0 (line : ByteArray) (i : Nat × (List ByteArray × List Int × Int)) (h : Nm line i) : Qqg line i (i.1 - 1) i.2.1 i.2.2.1 i.2.2.2 := ⟨hd1 h.1 h.2.1, hd3 h.2.1, hd2 h.2.1, h.2.2⟩
theorem Qhe (line : ByteArray) (i : Nat × (List ByteArray × List Int × Int)) (m39 : Nat) (out : List ByteArray) (word : List Int) (i40 : Int) (hl : m39 < i.1) (e : runL (Kj line) m39 (out, word, i40) = Qrq line) (h : Qeo line m39 out word i40) : ∃ j : Nat × (List ByteArray × List Int × Int), Qog line out word i40 j.2.1 j.2.2.1 j.2.2.2 (Nm line j ∧ j.1 < i.1) := ⟨(m39, (out, word, i40)), rfl, rfl, Imp.refl _, Imp.refl _, ⟨e, h⟩, hl⟩
theorem en64_0 (line : ByteArray) (h : ([] : List Int).length ≤ 24 ∧ ([] : List ByteArray).length ≤ 8 ∧ (0 : Int) ≤ 0) : Qog line ([] : List ByteArray) ([] : List Int) 0 ([] : List ByteArray) ([] : List Int) 0 (Nm line (Nc line)) := ⟨rfl, rfl, Imp.refl _, Imp.refl _, rfl, Nat.lt_succ_self _, h⟩
theorem fi64 (line : ByteArray) (r : List ByteArray × Bool) (hF : r = (F64 line)) : (Imp (.l 1 eStr r.1) (.l 1 eStr ((F64 line).1))) ∧ ((.bool r.2 : Value) = .bool ((F64 line).2)) ∧ True := by cases hF; exact ⟨Imp.refl _, rfl, trivial⟩
def S64 (line : ByteArray) : Spec := ⟨[.r (.c (.v (.string line)))], .tu [.ow (.l 1 eStr ((F64 line).1)), .v (.bool ((F64 line).2))], line.size ≤ 1048576⟩
theorem ok64 (line : ByteArray) : (S64 line).ok Tryz.prog 64 :=
 Qj mixed (fn := Tryz.f64) (ct := .seq .no (.seq (.reg [(1, kh96a line)]) (.seq (.reg [(0, .dat (.l 1 eStr ([] : List ByteArray)))]) (.seq (.reg [(0, .dat (.l 1 Wp ([] : List Int)))]) (.seq (.seqk [(5, 0), (6, 0)] .no (.blk (.loop (ι := Nat × (List ByteArray × List Int × Int)) (fun i => (fun (out : List ByteArray) (word : List Int) (i40 : Int) => (⟨[(4, some (.v (.string ((cut3 line w14_).1)))), (5, some (.h 0 0)), (6, some (.h 1 0)), (7, some (.v (vI i40)))], [(0, some (.own 0 (.l 1 eStr out))), (1, some (.own 1 (.l 1 Wp word)))], 2⟩ : St)) i.2.1 i.2.2.1 i.2.2.2) (Nm line) (fun i => i.1) (Nc line) (fun i => (fun (out : List ByteArray) (word : List Int) (i40 : Int) => (.seq (.seq .no (.cond .no .no)) (.seq (.blk (.seq (.seq .no (.cond (.seq (.reg [(0, .dat (.l 1 eStr ([] : List ByteArray)))]) .no) .no)) (.seq (.seq .no (.cond (.seq (.reg [(5, .dat (.l 1 Wp (word ++ [((((cut3 line w14_).1).data.getD (Int.toNat i40) 0).toNat : Int)])))]) (.seq (.seq .no (.cond (.seq (.reg [(0, .dat (.l 1 eStr ([] : List ByteArray)))]) .no) .no)) .no)) .no)) (.seq .no (.cond (.seq (.reg [(2, .str (Wx word)), (4, .dat (.l 1 eStr (out ++ [(Wx word)])))]) (.seq (.reg [(0, .dat (.l 1 Wp ([] : List Int)))]) (.seq .no (.cond (.seq (.reg [(0, .dat (.l 1 eStr ([] : List ByteArray)))]) .no) .no)))) .no))))) (.reg [(1, .bnd)])))) i.2.1 i.2.2.1 i.2.2.2)))) (.seq .no .no)))))) Tryz.func64 (fun (hpre0 : line.size ≤ 1048576) => kc96a line (by first | omega | (simp only [lens, ib] at * <;> omega)) (by first | omega | (simp only [lens, ib] at * <;> omega)) (fun gv1 gv2 => ai (bokr 1 eStr ([] : List ByteArray) fun _ => rfl) (ai (bokr 1 Wp ([] : List Int) fun _ => rfl) (kn ([] : List ByteArray) fun _ => kn ([] : List Int) fun _ => ai (en64_0 line (by refine ⟨?_, ?_, ?_⟩ <;> first | omega | (simp only [lens, ib] at * <;> omega))) (fun (i0 : Nat × (List ByteArray × List Int × Int)) (hi0 : Nm line i0) => (fun (m0 : Nat) (out : List ByteArray) (word : List Int) (i40 : Int) (hh0 : Qqg line i0 m0 out word i40) => have hI0 := hh0.1; have hl0 := hh0.2.1; have _ := hh0.2.2.1; have _ := hh0.2.2.2; ifd (i40 ≤ (((cut3 line w14_).1).size : Int)) (fun h4 _ => ai (fun k5 : (decide (i40 < (((cut3 line w14_).1).size : Int))) = true => have _ : i40 < (((cut3 line w14_).1).size : Int) := of_decide_eq_true k5; (by first | omega | (simp only [lens, ib] at * <;> omega) : 0 ≤ i40 ∧ i40 < (((cut3 line w14_).1).size : Int))) (ai (fun k7 : (decide (((((cut3 line w14_).1).data.getD (Int.toNat i40) 0).toNat : Int) < 32)) = false => have _ : ¬ ((((cut3 line w14_).1).data.getD (Int.toNat i40) 0).toNat : Int) < 32 := of_decide_eq_false k7; (fun k6 : (decide (i40 < (((cut3 line w14_).1).size : Int))) = true => have _ : i40 < (((cut3 line w14_).1).size : Int) := of_decide_eq_true k6; (by first | omega | (simp only [lens, ib] at * <;> omega) : 0 ≤ i40 ∧ i40 < (((cut3 line w14_).1).size : Int)))) (ifb (bif decide (i40 < (((cut3 line w14_).1).size : Int)) then (bif decide (((((cut3 line w14_).1).data.getD (Int.toNat i40) 0).toNat : Int) < 32) then true else decide (((((cut3 line w14_).1).data.getD (Int.toNat i40) 0).toNat : Int) > 126)) else false) (fun h8 => have _ : i40 < (((cut3 line w14_).1).size : Int) := of_decide_eq_true (Qg h8); ai (bokr 1 eStr ([] : List ByteArray) fun _ => rfl) (fi64 line (([] : List ByteArray), false) (finR (Qs hI0 (condT h4 (condT h8 rfl))) rfl))) (fun h8 => ai (fun k9 : (decide (i40 < (((cut3 line w14_).1).size : Int))) = true => have _ : i40 < (((cut3 line w14_).1).size : Int) := of_decide_eq_true k9; (by first | omega | (simp only [lens, ib] at * <;> omega) : 0 ≤ i40 ∧ i40 < (((cut3 line w14_).1).size : Int))) (ifb (bif decide (i40 < (((cut3 line w14_).1).size : Int)) then (((((cut3 line w14_).1).data.getD (Int.toNat i40) 0).toNat : Int) != 32) else false) (fun h10 => have _ : i40 < (((cut3 line w14_).1).size : Int) := of_decide_eq_true (Qg h10); have _ : ¬ ((((cut3 line w14_).1).data.getD (Int.toNat i40) 0).toNat : Int) = 32 := bneT (Ua h10); ai (by first | omega | (simp only [lens, ib] at * <;> omega) : 0 ≤ i40 ∧ i40 < (((cut3 line w14_).1).size : Int)) (ai (AppA.mk Wp word [((((cut3 line w14_).1).data.getD (Int.toNat i40) 0).toNat : Int)] (Imp.refl (.l 1 Wp word)) rfl (by exact ai (Imp.u8 (by first | exact u8a _ | exact u8m _ | exact u8w _)) trivial) (fun _ => rfl) : AppA (.l 1 Wp word) 1 1 [.v (.int .u8 ((((cut3 line w14_).1).data.getD (Int.toNat i40) 0).toNat : Int))] (.l 1 Wp (word ++ [((((cut3 line w14_).1).data.getD (Int.toNat i40) 0).toNat : Int)]))) (ai (by (try simp only [lens]); omega : (word ++ [((((cut3 line w14_).1).data.getD (Int.toNat i40) 0).toNat : Int)]).length * 1 ≤ 140737488355328) (ifd (((word ++ [((((cut3 line w14_).1).data.getD (Int.toNat i40) 0).toNat : Int)]).length : Int) > 24) (fun h11 _ => ai (bokr 1 eStr ([] : List ByteArray) fun _ => rfl) (fi64 line (([] : List ByteArray), false) (finR (Qs hI0 (condT h4 (condF h8 (condT h10 (condT h11 rfl))))) rfl))) (fun h11 _ => ai (iok (i40 + 1) (by first | omega | (simp only [lens, ib] at * <;> omega))) (Qhe line i0 m0 out (word ++ [((((cut3 line w14_).1).data.getD (Int.toNat i40) 0).toNat : Int)]) (i40 + 1) hl0 (Qd hI0 (condT h4 (condF h8 (condT h10 (condF h11 rfl))))) (by refine ⟨?_, ?_, ?_, ?_⟩ <;> first | omega | (simp only [lens, ib] at * <;> omega)))))))) (fun h10 => ifd ((word.length : Int) > 0) (fun h12 _ => ai (ConvOK.mk Wp word (fun x => x % 256) (fun _ => rfl) : ConvOK (.l 1 Wp word) (Wx word)) (ai (appr 1 eStr out [(Wx word)] fun _ => rfl) (ai (by (try simp only [lens]); omega : (out ++ [(Wx word)]).length * 16 ≤ 140737488355328) (ai (bokr 1 Wp ([] : List Int) fun _ => rfl) (ifd (((out ++ [(Wx word)]).length : Int) > 8) (fun h13 _ => ai (bokr 1 eStr ([] : List ByteArray) fun _ => rfl) (fi64 line (([] : List ByteArray), false) (finR (Qs hI0 (condT h4 (condF h8 (condF h10 (condT h12 (condT h13 rfl)))))) rfl))) (fun h13 _ => ai (iok (i40 + 1) (by first | omega | (simp only [lens, ib] at * <;> omega))) (Qhe line i0 m0 (out ++ [(Wx word)]) ([] : List Int) (i40 + 1) hl0 (Qd hI0 (condT h4 (condF h8 (condF h10 (condT h12 (condF h13 rfl)))))) (by refine ⟨?_, ?_, ?_, ?_⟩ <;> first | omega | (simp only [lens, ib] at * <;> omega))))))))) (fun h12 _ => ai (iok (i40 + 1) (by first | omega | (simp only [lens, ib] at * <;> omega))) (Qhe line i0 m0 out word (i40 + 1) hl0 (Qd hI0 (condT h4 (condF h8 (condF h10 (condF h12 rfl))))) (by refine ⟨?_, ?_, ?_, ?_⟩ <;> first | omega | (simp only [lens, ib] at * <;> omega)))))))))) (fun h4 _ => have hD0_14 : Qrq line = Lp.done (out, word, i40) := Ql hI0 (condF h4 rfl); fi64 line (out, true) (finD hD0_14 rfl))) (i0.1 - 1) i0.2.1 i0.2.2.1 i0.2.2.2 (un64_0 line i0 hi0)))))) (by kernel_rfl)
def Qn (l : List UInt8) : List (List UInt8) := (Qp 32 l).filter fun w => !w.isEmpty
def okB (b : UInt8) : Bool := decide (32 ≤ b.toNat ∧ b.toNat ≤ 126)
def mkB (l : List UInt8) : ByteArray := ⟨l.toArray⟩
theorem Rt (l : List UInt8) : (mkB l).data.toList = l := rfl
theorem Gf (s : ByteArray) : mkB s.data.toList = s := Kk rfl
def fitW (ws : List (List UInt8)) : Bool := decide (ws.length ≤ 8) && ws.all fun w => decide (w.length ≤ 24)
def Zi (l : List UInt8) : List ByteArray × Bool := bif l.all okB && fitW (Qn l) then ((Qn l).map mkB, true) else ([], false)
def Kl (w : List UInt8) : List Int := w.map fun b => (b.toNat : Int)
theorem Hy (w : List UInt8) : (Kl w).length = w.length := by simp [Kl]
theorem Ls (w : List UInt8) : Wx (Kl w) = mkB w := by
 refine Kk ?_
 show ((List.map (fun x => x % 256) (Kl w)).map fun n => UInt8.ofNat n.toNat) = w
 rw [List.map_map, Kl, List.map_map]
 refine (List.map_congr_left (g := id) fun b _ => ?_).trans (List.map_id w)
 have h := b.toNat_lt
 have e : ((b.toNat : Int) % 256).toNat = b.toNat := by omega
 simp only [Function.comp_apply, e, id]
 exact UInt8.ofNat_toNat
def Gy : List UInt8 → List ByteArray → List UInt8 → List ByteArray × Bool
 | [], out, w => if w = [] then (out, true) else if out.length + 1 > 8 then ([], false) else (out ++ [mkB w], true)
 | b :: l, out, w => if okB b = false then ([], false) else if b = 32 then (if w = [] then Gy l out w else if out.length + 1 > 8 then ([], false) else Gy l (out ++ [mkB w]) [])
  else if w.length + 1 > 24 then ([], false) else Gy l out (w ++ [b])
theorem Ll (c : UInt8) : ∀ (l w : List UInt8), c ∉ w → ∃ p ps, Qp c (w ++ l) = (w ++ p) :: ps
 | [], w, h => ⟨[], [], by rw [List.append_nil, Uf h]⟩
 | b :: l, w, h => by
  by_cases hb : b = c
  ·subst hb
   exact ⟨[], Qp b l, by rw [Uj l h, List.append_nil]⟩
  ·obtain ⟨p, ps, e⟩ := Ll c l (w ++ [b]) (fun hm => by
    rcases List.mem_append.1 hm with h1 | h1
    ·exact h h1
    ·exact hb (List.mem_singleton.1 h1).symm)
   exact ⟨b :: p, ps, by rw [← List.singleton_append, ← List.append_assoc, e, List.append_assoc]; rfl⟩
theorem Hk : ∀ (l : List UInt8) (out : List ByteArray) (w : List UInt8), (32 : UInt8) ∉ w → w.length ≤ 24 → out.length ≤ 8 →
  Gy l out w = bif l.all okB && (decide (out.length + (Qn (w ++ l)).length ≤ 8) && (Qn (w ++ l)).all fun x => decide (x.length ≤ 24)) then (out ++ (Qn (w ++ l)).map mkB, true) else ([], false)
 | [], out, w, hw, h24, h8 => by
  have e : Qn (w ++ []) = if w = [] then [] else [w] := by
   rw [List.append_nil, Qn, Uf hw]
   cases w <;> rfl
  rw [e, Gy]
  by_cases h : w = []
  ·rw [if_pos h, if_pos h]
   have e2 : decide (out.length + ([] : List (List UInt8)).length ≤ 8) = true := decide_eq_true (by simpa using h8)
   rw [e2, List.map_nil, List.append_nil]; rfl
  ·rw [if_neg h, if_neg h]
   by_cases h1 : out.length + 1 > 8
   ·rw [if_pos h1]
    have : decide (out.length + [w].length ≤ 8) = false := decide_eq_false (by simp only [List.length_cons, List.length_nil]; omega)
    rw [this]; rfl
   ·rw [if_neg h1]
    have : decide (out.length + [w].length ≤ 8) = true := decide_eq_true (by simp only [List.length_cons, List.length_nil]; omega)
    rw [this, List.all_cons, decide_eq_true h24]; rfl
 | b :: l, out, w, hw, h24, h8 => by
  rw [Gy, List.all_cons]
  cases hb : okB b with
  | false => rw [if_pos rfl]; rfl
  | true =>
   rw [if_neg (by simp), Bool.true_and]
   by_cases h32 : b = 32
   ·subst h32
    rw [if_pos rfl]
    have e : Qn (w ++ 32 :: l) = if w = [] then Qn l else w :: Qn l := by
     rw [Qn, Uj l hw, List.filter_cons]
     cases w <;> rfl
    rw [e]
    by_cases h : w = []
    ·rw [if_pos h, if_pos h, h, Hk l out [] (by simp) (by simp) h8, List.nil_append]
    ·rw [if_neg h, if_neg h]
     by_cases h1 : out.length + 1 > 8
     ·rw [if_pos h1]
      have : decide (out.length + (w :: Qn l).length ≤ 8) = false := decide_eq_false (by simp only [List.length_cons]; omega)
      rw [this, Bool.false_and, Bool.and_false]; rfl
     ·rw [if_neg h1, Hk l (out ++ [mkB w]) [] (by simp) (by simp) (by simp only [List.length_append, List.length_cons, List.length_nil]; omega), List.nil_append]
      have e1 : (out ++ [mkB w]).length + (Qn l).length = out.length + (w :: Qn l).length := by simp only [List.length_append, List.length_cons, List.length_nil]; omega
      rw [e1, List.all_cons, decide_eq_true h24, Bool.true_and, List.map_cons, List.append_assoc]
      rfl
   ·rw [if_neg h32]
    have hw' : (32 : UInt8) ∉ w ++ [b] := fun hm => by
     rcases List.mem_append.1 hm with h1 | h1
     ·exact hw h1
     ·exact h32 (List.mem_singleton.1 h1).symm
    have e2 : w ++ b :: l = (w ++ [b]) ++ l := by rw [List.append_assoc]; rfl
    by_cases h1 : w.length + 1 > 24
    ·rw [if_pos h1]
     obtain ⟨p, ps, e⟩ := Ll 32 l (w ++ [b]) hw'
     have e3 : (Qn (w ++ b :: l)).all (fun x => decide (x.length ≤ 24)) = false := by
      rw [e2, Qn, e, List.filter_cons]
      have hne : (!((w ++ [b]) ++ p).isEmpty) = true := by cases w <;> rfl
      rw [if_pos hne, List.all_cons, decide_eq_false (by simp only [List.length_append, List.length_cons, List.length_nil]; omega)]
      rfl
     rw [e3, Bool.and_false, Bool.and_false]; rfl
    ·rw [if_neg h1, Hk l out (w ++ [b]) hw' (by simp only [List.length_append, List.length_cons, List.length_nil]; omega) h8, e2]
theorem Uo {σ ρ : Type} {step : σ → Lp σ ρ} {s s' : σ} (m : Nat) (h : step s = .next s') : runL step (m + 1) s = runL step m s' := by
 rw [runL, h]
theorem Zp {σ ρ : Type} {step : σ → Lp σ ρ} {s s' : σ} (m : Nat) (h : step s = .done s') : runL step (m + 1) s = .done s' := by
 rw [runL, h]
theorem Kz {σ ρ : Type} {step : σ → Lp σ ρ} {s : σ} {r : ρ} (m : Nat) (h : step s = .ret r) : runL step (m + 1) s = .ret r := by
 rw [runL, h]
theorem Qjk {w : List UInt8} (hw : ¬ w = []) : decide ((w.length : Int) > 0) = true := by
 cases w with
 | nil => exact absurd rfl hw
 | cons a w => exact decide_eq_true (by simp only [List.length_cons]; omega)
theorem Qoi (line s : ByteArray) (hs : (cut3 line (⟨#[35]⟩ : ByteArray)).1 = s) (out : List ByteArray) (w : List UInt8) : Kj line (out, Kl w, (s.size : Int)) =
  if w = [] then .next (out, Kl [], (s.size : Int) + 1) else if out.length + 1 > 8 then .ret ([], false) else .next (out ++ [mkB w], Kl [], (s.size : Int) + 1) := by
 have h0 : decide ((s.size : Int) ≤ (s.size : Int)) = true := decide_eq_true (by omega)
 have h1 : decide ((s.size : Int) < (s.size : Int)) = false := decide_eq_false (by omega)
 simp only [Kj, hs, h0, h1, cond_true, cond_false, Ls, Hy, List.length_append, List.length_cons, List.length_nil]
 by_cases hw : w = []
 ·subst hw; rfl
 ·rw [Qjk hw, if_neg hw, cond_true]
  by_cases h8 : out.length + 1 > 8
  ·have : decide (((out.length + (0 + 1) : Nat) : Int) > 8) = true := decide_eq_true (by omega)
   rw [this, if_pos h8]; rfl
  ·have : decide (((out.length + (0 + 1) : Nat) : Int) > 8) = false := decide_eq_false (by omega)
   rw [this, if_neg h8]; rfl
theorem Qee (line s : ByteArray) (hs : (cut3 line (⟨#[35]⟩ : ByteArray)).1 = s) (out : List ByteArray) (w : List Int) : Kj line (out, w, (s.size : Int) + 1) = .done (out, w, (s.size : Int) + 1) := by
 have h0 : decide ((s.size : Int) + 1 ≤ (s.size : Int)) = false := decide_eq_false (by omega)
 simp only [Kj, hs, h0, cond_false]
theorem Qnr (line s : ByteArray) (hs : (cut3 line (⟨#[35]⟩ : ByteArray)).1 = s) (out : List ByteArray) (w : List UInt8) (i : Nat) (hi : i < s.size) (b : UInt8) (hb : s.data.toList.getD i 0 = b) : Kj line (out, Kl w, (i : Int)) =
  if okB b = false then .ret ([], false) else if b = 32 then (if w = [] then .next (out, Kl [], (i : Int) + 1) else if out.length + 1 > 8 then .ret ([], false) else .next (out ++ [mkB w], Kl [], (i : Int) + 1))
  else if w.length + 1 > 24 then .ret ([], false) else .next (out, Kl (w ++ [b]), (i : Int) + 1) := by
 have h0 : decide ((i : Int) ≤ (s.size : Int)) = true := decide_eq_true (by omega)
 have h1 : decide ((i : Int) < (s.size : Int)) = true := decide_eq_true (by omega)
 simp only [Kj, hs, h0, h1, cond_true, Int.toNat_natCast, Yt, hb]
 have hok : (bif decide ((b.toNat : Int) < 32) then true else decide ((b.toNat : Int) > 126)) = !okB b := by
  unfold okB
  by_cases h3 : (b.toNat : Int) < 32
  ·rw [decide_eq_true h3, cond_true, decide_eq_false (by omega)]; rfl
  ·rw [decide_eq_false h3, cond_false]
   by_cases h4 : (b.toNat : Int) > 126
   ·rw [decide_eq_true h4, decide_eq_false (by omega)]; rfl
   ·rw [decide_eq_false h4, decide_eq_true (by omega)]; rfl
 rw [hok]
 cases okB b with
 | false => rfl
 | true =>
  have h32 := Qij b 32
  have h33 : ((32 : UInt8).toNat : Int) = 32 := rfl
  rw [h33] at h32
  have h34 : ((b.toNat : Int) != 32) = !decide (b = 32) := by rw [bne, h32]
  rw [h34]
  simp only [Bool.not_true, cond_false, Bool.true_eq_false, if_false]
  by_cases hc : b = 32
  ·rw [decide_eq_true hc, if_pos hc]
   simp only [Bool.not_true, cond_false, Ls, Hy, List.length_append, List.length_cons, List.length_nil]
   by_cases hw : w = []
   ·subst hw; rfl
   ·rw [Qjk hw, if_neg hw, cond_true]
    by_cases h8 : out.length + 1 > 8
    ·have : decide (((out.length + (0 + 1) : Nat) : Int) > 8) = true := decide_eq_true (by omega)
     rw [this, if_pos h8]; rfl
    ·have : decide (((out.length + (0 + 1) : Nat) : Int) > 8) = false := decide_eq_false (by omega)
     rw [this, if_neg h8]; rfl
  ·rw [decide_eq_false hc, if_neg hc]
   simp only [Bool.not_false, cond_true, Hy, List.length_append, List.length_cons, List.length_nil]
   by_cases h24 : w.length + 1 > 24
   ·have : decide (((w.length + (0 + 1) : Nat) : Int) > 24) = true := decide_eq_true (by omega)
    rw [this, if_pos h24]; rfl
   ·have : decide (((w.length + (0 + 1) : Nat) : Int) > 24) = false := decide_eq_false (by omega)
    rw [this, if_neg h24, cond_false]
    have e : Kl (w ++ [b]) = Kl w ++ [(b.toNat : Int)] := by simp [Kl]
    rw [e]
theorem Xe (line s : ByteArray) (hs : (cut3 line (⟨#[35]⟩ : ByteArray)).1 = s) : ∀ (m i : Nat) (out : List ByteArray) (w : List UInt8), i + m = s.size → ∀ fuel, m + 1 < fuel →
  (runL (Kj line) fuel (out, Kl w, (i : Int))).fin (fun r => r) (fun (out, word, i40) => (out, true)) = Gy (s.data.toList.drop i) out w
 | m, i, out, w, _, 0, hf => absurd hf (Nat.not_lt_zero _)
 | 0, i, out, w, h, fuel + 1, hf => by
  have hl : s.data.toList.length = s.size := Array.length_toList
  obtain rfl : i = s.size := by omega
  obtain ⟨fuel, rfl⟩ : ∃ f, fuel = f + 1 := ⟨fuel - 1, by omega⟩
  rw [List.drop_of_length_le (by omega), Gy]
  have h1 := Qoi line s hs out w
  by_cases hw : w = []
  ·rw [if_pos hw] at h1 ⊢
   rw [Uo _ h1, Zp _ (Qee line s hs _ _)]; rfl
  ·rw [if_neg hw] at h1 ⊢
   by_cases h8 : out.length + 1 > 8
   ·rw [if_pos h8] at h1 ⊢
    rw [Kz _ h1]; rfl
   ·rw [if_neg h8] at h1 ⊢
    rw [Uo _ h1, Zp _ (Qee line s hs _ _)]; rfl
 | m + 1, i, out, w, h, fuel + 1, hf => by
  have hl : s.data.toList.length = s.size := Array.length_toList
  have hb : s.data.toList.drop i = s.data.toList.getD i 0 :: s.data.toList.drop (i + 1) := by
   rw [List.drop_eq_getElem_cons (by omega), List.getD_eq_getElem?_getD, List.getElem?_eq_getElem (by omega)]; rfl
  rw [hb, Gy]
  have h1 := Qnr line s hs out w i (by omega) _ rfl
  generalize s.data.toList.getD i 0 = b at h1 ⊢
  have ei : ((i : Int) + 1) = ((i + 1 : Nat) : Int) := rfl
  rw [ei] at h1
  by_cases hok : okB b = false
  ·rw [if_pos hok] at h1 ⊢
   rw [Kz _ h1]; rfl
  ·rw [if_neg hok] at h1 ⊢
   by_cases hc : b = 32
   ·rw [if_pos hc] at h1 ⊢
    by_cases hw : w = []
    ·rw [if_pos hw] at h1 ⊢
     rw [Uo _ h1, hw]
     exact Xe line s hs m (i + 1) out [] (by omega) fuel (by omega)
    ·rw [if_neg hw] at h1 ⊢
     by_cases h8 : out.length + 1 > 8
     ·rw [if_pos h8] at h1 ⊢
      rw [Kz _ h1]; rfl
     ·rw [if_neg h8] at h1 ⊢
      rw [Uo _ h1]
      exact Xe line s hs m (i + 1) (out ++ [mkB w]) [] (by omega) fuel (by omega)
   ·rw [if_neg hc] at h1 ⊢
    by_cases h24 : w.length + 1 > 24
    ·rw [if_pos h24] at h1 ⊢
     rw [Kz _ h1]; rfl
    ·rw [if_neg h24] at h1 ⊢
     rw [Uo _ h1]
     exact Xe line s hs m (i + 1) out (w ++ [b]) (by omega) fuel (by omega)
theorem Jl (line : ByteArray) : F64 line = Zi (cut3 line (⟨#[35]⟩ : ByteArray)).1.data.toList := by
 unfold F64
 have := Xe line _ rfl (cut3 line (⟨#[35]⟩ : ByteArray)).1.size 0 [] [] (by omega) (Int.toNat (((cut3 line (⟨#[35]⟩ : ByteArray)).1.size : Int) - 0 + 1) + 1) (by omega)
 rw [List.drop_zero, Hk _ _ _ (by simp) (by simp) (by simp), List.nil_append, List.nil_append, List.length_nil, Nat.zero_add] at this
 exact this
theorem Qam (b : UInt8) : IntKind.i64.wrap ((b.toNat : Int)) = (b.toNat : Int) := by
 have h := b.toNat_lt
 exact Xa (by omega) (by omega)
theorem Qab (line s : ByteArray) (hs : (cut3 line (⟨#[35]⟩ : ByteArray)).1 = s) {τ : Type} (f : List ByteArray × Bool → τ) (g : Int → τ) (y : τ) (hg : ∀ i, g i = y) : ∀ (m i : Nat), i + m = s.size → ∀ fuel, m < fuel →
  (runL (Zz line) fuel (i : Int)).fin f g = bif (s.data.toList.drop i).all okB then y else f ([], false)
 | m, i, _, 0, hf => absurd hf (Nat.not_lt_zero _)
 | 0, i, h, fuel + 1, hf => by
  have hl : s.data.toList.length = s.size := Array.length_toList
  have h1 : decide ((i : Int) < (s.size : Int)) = false := decide_eq_false (by omega)
  have hst : Zz line (i : Int) = .done (i : Int) := by
   simp only [Zz, F34, hs, h1, cond_false]
  rw [List.drop_of_length_le (by omega), Zp _ hst]
  exact hg _
 | m + 1, i, h, fuel + 1, hf => by
  have hl : s.data.toList.length = s.size := Array.length_toList
  have h1 : decide ((i : Int) < (s.size : Int)) = true := decide_eq_true (by omega)
  have hb : s.data.toList.drop i = s.data.toList.getD i 0 :: s.data.toList.drop (i + 1) := by
   rw [List.drop_eq_getElem_cons (by omega), List.getD_eq_getElem?_getD, List.getElem?_eq_getElem (by omega)]; rfl
  have hst : Zz line (i : Int) = if okB (s.data.toList.getD i 0) = false then .ret ([], false) else .next ((i + 1 : Nat) : Int) := by
   simp only [Zz, F34, hs, h1, cond_true, Int.toNat_natCast, Yt, Qam]
   generalize s.data.toList.getD i 0 = b
   have e : decide ((32 : Int) ≤ (b.toNat : Int) ∧ (b.toNat : Int) ≤ 126) = okB b := by
    unfold okB
    congr 1
    exact propext ⟨fun h => by omega, fun h => by omega⟩
   rw [e]
   cases okB b <;> rfl
  rw [hb, List.all_cons]
  generalize s.data.toList.getD i 0 = b at hst ⊢
  by_cases hok : okB b = false
  ·rw [if_pos hok] at hst
   rw [Kz _ hst, hok]; rfl
  ·rw [if_neg hok] at hst
   rw [Uo _ hst, Qab line s hs f g y hg m (i + 1) (by omega) fuel (by omega)]
   cases ho : okB b with
   | false => exact absurd ho hok
   | true => rw [Bool.true_and]
theorem isE (x : ByteArray) : (x.toList == (⟨#[]⟩ : ByteArray).toList) = x.data.toList.isEmpty := by
 rw [Qu, Qu]
 cases x.data.toList <;> rfl
theorem Qbc (s : ByteArray) : (Qi s (⟨#[32]⟩ : ByteArray)).filter (fun x => !(x.toList == (⟨#[]⟩ : ByteArray).toList)) = (Qn s.data.toList).map mkB := by
 rw [Qn, ← Ri, List.filter_map, List.map_map]
 have e : (fun x : ByteArray => !(x.toList == (⟨#[]⟩ : ByteArray).toList)) = ((fun w : List UInt8 => !w.isEmpty) ∘ fun x : ByteArray => x.data.toList) := by
  funext x
  rw [isE]; rfl
 rw [e]
 exact ((List.map_congr_left fun x _ => Gf x).trans (List.map_id _)).symm
theorem Qdp : ∀ ws : List (List UInt8), ws.any ((fun x : ByteArray => decide ((x.size : Int) > 24)) ∘ mkB) = !ws.all fun w => decide (w.length ≤ 24)
 | [] => rfl
 | w :: ws => by
  rw [List.any_cons, List.all_cons, Qdp ws, Bool.not_and]
  congr 1
  have : (mkB w).size = w.length := rfl
  show decide (((mkB w).size : Int) > 24) = _
  rw [this]
  by_cases h : w.length ≤ 24
  ·rw [decide_eq_true h, decide_eq_false (by omega)]; rfl
  ·rw [decide_eq_false h, decide_eq_true (by omega)]; rfl
theorem Bg (line : ByteArray) : F133 line = Zi (cut3 line (⟨#[35]⟩ : ByteArray)).1.data.toList := by
 generalize hs : (cut3 line (⟨#[35]⟩ : ByteArray)).1 = s
 unfold F133
 have h1 := Qab line s hs (fun r => r) (fun _ => bif (bif decide ((((Qn s.data.toList).map mkB).length : Int) > 8) then true else ((Qn s.data.toList).map mkB).any fun x => decide ((x.size : Int) > 24)) then (([] : List ByteArray), false) else ((Qn s.data.toList).map mkB, true)) _ (fun _ => rfl) s.size 0 (by omega) (Int.toNat ((s.size : Int) - 0) + 1) (by omega)
 have hf : (Qi s (⟨#[32]⟩ : ByteArray)).filter (fun x => !F176 x) = (Qn s.data.toList).map mkB := Qbc s
 simp only [F34, F70, hs, hf]
 refine h1.trans ?_
 rw [List.drop_zero, Zi, fitW, List.length_map, List.any_map]
 have e1 : decide (((Qn s.data.toList).length : Int) > 8) = !decide ((Qn s.data.toList).length ≤ 8) := by
  by_cases h : (Qn s.data.toList).length ≤ 8
  ·rw [decide_eq_true h, decide_eq_false (by omega)]; rfl
  ·rw [decide_eq_false h, decide_eq_true (by omega)]; rfl
 rw [e1, Qdp]
 cases (s.data.toList.all okB) <;> cases decide ((Qn s.data.toList).length ≤ 8) <;> cases ((Qn s.data.toList).all fun w => decide (w.length ≤ 24)) <;> rfl
theorem Jh (line : ByteArray) : F133 line = F64 line := (Bg line).trans (Jl line).symm
theorem Qdg (l : List UInt8) : (Zi l).1.length ≤ 8 := by
 unfold Zi fitW
 by_cases h : (Qn l).length ≤ 8
 ·cases l.all okB <;> cases ((Qn l).all fun w => decide (w.length ≤ 24)) <;> simp [h]
 ·rw [decide_eq_false h, Bool.false_and, Bool.and_false]
  exact Nat.zero_le _
theorem Hq (line : ByteArray) : (F133 line).1.length ≤ 8 := by
 rw [Bg]; exact Qdg _
def Zu (s : ByteArray) (at' : Int) : (List ByteArray × Int × Int) → Lp (List ByteArray × Int × Int) (List ByteArray) := fun (out1, from'1, i40) =>
 bif (decide (i40 < (s.size : Int))) then (bif (((s.data.getD (Int.toNat i40) 0).toNat : Int) == (at' % 256)) then (.next ((out1 ++ [(s.extract (Int.toNat from'1) (Int.toNat i40))]), (i40 + 1), (i40 + 1))) else (.next (out1, from'1, (i40 + 1)))) else (.done (out1, from'1, i40))
def Pr (s : ByteArray) (at' : Int) : Lp (List ByteArray × Int) (List ByteArray) :=
 (runL (Zu s at') ((Int.toNat ((s.size : Int) - 0)) + 1) (([] : List ByteArray), 0, 0)).fin Lp.ret (fun (out1, from'1, i40) => .done (out1, from'1))
def F32 (s : ByteArray) (at' : Int) : List ByteArray :=
 (Pr s at').fin (fun r => r) (fun (out, from') => (out ++ [(s.extract (Int.toNat from') (Int.toNat (s.size : Int)))]))
abbrev My (s : ByteArray) : Nat × (List ByteArray × Int × Int) := (((Int.toNat ((s.size : Int) - 0)) + 1), (([] : List ByteArray), 0, 0))
abbrev Qfl (s : ByteArray) (m39 : Nat) (out1 : List ByteArray) (from'1 : Int) (i40 : Int) : Prop := Int.toNat ((s.size : Int) - i40) < m39 ∧ (0 : Int) ≤ from'1 ∧ (from'1 : Int) ≤ i40 ∧ (out1.length : Int) ≤ i40 ∧ i40 ≤ (s.size : Int) ∧ (0 : Int) ≤ from'1 ∧ (0 : Int) ≤ i40
abbrev Qms (s : ByteArray) (at' : Int) : Lp (List ByteArray × Int × Int) (List ByteArray) := LpX (Zu s at') (My s)
abbrev Pu (s : ByteArray) (at' : Int) (i : Nat × (List ByteArray × Int × Int)) : Prop := LpJ (Zu s at') (My s) i (Qfl s i.1 i.2.1 i.2.2.1 i.2.2.2)
abbrev Qnl (s : ByteArray) (at' : Int) (i : Nat × (List ByteArray × Int × Int)) (m39 : Nat) (out1 : List ByteArray) (from'1 : Int) (i40 : Int) : Prop := LpH (Zu s at') (My s) i m39 (out1, from'1, i40) (Qfl s (m39 + 1) out1 from'1 i40)
abbrev Qpr (s : ByteArray) (at' : Int) (out1 : List ByteArray) (from'1 : Int) (i40 : Int) (out1_ : List ByteArray) (from'1_ : Int) (i40_ : Int) (K39 : Prop) : Prop := (Rf (.string s)) ∧ (Rf (.int .u8 (at' % 256))) ∧ ((.int .i64 from'1 : Value) = .int .i64 from'1_) ∧ ((.int .i64 i40 : Value) = .int .i64 i40_) ∧ (Imp (.l 1 eStr out1) (.l 1 eStr out1_)) ∧ K39
theorem un32_0 (s : ByteArray) (at' : Int) (i : Nat × (List ByteArray × Int × Int)) (h : Pu s at' i) : Qnl s at' i (i.1 - 1) i.2.1 i.2.2.1 i.2.2.2 := ⟨hd1 h.1 h.2.1, hd3 h.2.1, hd2 h.2.1, h.2.2⟩
theorem Qrx (s : ByteArray) (at' : Int) (i : Nat × (List ByteArray × Int × Int)) (m39 : Nat) (out1 : List ByteArray) (from'1 : Int) (i40 : Int) (hl : m39 < i.1) (e : runL (Zu s at') m39 (out1, from'1, i40) = Qms s at') (h : Qfl s m39 out1 from'1 i40) : ∃ j : Nat × (List ByteArray × Int × Int), Qpr s at' out1 from'1 i40 j.2.1 j.2.2.1 j.2.2.2 (Pu s at' j ∧ j.1 < i.1) := ⟨(m39, (out1, from'1, i40)), rfl, rfl, rfl, rfl, Imp.refl _, ⟨e, h⟩, hl⟩
theorem en32_0 (s : ByteArray) (at' : Int) (h : (0 : Int) ≤ 0 ∧ (0 : Int) ≤ 0 ∧ (([] : List ByteArray).length : Int) ≤ 0 ∧ 0 ≤ (s.size : Int) ∧ (0 : Int) ≤ 0 ∧ (0 : Int) ≤ 0) : Qpr s at' ([] : List ByteArray) 0 0 ([] : List ByteArray) 0 0 (Pu s at' (My s)) := ⟨rfl, rfl, rfl, rfl, Imp.refl _, rfl, Nat.lt_succ_self _, h⟩
abbrev Qgg (s : ByteArray) (at' : Int) (out : List ByteArray) (from' : Int) : Prop := (0 : Int) ≤ from' ∧ from' ≤ (s.size : Int) ∧ (out.length : Int) ≤ (s.size : Int)
abbrev Qfh (s : ByteArray) (at' : Int) (j : List ByteArray × Int) : Prop := (Pr s at') = Lp.done j ∧ Qgg s at' j.1 j.2
theorem jn32_0 (s : ByteArray) (at' : Int) (out : List ByteArray) (from' : Int) (e : (Pr s at') = Lp.done (out, from')) (h : Qgg s at' out from') : ∃ j : List ByteArray × Int, ((.string s : Value) = .string s) ∧ ((.int .i64 from' : Value) = .int .i64 j.2) ∧ (Imp (.l 1 eStr out) (.l 1 eStr j.1)) ∧ Qfh s at' j := ⟨(out, from'), rfl, rfl, Imp.refl _, e, h⟩
theorem fi32 (s : ByteArray) (at' : Int) (r : List ByteArray) (hF : r = (F32 s at')) : (Imp (.l 1 eStr r) (.l 1 eStr (F32 s at'))) ∧ True := by cases hF; exact ⟨Imp.refl _, trivial⟩
def S32 (s : ByteArray) (at' : Int) : Spec := ⟨[.r (.c (.v (.string s))), .r (.c (.v (.int .u8 (at' % 256))))], .ow (.l 1 eStr (F32 s at')), s.size ≤ 1048576⟩
theorem ok32 (s : ByteArray) (at' : Int) : (S32 s at').ok Tryz.prog 32 :=
 Qj mixed (fn := Tryz.f32) (ct := .seq .no (.seq (.reg [(0, .dat (.l 1 eStr ([] : List ByteArray)))]) (.seq .no (.cut (ι := List ByteArray × Int) (fun j => (fun (out : List ByteArray) (from' : Int) => (⟨[(0, some (.v (.string s))), (5, some (.h 0 0)), (6, some (.v (vI from')))], [(0, some (.own 0 (.l 1 eStr out)))], 1⟩ : St)) j.1 j.2) (Qfh s at') (.seqk [(5, 0)] .no (.blk (.loop (ι := Nat × (List ByteArray × Int × Int)) (fun i => (fun (out1 : List ByteArray) (from'1 : Int) (i40 : Int) => (⟨[(0, some (.v (.string s))), (1, some (.v (.int .u8 (at' % 256)))), (5, some (.h 0 0)), (6, some (.v (vI from'1))), (7, some (.v (vI i40)))], [(0, some (.own 0 (.l 1 eStr out1)))], 1⟩ : St)) i.2.1 i.2.2.1 i.2.2.2) (Pu s at') (fun i => i.1) (My s) (fun i => (fun (out1 : List ByteArray) (from'1 : Int) (i40 : Int) => (.seq (.seq .no (.cond .no .no)) (.seq (.blk (.seq .no (.cond (.seq (.reg [(6, .dat (.l 1 eStr (out1 ++ [(s.extract (Int.toNat from'1) (Int.toNat i40))])))]) (.reg [(1, .bnd)])) .no))) (.reg [(1, .bnd)])))) i.2.1 i.2.2.1 i.2.2.2)))) (fun j => (fun (out : List ByteArray) (from' : Int) => (.seq (.reg [(5, .dat (.l 1 eStr (out ++ [(s.extract (Int.toNat from') (Int.toNat (s.size : Int)))])))]) .no)) j.1 j.2))))) Tryz.func32 (fun (hpre0 : s.size ≤ 1048576) => ai (bokr 1 eStr ([] : List ByteArray) fun _ => rfl) (ai (kn ([] : List ByteArray) fun _ => ai (en32_0 s at' (by refine ⟨?_, ?_, ?_, ?_, ?_, ?_⟩ <;> first | omega | (simp only [lens, ib] at * <;> omega))) (fun (i0 : Nat × (List ByteArray × Int × Int)) (hi0 : Pu s at' i0) => (fun (m0 : Nat) (out1 : List ByteArray) (from'1 : Int) (i40 : Int) (hh0 : Qnl s at' i0 m0 out1 from'1 i40) => have hI0 := hh0.1; have hl0 := hh0.2.1; have _ := hh0.2.2.1; have _ := hh0.2.2.2; ifd (i40 < (s.size : Int)) (fun h2 _ => ai (by first | omega | (simp only [lens, ib] at * <;> omega) : 0 ≤ i40 ∧ i40 < (s.size : Int)) (ife ((s.data.getD (Int.toNat i40) 0).toNat : Int) (at' % 256) (fun h3 _ => ai (by first | omega | (simp only [lens, ib] at * <;> omega) : 0 ≤ from'1 ∧ from'1 ≤ i40 ∧ i40 ≤ (s.size : Int)) (ai (appr 1 eStr out1 [(s.extract (Int.toNat from'1) (Int.toNat i40))] fun _ => rfl) (ai (by (try simp only [lens]); omega : (out1 ++ [(s.extract (Int.toNat from'1) (Int.toNat i40))]).length * 16 ≤ 140737488355328) (ai (iok (i40 + 1) (by first | omega | (simp only [lens, ib] at * <;> omega))) (ai (iok (i40 + 1) (by first | omega | (simp only [lens, ib] at * <;> omega))) (Qrx s at' i0 m0 (out1 ++ [(s.extract (Int.toNat from'1) (Int.toNat i40))]) (i40 + 1) (i40 + 1) hl0 (Qd hI0 (condT h2 (condT h3 rfl))) (by refine ⟨?_, ?_, ?_, ?_, ?_, ?_, ?_⟩ <;> first | omega | (simp only [lens, ib] at * <;> omega)))))))) (fun h3 _ => ai (iok (i40 + 1) (by first | omega | (simp only [lens, ib] at * <;> omega))) (Qrx s at' i0 m0 out1 from'1 (i40 + 1) hl0 (Qd hI0 (condT h2 (condF h3 rfl))) (by refine ⟨?_, ?_, ?_, ?_, ?_, ?_, ?_⟩ <;> first | omega | (simp only [lens, ib] at * <;> omega)))))) (fun h2 _ => have hD0_4 : Qms s at' = Lp.done (out1, from'1, i40) := Ql hI0 (condF h2 rfl); jn32_0 s at' out1 from'1 (Eq.symm (finD hD0_4 rfl)) (by refine ⟨?_, ?_, ?_⟩ <;> first | omega | (simp only [lens, ib] at * <;> omega)))) (i0.1 - 1) i0.2.1 i0.2.2.1 i0.2.2.2 (un32_0 s at' i0 hi0))) (fun (j : List ByteArray × Int) (hj : Qfh s at' j) => (fun (out : List ByteArray) (from' : Int) (hJ0_5 : (Pr s at') = Lp.done (out, from')) (hw : Qgg s at' out from') => have _ := hw.1; have _ := hw.2.1; have _ := hw.2.2; ai (by first | omega | (simp only [lens, ib] at * <;> omega) : 0 ≤ from' ∧ from' ≤ (s.size : Int) ∧ (s.size : Int) ≤ (s.size : Int)) (ai (appr 1 eStr out [(s.extract (Int.toNat from') (Int.toNat (s.size : Int)))] fun _ => rfl) (ai (by (try simp only [lens]); omega : (out ++ [(s.extract (Int.toNat from') (Int.toNat (s.size : Int)))]).length * 16 ≤ 140737488355328) (fi32 s at' (out ++ [(s.extract (Int.toNat from') (Int.toNat (s.size : Int)))]) (finD hJ0_5 rfl))))) j.1 j.2 hj.1 hj.2))) (by kernel_rfl)
def F62 (n : Int) (low : Int) (high : Int) : Bool :=
 (bif decide (n ≥ low) then decide (n ≤ high) else false)
def S62 (R : Bool) (n : Int) (low : Int) (high : Int) : Spec := ⟨[.r (.c (.v (vI n))), .r (.c (.v (vI low))), .r (.c (.v (vI high)))], .v (.bool R), True⟩
theorem ok62 (n : Int) (low : Int) (high : Int) : (S62 (F62 n low high) n low high).ok Tryz.prog 62 :=
 Qj mixed (fn := Tryz.f62) (ct := .seq .no (.seq .no .no)) Tryz.func62 (fun (_ : True) => fiB (bif decide (n ≥ low) then decide (n ≤ high) else false) (F62 n low high) rfl) (by kernel_rfl)
theorem as62 (n : Int) (low : Int) (high : Int) : F62 n low high = (decide (low ≤ n ∧ n ≤ high)) := by
 simp only [F62, Bool.decide_and, bandd]
theorem oa62 (n : Int) (low : Int) (high : Int) : (S62 (decide (low ≤ n ∧ n ≤ high)) n low high).ok Tryz.prog 62 := by
 intro hp; have h := ok62 n low high hp; rw [as62 n low high] at h; exact h
theorem Qcy (n : Int) (low : Int) (high : Int) {K_ : Prop} (k_ : K_) : (True) ∧ (Imp (.v (vI n)) (.v (vI n))) ∧ (Imp (.v (vI low)) (.v (vI low))) ∧ (Imp (.v (vI high)) (.v (vI high))) ∧ K_ := ⟨trivial, Imp.refl _, Imp.refl _, Imp.refl _, k_⟩
abbrev Tv (n : Int) (low : Int) (high : Int) : Hint true Tryz.prog := .call 62 (S62 (decide (low ≤ n ∧ n ≤ high)) n low high) (oa62 n low high) none
theorem kg62a {K_ : Prop} (c_ b_ : Bool) (n : Int) (low : Int) (high : Int) (k_ : K_) : (c_ = b_ → True) ∧ (c_ = b_ → Imp (.v (vI n)) (.v (vI n))) ∧ (c_ = b_ → Imp (.v (vI low)) (.v (vI low))) ∧ (c_ = b_ → Imp (.v (vI high)) (.v (vI high))) ∧ K_ := ⟨fun _ => trivial, fun _ => Imp.refl _, fun _ => Imp.refl _, fun _ => Imp.refl _, k_⟩
def Vn (s : ByteArray) : Int → Lp Int Bool := fun i40 =>
 bif (decide (i40 < (s.size : Int))) then (bif (bif (bif (!(decide (97 ≤ (IntKind.i64.wrap ((s.data.getD (Int.toNat i40) 0).toNat : Int)) ∧ (IntKind.i64.wrap ((s.data.getD (Int.toNat i40) 0).toNat : Int)) ≤ 122))) then (!(decide (48 ≤ (IntKind.i64.wrap ((s.data.getD (Int.toNat i40) 0).toNat : Int)) ∧ (IntKind.i64.wrap ((s.data.getD (Int.toNat i40) 0).toNat : Int)) ≤ 57))) else false) then (((s.data.getD (Int.toNat i40) 0).toNat : Int) != 45) else false) then (.ret false) else (.next (i40 + 1))) else (.done i40)
def F28 (s : ByteArray) : Bool :=
 bif (!(decide (1 ≤ (s.size : Int) ∧ (s.size : Int) ≤ 8))) then false else ((runL (Vn s) ((Int.toNat ((s.size : Int) - 0)) + 1) 0).fin (fun r => r) (fun i40 => true))
abbrev Mw (s : ByteArray) : Nat × Int := (((Int.toNat ((s.size : Int) - 0)) + 1), 0)
abbrev Qer (s : ByteArray) (m39 : Nat) (i40 : Int) : Prop := Int.toNat ((s.size : Int) - i40) < m39 ∧ (0 : Int) ≤ i40
abbrev Qnx (s : ByteArray) : Lp Int Bool := LpX (Vn s) (Mw s)
abbrev Nr (s : ByteArray) (i : Nat × Int) : Prop := LpJ (Vn s) (Mw s) i (Qer s i.1 i.2)
abbrev Qno (s : ByteArray) (i : Nat × Int) (m39 : Nat) (i40 : Int) : Prop := LpH (Vn s) (Mw s) i m39 i40 (Qer s (m39 + 1) i40)
abbrev Qpk (s : ByteArray) (i40 : Int) (i40_ : Int) (K39 : Prop) : Prop := (Rf (.string s)) ∧ ((.int .i64 i40 : Value) = .int .i64 i40_) ∧ K39
theorem un28_0 (s : ByteArray) (i : Nat × Int) (h : Nr s i) : Qno s i (i.1 - 1) i.2 := ⟨hd1 h.1 h.2.1, hd3 h.2.1, hd2 h.2.1, h.2.2⟩
theorem bk28_0 (s : ByteArray) (i : Nat × Int) (m39 : Nat) (i40 : Int) (hl : m39 < i.1) (e : runL (Vn s) m39 i40 = Qnx s) (h : Qer s m39 i40) : ∃ j : Nat × Int, Qpk s i40 j.2 (Nr s j ∧ j.1 < i.1) := ⟨(m39, i40), rfl, rfl, ⟨e, h⟩, hl⟩
theorem en28_0 (s : ByteArray) (h : (0 : Int) ≤ 0) : Qpk s 0 0 (Nr s (Mw s)) := ⟨rfl, rfl, rfl, Nat.lt_succ_self _, h⟩
def S28 (s : ByteArray) : Spec := ⟨[.r (.c (.v (.string s)))], .v (.bool (F28 s)), s.size ≤ 1048576⟩
theorem ok28 (s : ByteArray) : (S28 s).ok Tryz.prog 28 :=
 Qj mixed (fn := Tryz.f28) (ct := .seq .no (.seq (.seq (.reg [(2, Tv (s.size : Int) 1 8)]) (.cond (.seq .no .no) .no)) (.seq (.seq .no (.blk (.loop (ι := Nat × Int) (fun i => (fun (i40 : Int) => (⟨[(0, some (.v (.string s))), (3, some (.v (vI i40)))], [], 0⟩ : St)) i.2) (Nr s) (fun i => i.1) (Mw s) (fun i => (fun (i40 : Int) => (.seq (.seq .no (.cond .no .no)) (.seq (.blk (.seq (.reg [(4, Tv (IntKind.i64.wrap ((s.data.getD (Int.toNat i40) 0).toNat : Int)) 97 122), (11, Tv (IntKind.i64.wrap ((s.data.getD (Int.toNat i40) 0).toNat : Int)) 48 57)]) (.cond (.seq .no .no) .no))) (.reg [(1, .bnd)])))) i.2)))) (.seq .no .no)))) Tryz.func28 (fun (hpre0 : s.size ≤ 1048576) => Qcy (s.size : Int) 1 8 (ifb (!(decide (1 ≤ (s.size : Int) ∧ (s.size : Int) ≤ 8))) (fun h1 => have _ := of_decide_eq_false (Km h1); fiB false (F28 s) (condT h1 rfl)) (fun h1 => have _ := of_decide_eq_true (Uv h1); ai (en28_0 s (by omega)) (fun (i0 : Nat × Int) (hi0 : Nr s i0) => (fun (m0 : Nat) (i40 : Int) (hh0 : Qno s i0 m0 i40) => have hI0 := hh0.1; have hl0 := hh0.2.1; have _ := hh0.2.2.1; have _ := hh0.2.2.2; ifd (i40 < (s.size : Int)) (fun h3 _ => ai (by omega : 0 ≤ i40 ∧ i40 < (s.size : Int)) (Qcy (IntKind.i64.wrap ((s.data.getD (Int.toNat i40) 0).toNat : Int)) 97 122 (ai (fun k4 : (!(decide (97 ≤ (IntKind.i64.wrap ((s.data.getD (Int.toNat i40) 0).toNat : Int)) ∧ (IntKind.i64.wrap ((s.data.getD (Int.toNat i40) 0).toNat : Int)) ≤ 122))) = true => have _ := of_decide_eq_false (Km k4); (by omega : 0 ≤ i40 ∧ i40 < (s.size : Int))) (kg62a (!(decide (97 ≤ (IntKind.i64.wrap ((s.data.getD (Int.toNat i40) 0).toNat : Int)) ∧ (IntKind.i64.wrap ((s.data.getD (Int.toNat i40) 0).toNat : Int)) ≤ 122))) true (IntKind.i64.wrap ((s.data.getD (Int.toNat i40) 0).toNat : Int)) 48 57 (ai (fun k6 : (bif (!(decide (97 ≤ (IntKind.i64.wrap ((s.data.getD (Int.toNat i40) 0).toNat : Int)) ∧ (IntKind.i64.wrap ((s.data.getD (Int.toNat i40) 0).toNat : Int)) ≤ 122))) then (!(decide (48 ≤ (IntKind.i64.wrap ((s.data.getD (Int.toNat i40) 0).toNat : Int)) ∧ (IntKind.i64.wrap ((s.data.getD (Int.toNat i40) 0).toNat : Int)) ≤ 57))) else false) = true => have _ := of_decide_eq_false (Km (Qg k6)); have _ := of_decide_eq_false (Km (Ua k6)); (by omega : 0 ≤ i40 ∧ i40 < (s.size : Int))) (ifb (bif (bif (!(decide (97 ≤ (IntKind.i64.wrap ((s.data.getD (Int.toNat i40) 0).toNat : Int)) ∧ (IntKind.i64.wrap ((s.data.getD (Int.toNat i40) 0).toNat : Int)) ≤ 122))) then (!(decide (48 ≤ (IntKind.i64.wrap ((s.data.getD (Int.toNat i40) 0).toNat : Int)) ∧ (IntKind.i64.wrap ((s.data.getD (Int.toNat i40) 0).toNat : Int)) ≤ 57))) else false) then (((s.data.getD (Int.toNat i40) 0).toNat : Int) != 45) else false) (fun h7 => have _ := of_decide_eq_false (Km (Qg (Qg h7))); have _ := of_decide_eq_false (Km (Ua (Qg h7))); have _ := bneT (Ua h7); fiB false (F28 s) (condF h1 (finR (Qs hI0 (condT h3 (condT h7 rfl))) rfl))) (fun h7 => ai (iok (i40 + 1) (by omega)) (bk28_0 s i0 m0 (i40 + 1) hl0 (Qd hI0 (condT h3 (condF h7 rfl))) (by refine ⟨?_, ?_⟩ <;> omega))))))))) (fun h3 _ => have hD0_8 : Qnx s = Lp.done i40 := Ql hI0 (condF h3 rfl); fiB true (F28 s) (condF h1 (finD hD0_8 rfl)))) (i0.1 - 1) i0.2 (un28_0 s i0 hi0))))) (by kernel_rfl)
def Zx (s : ByteArray) : (Int × Int) → Lp (Int × Int) Int := fun (n, i40) =>
 bif (decide (i40 < (s.size : Int))) then (bif (!(decide (48 ≤ (IntKind.i64.wrap ((s.data.getD (Int.toNat i40) 0).toNat : Int)) ∧ (IntKind.i64.wrap ((s.data.getD (Int.toNat i40) 0).toNat : Int)) ≤ 57))) then (.ret (-1)) else (.next ((IntKind.i64.wrap ((IntKind.i64.wrap (n * 10)) + (IntKind.i64.wrap (IntKind.u8.wrap (((s.data.getD (Int.toNat i40) 0).toNat : Int) - 48))))), (i40 + 1)))) else (.done (n, i40))
def F194 (s : ByteArray) : Int :=
 bif (bif (!(decide (1 ≤ (s.size : Int) ∧ (s.size : Int) ≤ 6))) then true else (bif decide ((s.size : Int) > 1) then (((s.data.getD (Int.toNat 0) 0).toNat : Int) == 48) else false)) then (-1) else ((runL (Zx s) ((Int.toNat ((s.size : Int) - 0)) + 1) (0, 0)).fin (fun r => r) (fun (n, i40) => n))
abbrev Hf (s : ByteArray) : Nat × (Int × Int) := (((Int.toNat ((s.size : Int) - 0)) + 1), (0, 0))
abbrev Qbt (s : ByteArray) (m39 : Nat) (n : Int) (i40 : Int) : Prop := Int.toNat ((s.size : Int) - i40) < m39 ∧ (0 : Int) ≤ i40
abbrev Qjp (s : ByteArray) : Lp (Int × Int) Int := LpX (Zx s) (Hf s)
abbrev Ga (s : ByteArray) (i : Nat × (Int × Int)) : Prop := LpJ (Zx s) (Hf s) i (Qbt s i.1 i.2.1 i.2.2)
abbrev Qkb (s : ByteArray) (i : Nat × (Int × Int)) (m39 : Nat) (n : Int) (i40 : Int) : Prop := LpH (Zx s) (Hf s) i m39 (n, i40) (Qbt s (m39 + 1) n i40)
abbrev Qjs (s : ByteArray) (n : Int) (i40 : Int) (n_ : Int) (i40_ : Int) (K39 : Prop) : Prop := (Rf (.string s)) ∧ ((.int .i64 n : Value) = .int .i64 n_) ∧ ((.int .i64 i40 : Value) = .int .i64 i40_) ∧ K39
theorem Qui (s : ByteArray) (i : Nat × (Int × Int)) (h : Ga s i) : Qkb s i (i.1 - 1) i.2.1 i.2.2 := ⟨hd1 h.1 h.2.1, hd3 h.2.1, hd2 h.2.1, h.2.2⟩
theorem Qss (s : ByteArray) (i : Nat × (Int × Int)) (m39 : Nat) (n : Int) (i40 : Int) (hl : m39 < i.1) (e : runL (Zx s) m39 (n, i40) = Qjp s) (h : Qbt s m39 n i40) : ∃ j : Nat × (Int × Int), Qjs s n i40 j.2.1 j.2.2 (Ga s j ∧ j.1 < i.1) := ⟨(m39, (n, i40)), rfl, rfl, rfl, ⟨e, h⟩, hl⟩
theorem Qtu (s : ByteArray) (h : (0 : Int) ≤ 0) : Qjs s 0 0 0 0 (Ga s (Hf s)) := ⟨rfl, rfl, rfl, rfl, Nat.lt_succ_self _, h⟩
def S194 (s : ByteArray) : Spec := ⟨[.r (.c (.v (.string s)))], .v (vI (F194 s)), s.size ≤ 1048576⟩
theorem ok194 (s : ByteArray) : (S194 s).ok Tryz.prog 194 :=
 Qj mixed (fn := Tryz.f194) (ct := .seq .no (.seq (.seq (.reg [(2, Tv (s.size : Int) 1 6)]) (.cond (.seq .no .no) .no)) (.seq .no (.seq (.seq .no (.blk (.loop (ι := Nat × (Int × Int)) (fun i => (fun (n : Int) (i40 : Int) => (⟨[(0, some (.v (.string s))), (3, some (.v (vI n))), (4, some (.v (vI i40)))], [], 0⟩ : St)) i.2.1 i.2.2) (Ga s) (fun i => i.1) (Hf s) (fun i => (fun (n : Int) (i40 : Int) => (.seq (.seq .no (.cond .no .no)) (.seq (.blk (.seq (.seq (.reg [(4, Tv (IntKind.i64.wrap ((s.data.getD (Int.toNat i40) 0).toNat : Int)) 48 57)]) (.cond (.seq .no .no) .no)) .no)) (.reg [(1, .bnd)])))) i.2.1 i.2.2)))) (.seq .no .no))))) Tryz.func194 (fun (hpre0 : s.size ≤ 1048576) => Qcy (s.size : Int) 1 6 (ai (fun k2 : (decide ((s.size : Int) > 1)) = true => have _ := of_decide_eq_true k2; (fun k1 : (!(decide (1 ≤ (s.size : Int) ∧ (s.size : Int) ≤ 6))) = false => have _ := of_decide_eq_true (Uv k1); (by omega : 0 ≤ (0 : Int) ∧ (0 : Int) < (s.size : Int)))) (ifb (bif (!(decide (1 ≤ (s.size : Int) ∧ (s.size : Int) ≤ 6))) then true else (bif decide ((s.size : Int) > 1) then (((s.data.getD (Int.toNat 0) 0).toNat : Int) == 48) else false)) (fun h3 => fiI (-1) (F194 s) (condT h3 rfl)) (fun h3 => have _ := of_decide_eq_true (Uv (orF1 h3)); ai (Qtu s (by omega)) (fun (i0 : Nat × (Int × Int)) (hi0 : Ga s i0) => (fun (m0 : Nat) (n : Int) (i40 : Int) (hh0 : Qkb s i0 m0 n i40) => have hI0 := hh0.1; have hl0 := hh0.2.1; have _ := hh0.2.2.1; have _ := hh0.2.2.2; ifd (i40 < (s.size : Int)) (fun h5 _ => ai (by omega : 0 ≤ i40 ∧ i40 < (s.size : Int)) (Qcy (IntKind.i64.wrap ((s.data.getD (Int.toNat i40) 0).toNat : Int)) 48 57 (ifb (!(decide (48 ≤ (IntKind.i64.wrap ((s.data.getD (Int.toNat i40) 0).toNat : Int)) ∧ (IntKind.i64.wrap ((s.data.getD (Int.toNat i40) 0).toNat : Int)) ≤ 57))) (fun h6 => have _ := of_decide_eq_false (Km h6); fiI (-1) (F194 s) (condF h3 (finR (Qs hI0 (condT h5 (condT h6 rfl))) rfl))) (fun h6 => have _ := of_decide_eq_true (Uv h6); ai (by omega : 0 ≤ i40 ∧ i40 < (s.size : Int)) (ai (iok (i40 + 1) (by omega)) (Qss s i0 m0 (IntKind.i64.wrap ((IntKind.i64.wrap (n * 10)) + (IntKind.i64.wrap (IntKind.u8.wrap (((s.data.getD (Int.toNat i40) 0).toNat : Int) - 48))))) (i40 + 1) hl0 (Qd hI0 (condT h5 (condF h6 rfl))) (by refine ⟨?_, ?_⟩ <;> omega))))))) (fun h5 _ => have hD0_7 : Qjp s = Lp.done (n, i40) := Ql hI0 (condF h5 rfl); fiI n (F194 s) (condF h3 (finD hD0_7 rfl)))) (i0.1 - 1) i0.2.1 i0.2.2 (Qui s i0 hi0)))))) (by kernel_rfl)
def Hl (n : Int) : (Int × Int) → Lp (Int × Int) Int := fun (out, i40) =>
 bif (decide (i40 < 16)) then (.next ((IntKind.i64.wrap (out * 2)), (i40 + 1))) else (.done (out, i40))
def F204 (n : Int) : Int :=
 (runL (Hl n) ((Int.toNat (16 - n)) + 1) (1, n)).fin (fun r => r) (fun (out, i40) => out)
abbrev Gg (n : Int) : Nat × (Int × Int) := (((Int.toNat (16 - n)) + 1), (1, n))
abbrev Qbu (m39 : Nat) (out : Int) (i40 : Int) : Prop := Int.toNat (16 - i40) < m39 ∧ (0 : Int) ≤ i40
abbrev Qhg (n : Int) : Lp (Int × Int) Int := LpX (Hl n) (Gg n)
abbrev Gw (n : Int) (i : Nat × (Int × Int)) : Prop := LpJ (Hl n) (Gg n) i (Qbu i.1 i.2.1 i.2.2)
abbrev Qit (n : Int) (i : Nat × (Int × Int)) (m39 : Nat) (out : Int) (i40 : Int) : Prop := LpH (Hl n) (Gg n) i m39 (out, i40) (Qbu (m39 + 1) out i40)
abbrev Qjd (out : Int) (i40 : Int) (out_ : Int) (i40_ : Int) (K39 : Prop) : Prop := ((.int .i64 out : Value) = .int .i64 out_) ∧ ((.int .i64 i40 : Value) = .int .i64 i40_) ∧ K39
theorem Qtl (n : Int) (i : Nat × (Int × Int)) (h : Gw n i) : Qit n i (i.1 - 1) i.2.1 i.2.2 := ⟨hd1 h.1 h.2.1, hd3 h.2.1, hd2 h.2.1, h.2.2⟩
theorem Qsn (n : Int) (i : Nat × (Int × Int)) (m39 : Nat) (out : Int) (i40 : Int) (hl : m39 < i.1) (e : runL (Hl n) m39 (out, i40) = Qhg n) (h : Qbu m39 out i40) : ∃ j : Nat × (Int × Int), Qjd out i40 j.2.1 j.2.2 (Gw n j ∧ j.1 < i.1) := ⟨(m39, (out, i40)), rfl, rfl, ⟨e, h⟩, hl⟩
theorem Qta (n : Int) (h : (0 : Int) ≤ n) : Qjd 1 n 1 n (Gw n (Gg n)) := ⟨rfl, rfl, rfl, Nat.lt_succ_self _, h⟩
def S204 (n : Int) : Spec := ⟨[.r (.c (.v (vI n)))], .v (vI (F204 n)), 0 ≤ n⟩
theorem ok204 (n : Int) : (S204 n).ok Tryz.prog 204 :=
 Qj mixed (fn := Tryz.f204) (ct := .seq .no (.seq .no (.seq (.seq .no (.blk (.loop (ι := Nat × (Int × Int)) (fun i => (fun (out : Int) (i40 : Int) => (⟨[(3, some (.v (vI out))), (4, some (.v (vI i40)))], [], 0⟩ : St)) i.2.1 i.2.2) (Gw n) (fun i => i.1) (Gg n) (fun i => (fun (out : Int) (i40 : Int) => (.seq (.seq .no (.cond .no .no)) (.seq (.blk .no) (.reg [(1, .bnd)])))) i.2.1 i.2.2)))) (.seq .no .no)))) Tryz.func204 (fun (hpre0 : 0 ≤ n) => ai (Qta n (by omega)) (fun (i0 : Nat × (Int × Int)) (hi0 : Gw n i0) => (fun (m0 : Nat) (out : Int) (i40 : Int) (hh0 : Qit n i0 m0 out i40) => have hI0 := hh0.1; have hl0 := hh0.2.1; have _ := hh0.2.2.1; have _ := hh0.2.2.2; ifd (i40 < 16) (fun h2 _ => ai (iok (i40 + 1) (by omega)) (Qsn n i0 m0 (IntKind.i64.wrap (out * 2)) (i40 + 1) hl0 (Qd hI0 (condT h2 rfl)) (by refine ⟨?_, ?_⟩ <;> omega))) (fun h2 _ => have hD0_3 : Qhg n = Lp.done (out, i40) := Ql hI0 (condF h2 rfl); fiI out (F204 n) (finD hD0_3 rfl))) (i0.1 - 1) i0.2.1 i0.2.2 (Qtl n i0 hi0))) (by kernel_rfl)
theorem Qnw (n : Int) : 0 ≤ n → n ≤ 16 → 1 ≤ (F204 n) ∧ (F204 n) ≤ 65536 := by
 intro h1 h2; have h3 : n = 0 ∨ n = 1 ∨ n = 2 ∨ n = 3 ∨ n = 4 ∨ n = 5 ∨ n = 6 ∨ n = 7 ∨ n = 8 ∨ n = 9 ∨ n = 10 ∨ n = 11 ∨ n = 12 ∨ n = 13 ∨ n = 14 ∨ n = 15 ∨ n = 16 := by omega
 rcases h3 with rfl | rfl | rfl | rfl | rfl | rfl | rfl | rfl | rfl | rfl | rfl | rfl | rfl | rfl | rfl | rfl | rfl <;> exact of_decide_eq_true rfl
def Vb (list : List ByteArray) (s : ByteArray) : Int → Lp Int Bool := fun i40 =>
 bif (decide (i40 < (list.length : Int))) then (bif ((list.getD (Int.toNat i40) default).toList == s.toList) then (.ret true) else (.next (i40 + 1))) else (.done i40)
def F31 (list : List ByteArray) (s : ByteArray) : Bool :=
 (runL (Vb list s) ((Int.toNat ((list.length : Int) - 0)) + 1) 0).fin (fun r => r) (fun i40 => false)
abbrev Nk (list : List ByteArray) : Nat × Int := (((Int.toNat ((list.length : Int) - 0)) + 1), 0)
abbrev Qgw (list : List ByteArray) (m39 : Nat) (i40 : Int) : Prop := Int.toNat ((list.length : Int) - i40) < m39 ∧ (0 : Int) ≤ i40
abbrev Qpq (list : List ByteArray) (s : ByteArray) : Lp Int Bool := LpX (Vb list s) (Nk list)
abbrev Nx (list : List ByteArray) (s : ByteArray) (i : Nat × Int) : Prop := LpJ (Vb list s) (Nk list) i (Qgw list i.1 i.2)
abbrev Qqe (list : List ByteArray) (s : ByteArray) (i : Nat × Int) (m39 : Nat) (i40 : Int) : Prop := LpH (Vb list s) (Nk list) i m39 i40 (Qgw list (m39 + 1) i40)
abbrev Qqa (list : List ByteArray) (s : ByteArray) (i40 : Int) (i40_ : Int) (K39 : Prop) : Prop := (Rf (.string s)) ∧ ((.int .i64 i40 : Value) = .int .i64 i40_) ∧ (Im (.l 1 eStr list)) ∧ K39
theorem un31_0 (list : List ByteArray) (s : ByteArray) (i : Nat × Int) (h : Nx list s i) : Qqe list s i (i.1 - 1) i.2 := ⟨hd1 h.1 h.2.1, hd3 h.2.1, hd2 h.2.1, h.2.2⟩
theorem bk31_0 (list : List ByteArray) (s : ByteArray) (i : Nat × Int) (m39 : Nat) (i40 : Int) (hl : m39 < i.1) (e : runL (Vb list s) m39 i40 = Qpq list s) (h : Qgw list m39 i40) : ∃ j : Nat × Int, Qqa list s i40 j.2 (Nx list s j ∧ j.1 < i.1) := ⟨(m39, i40), rfl, rfl, Imp.refl _, ⟨e, h⟩, hl⟩
theorem en31_0 (list : List ByteArray) (s : ByteArray) (h : (0 : Int) ≤ 0) : Qqa list s 0 0 (Nx list s (Nk list)) := ⟨rfl, rfl, Imp.refl _, rfl, Nat.lt_succ_self _, h⟩
def S31 (list : List ByteArray) (s : ByteArray) : Spec := ⟨[.r (.c (.l 1 eStr list)), .r (.c (.v (.string s)))], .v (.bool (F31 list s)), True⟩
theorem ok31 (list : List ByteArray) (s : ByteArray) : (S31 list s).ok Tryz.prog 31 :=
 Qj mixed (fn := Tryz.f31) (ct := .seqk [(0, 0)] .no (.seq (.seqk [(0, 0)] .no (.blk (.loop (ι := Nat × Int) (fun i => (fun (i40 : Int) => (⟨[(0, some (.h 0 0)), (1, some (.v (.string s))), (5, some (.v (vI i40)))], [(0, some (.shr none (.l 1 eStr list)))], 1⟩ : St)) i.2) (Nx list s) (fun i => i.1) (Nk list) (fun i => (fun (i40 : Int) => (.seq (.seq .no (.cond .no .no)) (.seq (.blk (.seq .no (.cond (.seq .no .no) .no))) (.reg [(1, .bnd)])))) i.2)))) (.seq .no .no))) Tryz.func31 (fun (_ : True) => kn list fun _ => kn list fun _ => ai (en31_0 list s (by omega)) (fun (i0 : Nat × Int) (hi0 : Nx list s i0) => (fun (m0 : Nat) (i40 : Int) (hh0 : Qqe list s i0 m0 i40) => have hI0 := hh0.1; have hl0 := hh0.2.1; have _ := hh0.2.2.1; have _ := hh0.2.2.2; ifd (i40 < (list.length : Int)) (fun h2 _ => ai (by omega : ib i40 list) (ifb ((list.getD (Int.toNat i40) default).toList == s.toList) (fun h3 => fiB true (F31 list s) (finR (Qs hI0 (condT h2 (condT h3 rfl))) rfl)) (fun h3 => ai (iok (i40 + 1) (by omega)) (bk31_0 list s i0 m0 (i40 + 1) hl0 (Qd hI0 (condT h2 (condF h3 rfl))) (by refine ⟨?_, ?_⟩ <;> omega))))) (fun h2 _ => have hD0_4 : Qpq list s = Lp.done i40 := Ql hI0 (condF h2 rfl); fiB false (F31 list s) (finD hD0_4 rfl))) (i0.1 - 1) i0.2 (un31_0 list s i0 hi0))) (by kernel_rfl)
def F208 : List ByteArray :=
 ([(⟨#[100, 111, 111, 114]⟩ : ByteArray), (⟨#[104, 111, 115, 116]⟩ : ByteArray), (⟨#[110, 97, 116]⟩ : ByteArray), (⟨#[112, 101, 101, 114]⟩ : ByteArray), (⟨#[112, 111, 114, 116]⟩ : ByteArray), (⟨#[114, 111, 117, 116, 101]⟩ : ByteArray), (⟨#[114, 117, 108, 101]⟩ : ByteArray), (⟨#[117, 115, 101, 114]⟩ : ByteArray)] : List ByteArray)
theorem fi208 (r : List ByteArray) (hF : r = F208) : (Imp (.l 1 eStr r) (.l 1 eStr F208)) ∧ True := by cases hF; exact ⟨Imp.refl _, trivial⟩
def S208 : Spec := ⟨[], .ow (.l 1 eStr F208), True⟩
theorem ok208 : (S208).ok Tryz.prog 208 :=
 Qj mixed (fn := Tryz.f208) (ct := .seq .no (.seq (.reg [(0, .dat (.l 1 eStr ([w3_, w4_, w5_, w6_, w7_, w8_, w9_, w10_] : List ByteArray)))]) .no)) Tryz.func208 (fun (_ : True) => ai (bokr 1 eStr ([w3_, w4_, w5_, w6_, w7_, w8_, w9_, w10_] : List ByteArray) fun _ => rfl) (fi208 ([w3_, w4_, w5_, w6_, w7_, w8_, w9_, w10_] : List ByteArray) rfl)) (by kernel_rfl)
theorem Qjq (s : ByteArray) (a b : Nat) : mkB ((s.data.toList.drop a).take (b - a)) = s.extract a b := by
 refine Kk ?_
 rw [Rt, ByteArray.data_extract, Array.toList_extract, List.extract_eq_take_drop]
theorem Qpu (s : ByteArray) (c : UInt8) (out : List ByteArray) (f : Int) : Zu s (c.toNat : Int) (out, f, (s.size : Int)) = .done (out, f, (s.size : Int)) := by
 simp only [Zu, decide_eq_false (show ¬ (s.size : Int) < (s.size : Int) by omega), cond_false]
theorem Qnz (s : ByteArray) (c : UInt8) (out : List ByteArray) (f i : Nat) (hi : i < s.size) (b : UInt8) (hb : s.data.toList.getD i 0 = b) : Zu s (c.toNat : Int) (out, (f : Int), (i : Int)) =
  if b = c then .next (out ++ [s.extract f i], ((i + 1 : Nat) : Int), ((i + 1 : Nat) : Int)) else .next (out, (f : Int), ((i + 1 : Nat) : Int)) := by
 have hc : ((c.toNat : Int) % 256) = (c.toNat : Int) := by have := c.toNat_lt; omega
 simp only [Zu, decide_eq_true (show (i : Int) < (s.size : Int) by omega), cond_true, Int.toNat_natCast, Yt, hb, hc, Qij]
 by_cases h : b = c
 ·rw [decide_eq_true h, if_pos h]; rfl
 ·rw [decide_eq_false h, if_neg h]; rfl
theorem Ht (s : ByteArray) (c : UInt8) : ∀ (m i f : Nat) (out : List ByteArray), i + m = s.size → f ≤ i → c ∉ (s.data.toList.drop f).take (i - f) → ∀ fuel, m < fuel →
  ((runL (Zu s (c.toNat : Int)) fuel (out, (f : Int), (i : Int))).fin Lp.ret (fun (out1, from'1, i40) => .done (out1, from'1))).fin (fun r => r) (fun (out, from') => out ++ [s.extract (Int.toNat from') (Int.toNat (s.size : Int))]) = out ++ (Qp c (s.data.toList.drop f)).map mkB
 | m, i, f, out, _, _, _, 0, hf => absurd hf (Nat.not_lt_zero _)
 | 0, i, f, out, h, hfi, hc, fuel + 1, hf => by
  have hl : s.data.toList.length = s.size := Array.length_toList
  obtain rfl : i = s.size := by omega
  rw [Zp _ (Qpu s c out f)]
  have e : (s.data.toList.drop f).take (s.size - f) = s.data.toList.drop f := List.take_of_length_le (by rw [List.length_drop]; omega)
  rw [e] at hc
  rw [Uf hc, List.map_cons, List.map_nil, ← e, Qjq]
  rfl
 | m + 1, i, f, out, h, hfi, hc, fuel + 1, hf => by
  have hl : s.data.toList.length = s.size := Array.length_toList
  have hb : s.data.toList.drop i = s.data.toList.getD i 0 :: s.data.toList.drop (i + 1) := by
   rw [List.drop_eq_getElem_cons (by omega), List.getD_eq_getElem?_getD, List.getElem?_eq_getElem (by omega)]; rfl
  have hw : s.data.toList.drop f = (s.data.toList.drop f).take (i - f) ++ s.data.toList.drop i := by
   have := (List.take_append_drop (i - f) (s.data.toList.drop f)).symm
   rw [List.drop_drop, show f + (i - f) = i by omega] at this
   exact this
  have h1 := Qnz s c out f i (by omega) _ rfl
  generalize hbb : s.data.toList.getD i 0 = b at h1 hb
  by_cases hbc : b = c
  ·rw [if_pos hbc] at h1
   rw [Uo _ h1, Ht s c m (i + 1) (i + 1) _ (by omega) (Nat.le_refl _) (by rw [Nat.sub_self, List.take_zero]; exact List.not_mem_nil) fuel (by omega)]
   rw [hw, hb, hbc, Uj _ hc, List.map_cons, Qjq, List.append_assoc]
   rfl
  ·rw [if_neg hbc] at h1
   have hc' : c ∉ (s.data.toList.drop f).take (i + 1 - f) := by
    have e : (s.data.toList.drop f).take (i + 1 - f) = (s.data.toList.drop f).take (i - f) ++ [b] := by
     have hg : s.data.toList[i]? = some b := by
      rw [List.getD_eq_getElem?_getD, List.getElem?_eq_getElem (by omega)] at hbb
      rw [List.getElem?_eq_getElem (by omega)]
      exact congrArg some hbb
     rw [show i + 1 - f = (i - f) + 1 by omega, List.take_add_one, List.getElem?_drop, show f + (i - f) = i by omega, hg]
     rfl
    rw [e]
    intro hm
    rcases List.mem_append.1 hm with h2 | h2
    ·exact hc h2
    ·exact hbc (List.mem_singleton.1 h2).symm
   rw [Uo _ h1]
   exact Ht s c m (i + 1) f out (by omega) (by omega) hc' fuel (by omega)
theorem Ji (s : ByteArray) (c : UInt8) : F32 s (c.toNat : Int) = (Qp c s.data.toList).map mkB := by
 have := Ht s c s.size 0 0 [] (by omega) (Nat.le_refl _) (by rw [Nat.sub_self, List.take_zero]; exact List.not_mem_nil) (Int.toNat ((s.size : Int) - 0) + 1) (by omega)
 rw [List.drop_zero, List.nil_append] at this
 exact this
theorem Ku (s : ByteArray) (c : UInt8) : Qi s ⟨#[c]⟩ = (Qp c s.data.toList).map mkB := by
 rw [← Ri, List.map_map]
 exact ((List.map_congr_left fun x _ => Gf x).trans (List.map_id _)).symm
theorem Xu (s : ByteArray) (c : UInt8) : F32 s (c.toNat : Int) = Qi s ⟨#[c]⟩ := (Ji s c).trans (Ku s c).symm
theorem Qrc (s : ByteArray) (a : Int) : ∃ c : UInt8, F32 s a = (Qp c s.data.toList).map mkB := by
 refine ⟨UInt8.ofNat (a % 256).toNat, ?_⟩
 rw [← Ji]
 have h : ((UInt8.ofNat (a % 256).toNat).toNat : Int) % 256 = a % 256 := by
  rw [UInt8.toNat_ofNat']
  omega
 have e : Zu s a = Zu s ((UInt8.ofNat (a % 256).toNat).toNat : Int) := by
  funext ⟨o, f, i⟩
  simp only [Zu, h]
 unfold F32 Pr
 rw [e]
theorem Hp (c : UInt8) : ∀ (l : List UInt8), ∀ w ∈ Qp c l, w.length ≤ l.length
 | [], w, h => by
  rw [Qp, List.mem_singleton] at h; rw [h]; exact Nat.le_refl _
 | b :: l, w, h => by
  have ih := Hp c l
  rw [Qp] at h
  by_cases hb : b = c
  ·rw [if_pos hb] at h
   rcases List.mem_cons.1 h with rfl | h
   ·exact Nat.zero_le _
   ·exact Nat.le_succ_of_le (ih w h)
  ·rw [if_neg hb] at h
   cases hs : Qp c l with
   | nil =>
    rw [hs] at h
    rw [List.mem_singleton] at h; rw [h]; exact Nat.succ_le_succ (Nat.zero_le _)
   | cons p ps =>
    rw [hs] at h ih
    rcases List.mem_cons.1 h with rfl | h
    ·exact Nat.succ_le_succ (ih p List.mem_cons_self)
    ·exact Nat.le_succ_of_le (ih w (List.mem_cons_of_mem _ h))
theorem Rr (ws : List (List UInt8)) (n : Nat) (h : ∀ w ∈ ws, w.length ≤ n) (k : Nat) : (((ws.map mkB).getD k default : ByteArray)).size ≤ n := by
 by_cases hk : k < ws.length
 ·rw [List.getD_eq_getElem?_getD, List.getElem?_eq_getElem (by simpa using hk), List.getElem_map]
  exact h _ (List.getElem_mem hk)
 ·rw [Mg _ (by simpa using hk)]
  exact Nat.zero_le _
theorem Kn (s : ByteArray) (a : Int) (h : s.size ≤ 1048576) (k : Nat) : (((F32 s a).getD k default : ByteArray)).size ≤ 1048576 := by
 obtain ⟨c, e⟩ := Qrc s a
 rw [e]
 refine Rr _ _ (fun w hw => ?_) k
 have := Hp c _ w hw
 have hl : s.data.toList.length = s.size := Array.length_toList
 omega
theorem Qht (s : ByteArray) {K_ : Prop} (p0_ : s.size ≤ 1048576) (k_ : K_) : (s.size ≤ 1048576) ∧ (Imp (.v (.string s)) (.v (.string s))) ∧ K_ := ⟨p0_, Imp.refl _, k_⟩
abbrev Qjt (s : ByteArray) : Hint true Tryz.prog := .call 194 (S194 s) (ok194 s) none
def F201 (s : ByteArray) (low : Int) (high : Int) : Bool :=
 (decide (low ≤ (F194 s) ∧ (F194 s) ≤ high))
def S201 (R : Bool) (s : ByteArray) (low : Int) (high : Int) : Spec := ⟨[.r (.c (.v (.string s))), .r (.c (.v (vI low))), .r (.c (.v (vI high)))], .v (.bool R), s.size ≤ 1048576⟩
theorem ok201 (s : ByteArray) (low : Int) (high : Int) : (S201 (F201 s low high) s low high).ok Tryz.prog 201 :=
 Qj mixed (fn := Tryz.f201) (ct := .seq .no (.seq (.reg [(1, Qjt s), (4, Tv (F194 s) low high)]) .no)) Tryz.func201 (fun (hpre0 : s.size ≤ 1048576) => Qht s (by omega) (Qcy (F194 s) low high (fiB (decide (low ≤ (F194 s) ∧ (F194 s) ≤ high)) (F201 s low high) rfl))) (by kernel_rfl)
theorem as201 (s : ByteArray) (low : Int) (high : Int) : F201 s low high = (decide (low ≤ F194 s ∧ F194 s ≤ high)) := by
 rfl
theorem oa201 (s : ByteArray) (low : Int) (high : Int) : (S201 (decide (low ≤ F194 s ∧ F194 s ≤ high)) s low high).ok Tryz.prog 201 := by
 intro hp; have h := ok201 s low high hp; rw [as201 s low high] at h; exact h
theorem kc32 (s : ByteArray) (at' : Int) {K_ : Prop} (p0_ : s.size ≤ 1048576) (q0_ : s.size ≤ 1048576) (k_ : (∀ k : Nat, ((F32 s at').getD k default).size ≤ 1048576) → K_) : (s.size ≤ 1048576) ∧ (Imp (.v (.string s)) (.v (.string s))) ∧ (Imp (.v (.int .u8 at')) (.v (.int .u8 at'))) ∧ K_ := ⟨p0_, Imp.refl _, Imp.refl _, k_ (Kn s at' q0_)⟩
abbrev kh32 (s : ByteArray) (at' : Int) : Hint true Tryz.prog := .call 32 (S32 s at') (ok32 s at') none
theorem Zn {K_ : Prop} (c_ b_ : Bool) (s : ByteArray) (low : Int) (high : Int) (p_ : c_ = b_ → s.size ≤ 1048576) (k_ : K_) : (c_ = b_ → s.size ≤ 1048576) ∧ (c_ = b_ → Imp (.v (.string s)) (.v (.string s))) ∧ (c_ = b_ → Imp (.v (vI low)) (.v (vI low))) ∧ (c_ = b_ → Imp (.v (vI high)) (.v (vI high))) ∧ K_ := ⟨p_, fun _ => Imp.refl _, fun _ => Imp.refl _, fun _ => Imp.refl _, k_⟩
abbrev Zv (s : ByteArray) (low : Int) (high : Int) : Hint true Tryz.prog := .call 201 (S201 (decide (low ≤ F194 s ∧ F194 s ≤ high)) s low high) (oa201 s low high) none
def F191 (s : ByteArray) : Int :=
 bif (bif (bif (((F32 s 46).length : Int) != 2) then true else (!(decide (0 ≤ F194 ((F32 s 46).getD (Int.toNat 0) default) ∧ F194 ((F32 s 46).getD (Int.toNat 0) default) ≤ 255)))) then true else (!(decide (0 ≤ F194 ((F32 s 46).getD (Int.toNat 1) default) ∧ F194 ((F32 s 46).getD (Int.toNat 1) default) ≤ 255)))) then (-1) else (IntKind.i64.wrap ((IntKind.i64.wrap (256 * (F194 ((F32 s 46).getD (Int.toNat 0) default)))) + (F194 ((F32 s 46).getD (Int.toNat 1) default))))
def S191 (s : ByteArray) : Spec := ⟨[.r (.c (.v (.string s)))], .v (vI (F191 s)), s.size ≤ 1048576⟩
theorem ok191 (s : ByteArray) : (S191 s).ok Tryz.prog 191 :=
 Qj mixed (fn := Tryz.f191) (ct := .seq .no (.seq (.reg [(1, kh32 s 46)]) (.seq (.seq (.reg [(7, Zv ((F32 s 46).getD (Int.toNat 0) default) 0 255), (14, Zv ((F32 s 46).getD (Int.toNat 1) default) 0 255)]) (.cond (.seq .no .no) .no)) (.seq (.reg [(3, Qjt ((F32 s 46).getD (Int.toNat 0) default)), (8, Qjt ((F32 s 46).getD (Int.toNat 1) default))]) .no)))) Tryz.func191 (fun (hpre0 : s.size ≤ 1048576) => kc32 s 46 (by omega) (by omega) (fun gv1 => ai (fun k2 : (((F32 s 46).length : Int) != 2) = false => have _ := bneF k2; (by omega : ib 0 (F32 s 46))) (Zn (((F32 s 46).length : Int) != 2) false ((F32 s 46).getD (Int.toNat 0) default) 0 255 (fun k3 => have _ := bneF k3; (by first | exact Kn _ _ (by omega) _ | omega)) (ai (fun k4 : (bif (((F32 s 46).length : Int) != 2) then true else (!(decide (0 ≤ F194 ((F32 s 46).getD (Int.toNat 0) default) ∧ F194 ((F32 s 46).getD (Int.toNat 0) default) ≤ 255)))) = false => have _ := bneF (orF1 k4); have _ := of_decide_eq_true (Uv (orF2 k4)); (by omega : ib 1 (F32 s 46))) (Zn (bif (((F32 s 46).length : Int) != 2) then true else (!(decide (0 ≤ F194 ((F32 s 46).getD (Int.toNat 0) default) ∧ F194 ((F32 s 46).getD (Int.toNat 0) default) ≤ 255)))) false ((F32 s 46).getD (Int.toNat 1) default) 0 255 (fun k5 => have _ := bneF (orF1 k5); have _ := of_decide_eq_true (Uv (orF2 k5)); (by first | exact Kn _ _ (by omega) _ | omega)) (ifb (bif (bif (((F32 s 46).length : Int) != 2) then true else (!(decide (0 ≤ F194 ((F32 s 46).getD (Int.toNat 0) default) ∧ F194 ((F32 s 46).getD (Int.toNat 0) default) ≤ 255)))) then true else (!(decide (0 ≤ F194 ((F32 s 46).getD (Int.toNat 1) default) ∧ F194 ((F32 s 46).getD (Int.toNat 1) default) ≤ 255)))) (fun h6 => fiI (-1) (F191 s) (condT h6 rfl)) (fun h6 => have _ := bneF (orF1 (orF1 h6)); have _ := of_decide_eq_true (Uv (orF2 (orF1 h6))); have _ := of_decide_eq_true (Uv (orF2 h6)); ai (by omega : ib 0 (F32 s 46)) (Qht ((F32 s 46).getD (Int.toNat 0) default) (by first | exact Kn _ _ (by omega) _ | omega) (ai (by omega : ib 1 (F32 s 46)) (Qht ((F32 s 46).getD (Int.toNat 1) default) (by first | exact Kn _ _ (by omega) _ | omega) (fiI (IntKind.i64.wrap ((IntKind.i64.wrap (256 * (F194 ((F32 s 46).getD (Int.toNat 0) default)))) + (F194 ((F32 s 46).getD (Int.toNat 1) default)))) (F191 s) (condF h6 rfl)))))))))))) (by kernel_rfl)
theorem kc208 {K_ : Prop} (k_ : K_) : (True) ∧ K_ := ⟨trivial, k_⟩
abbrev kh208 : Hint true Tryz.prog := .call 208 (S208) (ok208) none
theorem kc31 (list : List ByteArray) (s : ByteArray) {K_ : Prop} (k_ : K_) : (True) ∧ (Imp (.l 1 eStr list) (.l 1 eStr list)) ∧ (Imp (.v (.string s)) (.v (.string s))) ∧ K_ := ⟨trivial, Imp.refl _, Imp.refl _, k_⟩
abbrev kh31 (list : List ByteArray) (s : ByteArray) : Hint true Tryz.prog := .call 31 (S31 list s) (ok31 list s) none
def Wu (s : ByteArray) : Int → Lp Int Bool := fun i40 =>
 bif (decide (i40 < ((F32 s 44).length : Int))) then (bif (bif (!(F31 F208 ((F32 s 44).getD (Int.toNat i40) default))) then true else (bif decide (i40 > 0) then (!(Op.bytesLess ((F32 s 44).getD (Int.toNat (i40 - 1)) default).toList ((F32 s 44).getD (Int.toNat i40) default).toList)) else false)) then (.ret false) else (.next (i40 + 1))) else (.done i40)
def F200 (s : ByteArray) : Bool :=
 bif (bif (s.toList == (⟨#[97, 108, 108]⟩ : ByteArray).toList) then true else (s.toList == (⟨#[110, 111, 110, 101]⟩ : ByteArray).toList)) then true else ((runL (Wu s) ((Int.toNat (((F32 s 44).length : Int) - 0)) + 1) 0).fin (fun r => r) (fun i40 => true))
abbrev Gn (s : ByteArray) : Nat × Int := (((Int.toNat (((F32 s 44).length : Int) - 0)) + 1), 0)
abbrev Qau (s : ByteArray) (m39 : Nat) (i40 : Int) : Prop := Int.toNat (((F32 s 44).length : Int) - i40) < m39 ∧ (0 : Int) ≤ i40
abbrev Qhh (s : ByteArray) : Lp Int Bool := LpX (Wu s) (Gn s)
abbrev Gm (s : ByteArray) (i : Nat × Int) : Prop := LpJ (Wu s) (Gn s) i (Qau s i.1 i.2)
abbrev Qim (s : ByteArray) (i : Nat × Int) (m39 : Nat) (i40 : Int) : Prop := LpH (Wu s) (Gn s) i m39 i40 (Qau s (m39 + 1) i40)
abbrev Qix (s : ByteArray) (i40 : Int) (i40_ : Int) (K39 : Prop) : Prop := ((.int .i64 i40 : Value) = .int .i64 i40_) ∧ (Im (.l 1 eStr (F32 s 44))) ∧ K39
theorem Qsk (s : ByteArray) (i : Nat × Int) (h : Gm s i) : Qim s i (i.1 - 1) i.2 := ⟨hd1 h.1 h.2.1, hd3 h.2.1, hd2 h.2.1, h.2.2⟩
theorem Qsu (s : ByteArray) (i : Nat × Int) (m39 : Nat) (i40 : Int) (hl : m39 < i.1) (e : runL (Wu s) m39 i40 = Qhh s) (h : Qau s m39 i40) : ∃ j : Nat × Int, Qix s i40 j.2 (Gm s j ∧ j.1 < i.1) := ⟨(m39, i40), rfl, Imp.refl _, ⟨e, h⟩, hl⟩
theorem Qsd (s : ByteArray) (h : (0 : Int) ≤ 0) : Qix s 0 0 (Gm s (Gn s)) := ⟨rfl, Imp.refl _, rfl, Nat.lt_succ_self _, h⟩
def S200 (s : ByteArray) : Spec := ⟨[.r (.c (.v (.string s)))], .v (.bool (F200 s)), s.size ≤ 1048576⟩
theorem ok200 (s : ByteArray) : (S200 s).ok Tryz.prog 200 :=
 Qj mixed (fn := Tryz.f200) (ct := .seq .no (.seq (.seq .no (.cond (.seq .no .no) .no)) (.seq (.reg [(1, kh32 s 44)]) (.seq (.seqk [(3, 0)] .no (.blk (.loop (ι := Nat × Int) (fun i => (fun (i40 : Int) => (⟨[(3, some (.h 0 0)), (4, some (.v (vI i40)))], [(0, some (.own 0 (.l 1 eStr (F32 s 44))))], 1⟩ : St)) i.2) (Gm s) (fun i => i.1) (Gn s) (fun i => (fun (i40 : Int) => (.seq (.seq .no (.cond .no .no)) (.seq (.blk (.seq (.reg [(0, kh208), (5, kh31 F208 ((F32 s 44).getD (Int.toNat i40) default)), (13, .bnd)]) (.cond (.seq .no .no) .no))) (.reg [(1, .bnd)])))) i.2)))) (.seq .no .no))))) Tryz.func200 (fun (hpre0 : s.size ≤ 1048576) => ifb (bif (s.toList == w11_.toList) then true else (s.toList == w12_.toList)) (fun h1 => fiB true (F200 s) (condT h1 rfl)) (fun h1 => have _ : (s.toList == w11_.toList) = false := (orF1 h1); have _ : (s.toList == w12_.toList) = false := (orF2 h1); kc32 s 44 (by omega) (by omega) (fun gv2 => kn (F32 s 44) fun _ => ai (Qsd s (by omega)) (fun (i0 : Nat × Int) (hi0 : Gm s i0) => (fun (m0 : Nat) (i40 : Int) (hh0 : Qim s i0 m0 i40) => have hI0 := hh0.1; have hl0 := hh0.2.1; have _ := hh0.2.2.1; have _ := hh0.2.2.2; ifd (i40 < ((F32 s 44).length : Int)) (fun h4 _ => kc208 (ai (by omega : ib i40 (F32 s 44)) (kc31 F208 ((F32 s 44).getD (Int.toNat i40) default) (ai (fun k6 : (decide (i40 > 0)) = true => have _ := of_decide_eq_true k6; (fun k5 : (!(F31 F208 ((F32 s 44).getD (Int.toNat i40) default))) = false => iok (i40 - 1) (by omega))) (ai (fun k8 : (decide (i40 > 0)) = true => have _ := of_decide_eq_true k8; (fun k7 : (!(F31 F208 ((F32 s 44).getD (Int.toNat i40) default))) = false => (by omega : ib (i40 - 1) (F32 s 44)))) (ai (fun k10 : (decide (i40 > 0)) = true => have _ := of_decide_eq_true k10; (fun k9 : (!(F31 F208 ((F32 s 44).getD (Int.toNat i40) default))) = false => (by omega : ib i40 (F32 s 44)))) (ifb (bif (!(F31 F208 ((F32 s 44).getD (Int.toNat i40) default))) then true else (bif decide (i40 > 0) then (!(Op.bytesLess ((F32 s 44).getD (Int.toNat (i40 - 1)) default).toList ((F32 s 44).getD (Int.toNat i40) default).toList)) else false)) (fun h11 => fiB false (F200 s) (condF h1 (finR (Qs hI0 (condT h4 (condT h11 rfl))) rfl))) (fun h11 => ai (iok (i40 + 1) (by omega)) (Qsu s i0 m0 (i40 + 1) hl0 (Qd hI0 (condT h4 (condF h11 rfl))) (by refine ⟨?_, ?_⟩ <;> omega)))))))))) (fun h4 _ => have hD0_12 : Qhh s = Lp.done i40 := Ql hI0 (condF h4 rfl); fiB true (F200 s) (condF h1 (finD hD0_12 rfl)))) (i0.1 - 1) i0.2 (Qsk s i0 hi0))))) (by kernel_rfl)
theorem kc191 (s : ByteArray) {K_ : Prop} (p0_ : s.size ≤ 1048576) (k_ : K_) : (s.size ≤ 1048576) ∧ (Imp (.v (.string s)) (.v (.string s))) ∧ K_ := ⟨p0_, Imp.refl _, k_⟩
theorem Qdy {K_ : Prop} (c_ b_ : Bool) (s : ByteArray) (p_ : c_ = b_ → s.size ≤ 1048576) (k_ : K_) : (c_ = b_ → s.size ≤ 1048576) ∧ (c_ = b_ → Imp (.v (.string s)) (.v (.string s))) ∧ K_ := ⟨p_, fun _ => Imp.refl _, k_⟩
abbrev Eu (s : ByteArray) : Hint true Tryz.prog := .call 191 (S191 s) (ok191 s) none
theorem kc204 (n : Int) {K_ : Prop} (p0_ : 0 ≤ n) (q0_ : 0 ≤ n) (q1_ : n ≤ 16) (k_ : (1 ≤ (F204 n) ∧ (F204 n) ≤ 65536) → (0 ≤ n → n ≤ 16 → 1 ≤ (F204 n) ∧ (F204 n) ≤ 65536) → K_) : (0 ≤ n) ∧ (Imp (.v (vI n)) (.v (vI n))) ∧ K_ := ⟨p0_, Imp.refl _, k_ (Qnw n q0_ q1_) (Qnw n)⟩
abbrev kh204 (n : Int) : Hint true Tryz.prog := .call 204 (S204 n) (ok204 n) none
def F189 (s : ByteArray) : Int × Int :=
 bif (bif (bif (((F32 s 47).length : Int) != 2) then true else decide ((F191 ((F32 s 47).getD (Int.toNat 0) default)) < 0)) then true else (!(decide (0 ≤ F194 ((F32 s 47).getD (Int.toNat 1) default) ∧ F194 ((F32 s 47).getD (Int.toNat 1) default) ≤ 16)))) then ((-1), 0) else (bif (((F191 ((F32 s 47).getD (Int.toNat 0) default)).tmod (F204 (F194 ((F32 s 47).getD (Int.toNat 1) default)))) != 0) then ((-1), 0) else ((F191 ((F32 s 47).getD (Int.toNat 0) default)), (F204 (F194 ((F32 s 47).getD (Int.toNat 1) default)))))
theorem Qpa (s : ByteArray) (r : Int × Int) (hF : r = (F189 s)) : ((.int .i64 r.1 : Value) = .int .i64 ((F189 s).1)) ∧ ((.int .i64 r.2 : Value) = .int .i64 ((F189 s).2)) ∧ True := by cases hF; exact ⟨rfl, rfl, trivial⟩
def S189 (s : ByteArray) : Spec := ⟨[.r (.c (.v (.string s)))], .tu [.v (vI ((F189 s).1)), .v (vI ((F189 s).2))], s.size ≤ 1048576⟩
theorem ok189 (s : ByteArray) : (S189 s).ok Tryz.prog 189 :=
 Qj mixed (fn := Tryz.f189) (ct := .seq .no (.seq (.reg [(1, kh32 s 47)]) (.seq (.seq (.reg [(7, Eu ((F32 s 47).getD (Int.toNat 0) default)), (14, Zv ((F32 s 47).getD (Int.toNat 1) default) 0 16)]) (.cond (.seq .no .no) .no)) (.seq (.reg [(3, Eu ((F32 s 47).getD (Int.toNat 0) default))]) (.seq (.reg [(3, Qjt ((F32 s 47).getD (Int.toNat 1) default)), (4, kh204 (F194 ((F32 s 47).getD (Int.toNat 1) default)))]) (.seq (.seq .no (.cond (.seq .no .no) .no)) (.seq .no .no))))))) Tryz.func189 (fun (hpre0 : s.size ≤ 1048576) => kc32 s 47 (by omega) (by omega) (fun gv1 => ai (fun k2 : (((F32 s 47).length : Int) != 2) = false => have _ := bneF k2; (by omega : ib 0 (F32 s 47))) (Qdy (((F32 s 47).length : Int) != 2) false ((F32 s 47).getD (Int.toNat 0) default) (fun k3 => have _ := bneF k3; (by exact Kn _ _ (by omega) _)) (ai (fun k4 : (bif (((F32 s 47).length : Int) != 2) then true else decide ((F191 ((F32 s 47).getD (Int.toNat 0) default)) < 0)) = false => have _ := bneF (orF1 k4); have _ := of_decide_eq_false (orF2 k4); (by omega : ib 1 (F32 s 47))) (Zn (bif (((F32 s 47).length : Int) != 2) then true else decide ((F191 ((F32 s 47).getD (Int.toNat 0) default)) < 0)) false ((F32 s 47).getD (Int.toNat 1) default) 0 16 (fun k5 => have _ := bneF (orF1 k5); have _ := of_decide_eq_false (orF2 k5); (by exact Kn _ _ (by omega) _)) (ifb (bif (bif (((F32 s 47).length : Int) != 2) then true else decide ((F191 ((F32 s 47).getD (Int.toNat 0) default)) < 0)) then true else (!(decide (0 ≤ F194 ((F32 s 47).getD (Int.toNat 1) default) ∧ F194 ((F32 s 47).getD (Int.toNat 1) default) ≤ 16)))) (fun h6 => Qpa s ((-1), 0) (condT h6 rfl)) (fun h6 => have _ := bneF (orF1 (orF1 h6)); have _ := of_decide_eq_false (orF2 (orF1 h6)); have _ := of_decide_eq_true (Uv (orF2 h6)); ai (by omega : ib 0 (F32 s 47)) (kc191 ((F32 s 47).getD (Int.toNat 0) default) (by exact Kn _ _ (by omega) _) (ai (by omega : ib 1 (F32 s 47)) (Qht ((F32 s 47).getD (Int.toNat 1) default) (by exact Kn _ _ (by omega) _) (kc204 (F194 ((F32 s 47).getD (Int.toNat 1) default)) (by omega) (by omega) (by omega) (fun gv7 gv8 => ai (by omega : ¬ (F204 (F194 ((F32 s 47).getD (Int.toNat 1) default))) = 0) (ifn ((F191 ((F32 s 47).getD (Int.toNat 0) default)).tmod (F204 (F194 ((F32 s 47).getD (Int.toNat 1) default)))) 0 (fun h9 _ => Qpa s ((-1), 0) (condF h6 (condT h9 rfl))) (fun h9 _ => Qpa s ((F191 ((F32 s 47).getD (Int.toNat 0) default)), (F204 (F194 ((F32 s 47).getD (Int.toNat 1) default)))) (condF h6 (condF h9 rfl)))))))))))))))) (by kernel_rfl)
theorem kc189 (s : ByteArray) {K_ : Prop} (p0_ : s.size ≤ 1048576) (k_ : K_) : (s.size ≤ 1048576) ∧ (Imp (.v (.string s)) (.v (.string s))) ∧ K_ := ⟨p0_, Imp.refl _, k_⟩
abbrev kh189 (s : ByteArray) : Hint true Tryz.prog := .call 189 (S189 s) (ok189 s) none
def F202 (s : ByteArray) : Bool :=
 decide ((F189 s).1 ≥ 0)
def S202 (s : ByteArray) : Spec := ⟨[.r (.c (.v (.string s)))], .v (.bool (F202 s)), s.size ≤ 1048576⟩
theorem ok202 (s : ByteArray) : (S202 s).ok Tryz.prog 202 :=
 Qj mixed (fn := Tryz.f202) (ct := .seq .no (.seq (.reg [(1, kh189 s)]) (.seq .no .no))) Tryz.func202 (fun (hpre0 : s.size ≤ 1048576) => kc189 s (by omega) (fiB (decide ((F189 s).1 ≥ 0)) (F202 s) rfl)) (by kernel_rfl)
theorem kg28 {K_ : Prop} (c_ b_ : Bool) (s : ByteArray) (p_ : c_ = b_ → s.size ≤ 1048576) (k_ : K_) : (c_ = b_ → s.size ≤ 1048576) ∧ (c_ = b_ → Imp (.v (.string s)) (.v (.string s))) ∧ K_ := ⟨p_, fun _ => Imp.refl _, k_⟩
abbrev kh28 (s : ByteArray) : Hint true Tryz.prog := .call 28 (S28 s) (ok28 s) none
theorem kg200 {K_ : Prop} (c_ b_ : Bool) (s : ByteArray) (p_ : c_ = b_ → s.size ≤ 1048576) (k_ : K_) : (c_ = b_ → s.size ≤ 1048576) ∧ (c_ = b_ → Imp (.v (.string s)) (.v (.string s))) ∧ K_ := ⟨p_, fun _ => Imp.refl _, k_⟩
abbrev kh200 (s : ByteArray) : Hint true Tryz.prog := .call 200 (S200 s) (ok200 s) none
theorem Qdj {K_ : Prop} (c_ b_ : Bool) (s : ByteArray) (p_ : c_ = b_ → s.size ≤ 1048576) (k_ : K_) : (c_ = b_ → s.size ≤ 1048576) ∧ (c_ = b_ → Imp (.v (.string s)) (.v (.string s))) ∧ K_ := ⟨p_, fun _ => Imp.refl _, k_⟩
abbrev Qdx (s : ByteArray) : Hint true Tryz.prog := .call 202 (S202 s) (ok202 s) none
abbrev w18_ : ByteArray := ⟨#[105, 110]⟩
abbrev w19_ : ByteArray := ⟨#[112, 101, 114, 109, 105, 116]⟩
abbrev w20_ : ByteArray := ⟨#[100, 101, 110, 121]⟩
def F173 (w1 : List ByteArray) : Bool :=
 bif ((w1.length : Int) == 0) then false else (bif ((w1.getD (Int.toNat 0) default).toList == (⟨#[104, 111, 115, 116]⟩ : ByteArray).toList) then (bif ((w1.length : Int) == 2) then (F28 (w1.getD (Int.toNat 1) default)) else false) else (bif ((w1.getD (Int.toNat 0) default).toList == (⟨#[117, 115, 101, 114]⟩ : ByteArray).toList) then (bif (bif ((w1.length : Int) == 3) then (F28 (w1.getD (Int.toNat 1) default)) else false) then (F200 (w1.getD (Int.toNat 2) default)) else false) else (bif ((w1.getD (Int.toNat 0) default).toList == (⟨#[112, 111, 114, 116]⟩ : ByteArray).toList) then (bif (bif (bif ((w1.length : Int) == 3) then true else (bif (bif ((w1.length : Int) == 5) then ((w1.getD (Int.toNat 3) default).toList == (⟨#[105, 110]⟩ : ByteArray).toList) else false) then (F28 (w1.getD (Int.toNat 4) default)) else false)) then (decide (0 ≤ F194 (w1.getD (Int.toNat 1) default) ∧ F194 (w1.getD (Int.toNat 1) default) ≤ 7)) else false) then (F202 (w1.getD (Int.toNat 2) default)) else false) else (bif ((w1.getD (Int.toNat 0) default).toList == (⟨#[114, 117, 108, 101]⟩ : ByteArray).toList) then (bif (bif (bif (bif (bif (bif ((w1.length : Int) == 7) then (F28 (w1.getD (Int.toNat 1) default)) else false) then (decide (0 ≤ F194 (w1.getD (Int.toNat 2) default) ∧ F194 (w1.getD (Int.toNat 2) default) ≤ 99)) else false) then (bif ((w1.getD (Int.toNat 3) default).toList == (⟨#[112, 101, 114, 109, 105, 116]⟩ : ByteArray).toList) then true else ((w1.getD (Int.toNat 3) default).toList == (⟨#[100, 101, 110, 121]⟩ : ByteArray).toList)) else false) then (F202 (w1.getD (Int.toNat 4) default)) else false) then (F202 (w1.getD (Int.toNat 5) default)) else false) then (decide (0 ≤ F194 (w1.getD (Int.toNat 6) default) ∧ F194 (w1.getD (Int.toNat 6) default) ≤ 7)) else false) else (bif ((w1.getD (Int.toNat 0) default).toList == (⟨#[114, 111, 117, 116, 101]⟩ : ByteArray).toList) then (bif (bif ((w1.length : Int) == 3) then (F202 (w1.getD (Int.toNat 1) default)) else false) then decide ((F191 (w1.getD (Int.toNat 2) default)) ≥ 0) else false) else (bif ((w1.getD (Int.toNat 0) default).toList == (⟨#[112, 101, 101, 114]⟩ : ByteArray).toList) then (bif (bif (bif ((w1.length : Int) == 4) then decide ((F191 (w1.getD (Int.toNat 1) default)) ≥ 0) else false) then (decide (1 ≤ F194 (w1.getD (Int.toNat 2) default) ∧ F194 (w1.getD (Int.toNat 2) default) ≤ 9)) else false) then (decide (1 ≤ F194 (w1.getD (Int.toNat 3) default) ∧ F194 (w1.getD (Int.toNat 3) default) ≤ 999999)) else false) else (bif ((w1.getD (Int.toNat 0) default).toList == (⟨#[110, 97, 116]⟩ : ByteArray).toList) then (bif (bif (bif (bif ((w1.length : Int) == 5) then (F202 (w1.getD (Int.toNat 1) default)) else false) then decide ((F191 (w1.getD (Int.toNat 2) default)) ≥ 0) else false) then (decide (1 ≤ F194 (w1.getD (Int.toNat 3) default) ∧ F194 (w1.getD (Int.toNat 3) default) ≤ 65535)) else false) then (decide (1 ≤ F194 (w1.getD (Int.toNat 4) default) ∧ F194 (w1.getD (Int.toNat 4) default) ≤ 65535)) else false) else (bif ((w1.getD (Int.toNat 0) default).toList == (⟨#[100, 111, 111, 114]⟩ : ByteArray).toList) then (bif (bif (bif (bif ((w1.length : Int) == 5) then (decide (1 ≤ F194 (w1.getD (Int.toNat 1) default) ∧ F194 (w1.getD (Int.toNat 1) default) ≤ 7)) else false) then (decide (1 ≤ F194 (w1.getD (Int.toNat 2) default) ∧ F194 (w1.getD (Int.toNat 2) default) ≤ 65535)) else false) then decide ((F191 (w1.getD (Int.toNat 3) default)) ≥ 0) else false) then (decide (1 ≤ F194 (w1.getD (Int.toNat 4) default) ∧ F194 (w1.getD (Int.toNat 4) default) ≤ 65535)) else false) else false))))))))
def S173 (w1 : List ByteArray) : Spec := ⟨[.r (.c (.l 1 eStr w1))], .v (.bool (F173 w1)), (∀ k : Nat, (w1.getD k default).size ≤ 1048576)⟩
theorem ok173 (w1 : List ByteArray) : (S173 w1).ok Tryz.prog 173 :=
 Qj mixed (fn := Tryz.f173) (ct := .seqk [(0, 0)] .no (.seq .no (.seq (.seq .no (.cond (.seq .no .no) .no)) (.seq (.seq .no (.blk (.seq .no (.cond (.seq (.reg [(6, kh28 (w1.getD (Int.toNat 1) default))]) .no) (.seq .no (.cond (.seq (.reg [(6, kh28 (w1.getD (Int.toNat 1) default)), (12, kh200 (w1.getD (Int.toNat 2) default))]) .no) (.seq .no (.cond (.seq (.reg [(15, kh28 (w1.getD (Int.toNat 4) default)), (22, Zv (w1.getD (Int.toNat 1) default) 0 7), (28, Qdx (w1.getD (Int.toNat 2) default))]) .no) (.seq .no (.cond (.seq (.reg [(6, kh28 (w1.getD (Int.toNat 1) default)), (12, Zv (w1.getD (Int.toNat 2) default) 0 99), (30, Qdx (w1.getD (Int.toNat 4) default)), (36, Qdx (w1.getD (Int.toNat 5) default)), (42, Zv (w1.getD (Int.toNat 6) default) 0 7)]) .no) (.seq .no (.cond (.seq (.reg [(6, Qdx (w1.getD (Int.toNat 1) default)), (12, Eu (w1.getD (Int.toNat 2) default))]) .no) (.seq .no (.cond (.seq (.reg [(6, Eu (w1.getD (Int.toNat 1) default)), (13, Zv (w1.getD (Int.toNat 2) default) 1 9), (19, Zv (w1.getD (Int.toNat 3) default) 1 999999)]) .no) (.seq .no (.cond (.seq (.reg [(6, Qdx (w1.getD (Int.toNat 1) default)), (12, Eu (w1.getD (Int.toNat 2) default)), (19, Zv (w1.getD (Int.toNat 3) default) 1 65535), (25, Zv (w1.getD (Int.toNat 4) default) 1 65535)]) .no) (.seq .no (.cond (.seq (.reg [(6, Zv (w1.getD (Int.toNat 1) default) 1 7), (12, Zv (w1.getD (Int.toNat 2) default) 1 65535), (18, Eu (w1.getD (Int.toNat 3) default)), (25, Zv (w1.getD (Int.toNat 4) default) 1 65535)]) .no) .no)))))))))))))))))) (.seq .no .no))))) Tryz.func173 (fun (hpre0 : ∀ k : Nat, (w1.getD k default).size ≤ 1048576) => kn w1 fun _ => ife (w1.length : Int) 0 (fun h1 _ => fiB false (F173 w1) (condT h1 rfl)) (fun h1 _ => ai (by (omega) : 0 ≤ (0 : Int) ∧ (0 : Int) < (w1.length : Int)) (ifb ((w1.getD (Int.toNat 0) default).toList == w4_.toList) (fun h2 => ai (fun k3 : ((w1.length : Int) == 2) = true => have _ := eq_of_beq k3; (by (omega) : 0 ≤ (1 : Int) ∧ (1 : Int) < (w1.length : Int))) (kg28 ((w1.length : Int) == 2) true (w1.getD (Int.toNat 1) default) (fun k4 => have _ := eq_of_beq k4; (by exact hpre0 _)) (fiB (bif ((w1.length : Int) == 2) then (F28 (w1.getD (Int.toNat 1) default)) else false) (F173 w1) (condF h1 (condT h2 rfl))))) (fun h2 => ifb ((w1.getD (Int.toNat 0) default).toList == w10_.toList) (fun h5 => ai (fun k6 : ((w1.length : Int) == 3) = true => have _ := eq_of_beq k6; (by (omega) : 0 ≤ (1 : Int) ∧ (1 : Int) < (w1.length : Int))) (kg28 ((w1.length : Int) == 3) true (w1.getD (Int.toNat 1) default) (fun k7 => have _ := eq_of_beq k7; (by exact hpre0 _)) (ai (fun k8 : (bif ((w1.length : Int) == 3) then (F28 (w1.getD (Int.toNat 1) default)) else false) = true => have _ := eq_of_beq (Qg k8); (by (omega) : 0 ≤ (2 : Int) ∧ (2 : Int) < (w1.length : Int))) (kg200 (bif ((w1.length : Int) == 3) then (F28 (w1.getD (Int.toNat 1) default)) else false) true (w1.getD (Int.toNat 2) default) (fun k9 => have _ := eq_of_beq (Qg k9); (by exact hpre0 _)) (fiB (bif (bif ((w1.length : Int) == 3) then (F28 (w1.getD (Int.toNat 1) default)) else false) then (F200 (w1.getD (Int.toNat 2) default)) else false) (F173 w1) (condF h1 (condF h2 (condT h5 rfl)))))))) (fun h5 => ifb ((w1.getD (Int.toNat 0) default).toList == w7_.toList) (fun h10 => ai (fun k12 : ((w1.length : Int) == 5) = true => have _ := eq_of_beq k12; (fun k11 : ((w1.length : Int) == 3) = false => have _ := beqF k11; (by (omega) : 0 ≤ (3 : Int) ∧ (3 : Int) < (w1.length : Int)))) (ai (fun k14 : (bif ((w1.length : Int) == 5) then ((w1.getD (Int.toNat 3) default).toList == w18_.toList) else false) = true => have _ := eq_of_beq (Qg k14); have _ : ((w1.getD (Int.toNat 3) default).toList == w18_.toList) = true := (Ua k14); (fun k13 : ((w1.length : Int) == 3) = false => have _ := beqF k13; (by (omega) : 0 ≤ (4 : Int) ∧ (4 : Int) < (w1.length : Int)))) (ai (fun k16 : (bif ((w1.length : Int) == 5) then ((w1.getD (Int.toNat 3) default).toList == w18_.toList) else false) = true => have _ := eq_of_beq (Qg k16); have _ : ((w1.getD (Int.toNat 3) default).toList == w18_.toList) = true := (Ua k16); (fun k15 : ((w1.length : Int) == 3) = false => have _ := beqF k15; (by exact hpre0 _ : (w1.getD (Int.toNat 4) default).size ≤ 1048576))) (ai (fun k18 : (bif ((w1.length : Int) == 5) then ((w1.getD (Int.toNat 3) default).toList == w18_.toList) else false) = true => have _ := eq_of_beq (Qg k18); have _ : ((w1.getD (Int.toNat 3) default).toList == w18_.toList) = true := (Ua k18); (fun k17 : ((w1.length : Int) == 3) = false => have _ := beqF k17; (Imp.refl (.v (.string (w1.getD (Int.toNat 4) default)))))) (ai (fun k19 : (bif ((w1.length : Int) == 3) then true else (bif (bif ((w1.length : Int) == 5) then ((w1.getD (Int.toNat 3) default).toList == w18_.toList) else false) then (F28 (w1.getD (Int.toNat 4) default)) else false)) = true => (by (rcases Classical.em ((w1.length : Int) = 3) with h3 | h3; omega; (rcases Classical.em ((w1.length : Int) = 5) with h5 | h5; omega; (have e3 : ((w1.length : Int) == 3) = false := beq_eq_false_iff_ne.2 h3; have e5 : ((w1.length : Int) == 5) = false := beq_eq_false_iff_ne.2 h5; simp [e3, e5] at *))) : 0 ≤ (1 : Int) ∧ (1 : Int) < (w1.length : Int))) (Zn (bif ((w1.length : Int) == 3) then true else (bif (bif ((w1.length : Int) == 5) then ((w1.getD (Int.toNat 3) default).toList == w18_.toList) else false) then (F28 (w1.getD (Int.toNat 4) default)) else false)) true (w1.getD (Int.toNat 1) default) 0 7 (fun k20 => (by exact hpre0 _)) (ai (fun k21 : (bif (bif ((w1.length : Int) == 3) then true else (bif (bif ((w1.length : Int) == 5) then ((w1.getD (Int.toNat 3) default).toList == w18_.toList) else false) then (F28 (w1.getD (Int.toNat 4) default)) else false)) then (decide (0 ≤ F194 (w1.getD (Int.toNat 1) default) ∧ F194 (w1.getD (Int.toNat 1) default) ≤ 7)) else false) = true => have _ := of_decide_eq_true (Ua k21); (by (rcases Classical.em ((w1.length : Int) = 3) with h3 | h3; omega; (rcases Classical.em ((w1.length : Int) = 5) with h5 | h5; omega; (have e3 : ((w1.length : Int) == 3) = false := beq_eq_false_iff_ne.2 h3; have e5 : ((w1.length : Int) == 5) = false := beq_eq_false_iff_ne.2 h5; simp [e3, e5] at *))) : 0 ≤ (2 : Int) ∧ (2 : Int) < (w1.length : Int))) (Qdj (bif (bif ((w1.length : Int) == 3) then true else (bif (bif ((w1.length : Int) == 5) then ((w1.getD (Int.toNat 3) default).toList == w18_.toList) else false) then (F28 (w1.getD (Int.toNat 4) default)) else false)) then (decide (0 ≤ F194 (w1.getD (Int.toNat 1) default) ∧ F194 (w1.getD (Int.toNat 1) default) ≤ 7)) else false) true (w1.getD (Int.toNat 2) default) (fun k22 => have _ := of_decide_eq_true (Ua k22); (by exact hpre0 _)) (fiB (bif (bif (bif ((w1.length : Int) == 3) then true else (bif (bif ((w1.length : Int) == 5) then ((w1.getD (Int.toNat 3) default).toList == w18_.toList) else false) then (F28 (w1.getD (Int.toNat 4) default)) else false)) then (decide (0 ≤ F194 (w1.getD (Int.toNat 1) default) ∧ F194 (w1.getD (Int.toNat 1) default) ≤ 7)) else false) then (F202 (w1.getD (Int.toNat 2) default)) else false) (F173 w1) (condF h1 (condF h2 (condF h5 (condT h10 rfl))))))))))))) (fun h10 => ifb ((w1.getD (Int.toNat 0) default).toList == w9_.toList) (fun h23 => ai (fun k24 : ((w1.length : Int) == 7) = true => have _ := eq_of_beq k24; (by (omega) : 0 ≤ (1 : Int) ∧ (1 : Int) < (w1.length : Int))) (kg28 ((w1.length : Int) == 7) true (w1.getD (Int.toNat 1) default) (fun k25 => have _ := eq_of_beq k25; (by exact hpre0 _)) (ai (fun k26 : (bif ((w1.length : Int) == 7) then (F28 (w1.getD (Int.toNat 1) default)) else false) = true => have _ := eq_of_beq (Qg k26); (by (omega) : 0 ≤ (2 : Int) ∧ (2 : Int) < (w1.length : Int))) (Zn (bif ((w1.length : Int) == 7) then (F28 (w1.getD (Int.toNat 1) default)) else false) true (w1.getD (Int.toNat 2) default) 0 99 (fun k27 => have _ := eq_of_beq (Qg k27); (by exact hpre0 _)) (ai (fun k28 : (bif (bif ((w1.length : Int) == 7) then (F28 (w1.getD (Int.toNat 1) default)) else false) then (decide (0 ≤ F194 (w1.getD (Int.toNat 2) default) ∧ F194 (w1.getD (Int.toNat 2) default) ≤ 99)) else false) = true => have _ := eq_of_beq (Qg (Qg k28)); have _ := of_decide_eq_true (Ua k28); (by (omega) : 0 ≤ (3 : Int) ∧ (3 : Int) < (w1.length : Int))) (ai (fun k30 : ((w1.getD (Int.toNat 3) default).toList == w19_.toList) = false => (fun k29 : (bif (bif ((w1.length : Int) == 7) then (F28 (w1.getD (Int.toNat 1) default)) else false) then (decide (0 ≤ F194 (w1.getD (Int.toNat 2) default) ∧ F194 (w1.getD (Int.toNat 2) default) ≤ 99)) else false) = true => have _ := eq_of_beq (Qg (Qg k29)); have _ := of_decide_eq_true (Ua k29); (by (omega) : 0 ≤ (3 : Int) ∧ (3 : Int) < (w1.length : Int)))) (ai (fun k31 : (bif (bif (bif ((w1.length : Int) == 7) then (F28 (w1.getD (Int.toNat 1) default)) else false) then (decide (0 ≤ F194 (w1.getD (Int.toNat 2) default) ∧ F194 (w1.getD (Int.toNat 2) default) ≤ 99)) else false) then (bif ((w1.getD (Int.toNat 3) default).toList == w19_.toList) then true else ((w1.getD (Int.toNat 3) default).toList == w20_.toList)) else false) = true => have _ := eq_of_beq (Qg (Qg (Qg k31))); have _ := of_decide_eq_true (Ua (Qg k31)); (by (omega) : 0 ≤ (4 : Int) ∧ (4 : Int) < (w1.length : Int))) (Qdj (bif (bif (bif ((w1.length : Int) == 7) then (F28 (w1.getD (Int.toNat 1) default)) else false) then (decide (0 ≤ F194 (w1.getD (Int.toNat 2) default) ∧ F194 (w1.getD (Int.toNat 2) default) ≤ 99)) else false) then (bif ((w1.getD (Int.toNat 3) default).toList == w19_.toList) then true else ((w1.getD (Int.toNat 3) default).toList == w20_.toList)) else false) true (w1.getD (Int.toNat 4) default) (fun k32 => have _ := eq_of_beq (Qg (Qg (Qg k32))); have _ := of_decide_eq_true (Ua (Qg k32)); (by exact hpre0 _)) (ai (fun k33 : (bif (bif (bif (bif ((w1.length : Int) == 7) then (F28 (w1.getD (Int.toNat 1) default)) else false) then (decide (0 ≤ F194 (w1.getD (Int.toNat 2) default) ∧ F194 (w1.getD (Int.toNat 2) default) ≤ 99)) else false) then (bif ((w1.getD (Int.toNat 3) default).toList == w19_.toList) then true else ((w1.getD (Int.toNat 3) default).toList == w20_.toList)) else false) then (F202 (w1.getD (Int.toNat 4) default)) else false) = true => have _ := eq_of_beq (Qg (Qg (Qg (Qg k33)))); have _ := of_decide_eq_true (Ua (Qg (Qg k33))); (by (omega) : 0 ≤ (5 : Int) ∧ (5 : Int) < (w1.length : Int))) (Qdj (bif (bif (bif (bif ((w1.length : Int) == 7) then (F28 (w1.getD (Int.toNat 1) default)) else false) then (decide (0 ≤ F194 (w1.getD (Int.toNat 2) default) ∧ F194 (w1.getD (Int.toNat 2) default) ≤ 99)) else false) then (bif ((w1.getD (Int.toNat 3) default).toList == w19_.toList) then true else ((w1.getD (Int.toNat 3) default).toList == w20_.toList)) else false) then (F202 (w1.getD (Int.toNat 4) default)) else false) true (w1.getD (Int.toNat 5) default) (fun k34 => have _ := eq_of_beq (Qg (Qg (Qg (Qg k34)))); have _ := of_decide_eq_true (Ua (Qg (Qg k34))); (by exact hpre0 _)) (ai (fun k35 : (bif (bif (bif (bif (bif ((w1.length : Int) == 7) then (F28 (w1.getD (Int.toNat 1) default)) else false) then (decide (0 ≤ F194 (w1.getD (Int.toNat 2) default) ∧ F194 (w1.getD (Int.toNat 2) default) ≤ 99)) else false) then (bif ((w1.getD (Int.toNat 3) default).toList == w19_.toList) then true else ((w1.getD (Int.toNat 3) default).toList == w20_.toList)) else false) then (F202 (w1.getD (Int.toNat 4) default)) else false) then (F202 (w1.getD (Int.toNat 5) default)) else false) = true => have _ := eq_of_beq (Qg (Qg (Qg (Qg (Qg k35))))); have _ := of_decide_eq_true (Ua (Qg (Qg (Qg k35)))); (by (omega) : 0 ≤ (6 : Int) ∧ (6 : Int) < (w1.length : Int))) (Zn (bif (bif (bif (bif (bif ((w1.length : Int) == 7) then (F28 (w1.getD (Int.toNat 1) default)) else false) then (decide (0 ≤ F194 (w1.getD (Int.toNat 2) default) ∧ F194 (w1.getD (Int.toNat 2) default) ≤ 99)) else false) then (bif ((w1.getD (Int.toNat 3) default).toList == w19_.toList) then true else ((w1.getD (Int.toNat 3) default).toList == w20_.toList)) else false) then (F202 (w1.getD (Int.toNat 4) default)) else false) then (F202 (w1.getD (Int.toNat 5) default)) else false) true (w1.getD (Int.toNat 6) default) 0 7 (fun k36 => have _ := eq_of_beq (Qg (Qg (Qg (Qg (Qg k36))))); have _ := of_decide_eq_true (Ua (Qg (Qg (Qg k36)))); (by exact hpre0 _)) (fiB (bif (bif (bif (bif (bif (bif ((w1.length : Int) == 7) then (F28 (w1.getD (Int.toNat 1) default)) else false) then (decide (0 ≤ F194 (w1.getD (Int.toNat 2) default) ∧ F194 (w1.getD (Int.toNat 2) default) ≤ 99)) else false) then (bif ((w1.getD (Int.toNat 3) default).toList == w19_.toList) then true else ((w1.getD (Int.toNat 3) default).toList == w20_.toList)) else false) then (F202 (w1.getD (Int.toNat 4) default)) else false) then (F202 (w1.getD (Int.toNat 5) default)) else false) then (decide (0 ≤ F194 (w1.getD (Int.toNat 6) default) ∧ F194 (w1.getD (Int.toNat 6) default) ≤ 7)) else false) (F173 w1) (condF h1 (condF h2 (condF h5 (condF h10 (condT h23 rfl)))))))))))))))))) (fun h23 => ifb ((w1.getD (Int.toNat 0) default).toList == w8_.toList) (fun h37 => ai (fun k38 : ((w1.length : Int) == 3) = true => have _ := eq_of_beq k38; (by (omega) : 0 ≤ (1 : Int) ∧ (1 : Int) < (w1.length : Int))) (Qdj ((w1.length : Int) == 3) true (w1.getD (Int.toNat 1) default) (fun k39 => have _ := eq_of_beq k39; (by exact hpre0 _)) (ai (fun k40 : (bif ((w1.length : Int) == 3) then (F202 (w1.getD (Int.toNat 1) default)) else false) = true => have _ := eq_of_beq (Qg k40); (by (omega) : 0 ≤ (2 : Int) ∧ (2 : Int) < (w1.length : Int))) (Qdy (bif ((w1.length : Int) == 3) then (F202 (w1.getD (Int.toNat 1) default)) else false) true (w1.getD (Int.toNat 2) default) (fun k41 => have _ := eq_of_beq (Qg k41); (by exact hpre0 _)) (fiB (bif (bif ((w1.length : Int) == 3) then (F202 (w1.getD (Int.toNat 1) default)) else false) then decide ((F191 (w1.getD (Int.toNat 2) default)) ≥ 0) else false) (F173 w1) (condF h1 (condF h2 (condF h5 (condF h10 (condF h23 (condT h37 rfl))))))))))) (fun h37 => ifb ((w1.getD (Int.toNat 0) default).toList == w6_.toList) (fun h42 => ai (fun k43 : ((w1.length : Int) == 4) = true => have _ := eq_of_beq k43; (by (omega) : 0 ≤ (1 : Int) ∧ (1 : Int) < (w1.length : Int))) (Qdy ((w1.length : Int) == 4) true (w1.getD (Int.toNat 1) default) (fun k44 => have _ := eq_of_beq k44; (by exact hpre0 _)) (ai (fun k45 : (bif ((w1.length : Int) == 4) then decide ((F191 (w1.getD (Int.toNat 1) default)) ≥ 0) else false) = true => have _ := eq_of_beq (Qg k45); have _ := of_decide_eq_true (Ua k45); (by (omega) : 0 ≤ (2 : Int) ∧ (2 : Int) < (w1.length : Int))) (Zn (bif ((w1.length : Int) == 4) then decide ((F191 (w1.getD (Int.toNat 1) default)) ≥ 0) else false) true (w1.getD (Int.toNat 2) default) 1 9 (fun k46 => have _ := eq_of_beq (Qg k46); have _ := of_decide_eq_true (Ua k46); (by exact hpre0 _)) (ai (fun k47 : (bif (bif ((w1.length : Int) == 4) then decide ((F191 (w1.getD (Int.toNat 1) default)) ≥ 0) else false) then (decide (1 ≤ F194 (w1.getD (Int.toNat 2) default) ∧ F194 (w1.getD (Int.toNat 2) default) ≤ 9)) else false) = true => have _ := eq_of_beq (Qg (Qg k47)); have _ := of_decide_eq_true (Ua (Qg k47)); have _ := of_decide_eq_true (Ua k47); (by (omega) : 0 ≤ (3 : Int) ∧ (3 : Int) < (w1.length : Int))) (Zn (bif (bif ((w1.length : Int) == 4) then decide ((F191 (w1.getD (Int.toNat 1) default)) ≥ 0) else false) then (decide (1 ≤ F194 (w1.getD (Int.toNat 2) default) ∧ F194 (w1.getD (Int.toNat 2) default) ≤ 9)) else false) true (w1.getD (Int.toNat 3) default) 1 999999 (fun k48 => have _ := eq_of_beq (Qg (Qg k48)); have _ := of_decide_eq_true (Ua (Qg k48)); have _ := of_decide_eq_true (Ua k48); (by exact hpre0 _)) (fiB (bif (bif (bif ((w1.length : Int) == 4) then decide ((F191 (w1.getD (Int.toNat 1) default)) ≥ 0) else false) then (decide (1 ≤ F194 (w1.getD (Int.toNat 2) default) ∧ F194 (w1.getD (Int.toNat 2) default) ≤ 9)) else false) then (decide (1 ≤ F194 (w1.getD (Int.toNat 3) default) ∧ F194 (w1.getD (Int.toNat 3) default) ≤ 999999)) else false) (F173 w1) (condF h1 (condF h2 (condF h5 (condF h10 (condF h23 (condF h37 (condT h42 rfl)))))))))))))) (fun h42 => ifb ((w1.getD (Int.toNat 0) default).toList == w5_.toList) (fun h49 => ai (fun k50 : ((w1.length : Int) == 5) = true => have _ := eq_of_beq k50; (by (omega) : 0 ≤ (1 : Int) ∧ (1 : Int) < (w1.length : Int))) (Qdj ((w1.length : Int) == 5) true (w1.getD (Int.toNat 1) default) (fun k51 => have _ := eq_of_beq k51; (by exact hpre0 _)) (ai (fun k52 : (bif ((w1.length : Int) == 5) then (F202 (w1.getD (Int.toNat 1) default)) else false) = true => have _ := eq_of_beq (Qg k52); (by (omega) : 0 ≤ (2 : Int) ∧ (2 : Int) < (w1.length : Int))) (Qdy (bif ((w1.length : Int) == 5) then (F202 (w1.getD (Int.toNat 1) default)) else false) true (w1.getD (Int.toNat 2) default) (fun k53 => have _ := eq_of_beq (Qg k53); (by exact hpre0 _)) (ai (fun k54 : (bif (bif ((w1.length : Int) == 5) then (F202 (w1.getD (Int.toNat 1) default)) else false) then decide ((F191 (w1.getD (Int.toNat 2) default)) ≥ 0) else false) = true => have _ := eq_of_beq (Qg (Qg k54)); have _ := of_decide_eq_true (Ua k54); (by (omega) : 0 ≤ (3 : Int) ∧ (3 : Int) < (w1.length : Int))) (Zn (bif (bif ((w1.length : Int) == 5) then (F202 (w1.getD (Int.toNat 1) default)) else false) then decide ((F191 (w1.getD (Int.toNat 2) default)) ≥ 0) else false) true (w1.getD (Int.toNat 3) default) 1 65535 (fun k55 => have _ := eq_of_beq (Qg (Qg k55)); have _ := of_decide_eq_true (Ua k55); (by exact hpre0 _)) (ai (fun k56 : (bif (bif (bif ((w1.length : Int) == 5) then (F202 (w1.getD (Int.toNat 1) default)) else false) then decide ((F191 (w1.getD (Int.toNat 2) default)) ≥ 0) else false) then (decide (1 ≤ F194 (w1.getD (Int.toNat 3) default) ∧ F194 (w1.getD (Int.toNat 3) default) ≤ 65535)) else false) = true => have _ := eq_of_beq (Qg (Qg (Qg k56))); have _ := of_decide_eq_true (Ua (Qg k56)); have _ := of_decide_eq_true (Ua k56); (by (omega) : 0 ≤ (4 : Int) ∧ (4 : Int) < (w1.length : Int))) (Zn (bif (bif (bif ((w1.length : Int) == 5) then (F202 (w1.getD (Int.toNat 1) default)) else false) then decide ((F191 (w1.getD (Int.toNat 2) default)) ≥ 0) else false) then (decide (1 ≤ F194 (w1.getD (Int.toNat 3) default) ∧ F194 (w1.getD (Int.toNat 3) default) ≤ 65535)) else false) true (w1.getD (Int.toNat 4) default) 1 65535 (fun k57 => have _ := eq_of_beq (Qg (Qg (Qg k57))); have _ := of_decide_eq_true (Ua (Qg k57)); have _ := of_decide_eq_true (Ua k57); (by exact hpre0 _)) (fiB (bif (bif (bif (bif ((w1.length : Int) == 5) then (F202 (w1.getD (Int.toNat 1) default)) else false) then decide ((F191 (w1.getD (Int.toNat 2) default)) ≥ 0) else false) then (decide (1 ≤ F194 (w1.getD (Int.toNat 3) default) ∧ F194 (w1.getD (Int.toNat 3) default) ≤ 65535)) else false) then (decide (1 ≤ F194 (w1.getD (Int.toNat 4) default) ∧ F194 (w1.getD (Int.toNat 4) default) ≤ 65535)) else false) (F173 w1) (condF h1 (condF h2 (condF h5 (condF h10 (condF h23 (condF h37 (condF h42 (condT h49 rfl))))))))))))))))) (fun h49 => ifb ((w1.getD (Int.toNat 0) default).toList == w3_.toList) (fun h58 => ai (fun k59 : ((w1.length : Int) == 5) = true => have _ := eq_of_beq k59; (by (omega) : 0 ≤ (1 : Int) ∧ (1 : Int) < (w1.length : Int))) (Zn ((w1.length : Int) == 5) true (w1.getD (Int.toNat 1) default) 1 7 (fun k60 => have _ := eq_of_beq k60; (by exact hpre0 _)) (ai (fun k61 : (bif ((w1.length : Int) == 5) then (decide (1 ≤ F194 (w1.getD (Int.toNat 1) default) ∧ F194 (w1.getD (Int.toNat 1) default) ≤ 7)) else false) = true => have _ := eq_of_beq (Qg k61); have _ := of_decide_eq_true (Ua k61); (by (omega) : 0 ≤ (2 : Int) ∧ (2 : Int) < (w1.length : Int))) (Zn (bif ((w1.length : Int) == 5) then (decide (1 ≤ F194 (w1.getD (Int.toNat 1) default) ∧ F194 (w1.getD (Int.toNat 1) default) ≤ 7)) else false) true (w1.getD (Int.toNat 2) default) 1 65535 (fun k62 => have _ := eq_of_beq (Qg k62); have _ := of_decide_eq_true (Ua k62); (by exact hpre0 _)) (ai (fun k63 : (bif (bif ((w1.length : Int) == 5) then (decide (1 ≤ F194 (w1.getD (Int.toNat 1) default) ∧ F194 (w1.getD (Int.toNat 1) default) ≤ 7)) else false) then (decide (1 ≤ F194 (w1.getD (Int.toNat 2) default) ∧ F194 (w1.getD (Int.toNat 2) default) ≤ 65535)) else false) = true => have _ := eq_of_beq (Qg (Qg k63)); have _ := of_decide_eq_true (Ua (Qg k63)); have _ := of_decide_eq_true (Ua k63); (by (omega) : 0 ≤ (3 : Int) ∧ (3 : Int) < (w1.length : Int))) (Qdy (bif (bif ((w1.length : Int) == 5) then (decide (1 ≤ F194 (w1.getD (Int.toNat 1) default) ∧ F194 (w1.getD (Int.toNat 1) default) ≤ 7)) else false) then (decide (1 ≤ F194 (w1.getD (Int.toNat 2) default) ∧ F194 (w1.getD (Int.toNat 2) default) ≤ 65535)) else false) true (w1.getD (Int.toNat 3) default) (fun k64 => have _ := eq_of_beq (Qg (Qg k64)); have _ := of_decide_eq_true (Ua (Qg k64)); have _ := of_decide_eq_true (Ua k64); (by exact hpre0 _)) (ai (fun k65 : (bif (bif (bif ((w1.length : Int) == 5) then (decide (1 ≤ F194 (w1.getD (Int.toNat 1) default) ∧ F194 (w1.getD (Int.toNat 1) default) ≤ 7)) else false) then (decide (1 ≤ F194 (w1.getD (Int.toNat 2) default) ∧ F194 (w1.getD (Int.toNat 2) default) ≤ 65535)) else false) then decide ((F191 (w1.getD (Int.toNat 3) default)) ≥ 0) else false) = true => have _ := eq_of_beq (Qg (Qg (Qg k65))); have _ := of_decide_eq_true (Ua (Qg (Qg k65))); have _ := of_decide_eq_true (Ua (Qg k65)); have _ := of_decide_eq_true (Ua k65); (by (omega) : 0 ≤ (4 : Int) ∧ (4 : Int) < (w1.length : Int))) (Zn (bif (bif (bif ((w1.length : Int) == 5) then (decide (1 ≤ F194 (w1.getD (Int.toNat 1) default) ∧ F194 (w1.getD (Int.toNat 1) default) ≤ 7)) else false) then (decide (1 ≤ F194 (w1.getD (Int.toNat 2) default) ∧ F194 (w1.getD (Int.toNat 2) default) ≤ 65535)) else false) then decide ((F191 (w1.getD (Int.toNat 3) default)) ≥ 0) else false) true (w1.getD (Int.toNat 4) default) 1 65535 (fun k66 => have _ := eq_of_beq (Qg (Qg (Qg k66))); have _ := of_decide_eq_true (Ua (Qg (Qg k66))); have _ := of_decide_eq_true (Ua (Qg k66)); have _ := of_decide_eq_true (Ua k66); (by exact hpre0 _)) (fiB (bif (bif (bif (bif ((w1.length : Int) == 5) then (decide (1 ≤ F194 (w1.getD (Int.toNat 1) default) ∧ F194 (w1.getD (Int.toNat 1) default) ≤ 7)) else false) then (decide (1 ≤ F194 (w1.getD (Int.toNat 2) default) ∧ F194 (w1.getD (Int.toNat 2) default) ≤ 65535)) else false) then decide ((F191 (w1.getD (Int.toNat 3) default)) ≥ 0) else false) then (decide (1 ≤ F194 (w1.getD (Int.toNat 4) default) ∧ F194 (w1.getD (Int.toNat 4) default) ≤ 65535)) else false) (F173 w1) (condF h1 (condF h2 (condF h5 (condF h10 (condF h23 (condF h37 (condF h42 (condF h49 (condT h58 rfl)))))))))))))))))) (fun h58 => fiB false (F173 w1) (condF h1 (condF h2 (condF h5 (condF h10 (condF h23 (condF h37 (condF h42 (condF h49 (condF h58 rfl)))))))))))))))))))) (by kernel_rfl)
def Yr (list : List ByteArray) (with' : ByteArray) : (ByteArray × Int) → Lp (ByteArray × Int) ByteArray := fun (out, i40) =>
 bif (decide (i40 < (list.length : Int))) then (bif (decide (i40 > 0)) then (.next (((out ++ with') ++ (list.getD (Int.toNat i40) default)), (i40 + 1))) else (.next ((out ++ (list.getD (Int.toNat i40) default)), (i40 + 1)))) else (.done (out, i40))
def F174 (list : List ByteArray) (with' : ByteArray) : ByteArray :=
 (runL (Yr list with') ((Int.toNat ((list.length : Int) - 0)) + 1) ((⟨#[]⟩ : ByteArray), 0)).fin (fun r => r) (fun (out, i40) => out)
abbrev By (list : List ByteArray) : Nat × (ByteArray × Int) := (((Int.toNat ((list.length : Int) - 0)) + 1), (w13_, 0))
abbrev Qbl (list : List ByteArray) (m39 : Nat) (out : ByteArray) (i40 : Int) : Prop := Int.toNat ((list.length : Int) - i40) < m39 ∧ (out.size : Int) ≤ i40 * 1048577 ∧ (0 : Int) ≤ i40
abbrev Qjm (list : List ByteArray) (with' : ByteArray) : Lp (ByteArray × Int) ByteArray := LpX (Yr list with') (By list)
abbrev Gt (list : List ByteArray) (with' : ByteArray) (i : Nat × (ByteArray × Int)) : Prop := LpJ (Yr list with') (By list) i (Qbl list i.1 i.2.1 i.2.2)
abbrev Qhp (list : List ByteArray) (with' : ByteArray) (i : Nat × (ByteArray × Int)) (m39 : Nat) (out : ByteArray) (i40 : Int) : Prop := LpH (Yr list with') (By list) i m39 (out, i40) (Qbl list (m39 + 1) out i40)
abbrev Qia (list : List ByteArray) (with' : ByteArray) (out : ByteArray) (i40 : Int) (out_ : ByteArray) (i40_ : Int) (K39 : Prop) : Prop := (Rf (.string with')) ∧ ((.string out : Value) = .string out_) ∧ ((.int .i64 i40 : Value) = .int .i64 i40_) ∧ (Im (.l 1 eStr list)) ∧ K39
theorem Qto (list : List ByteArray) (with' : ByteArray) (i : Nat × (ByteArray × Int)) (h : Gt list with' i) : Qhp list with' i (i.1 - 1) i.2.1 i.2.2 := ⟨hd1 h.1 h.2.1, hd3 h.2.1, hd2 h.2.1, h.2.2⟩
theorem Qik (list : List ByteArray) (with' : ByteArray) (i : Nat × (ByteArray × Int)) (m39 : Nat) (out : ByteArray) (i40 : Int) (hl : m39 < i.1) (e : runL (Yr list with') m39 (out, i40) = Qjm list with') (h : Qbl list m39 out i40) : ∃ j : Nat × (ByteArray × Int), Qia list with' out i40 j.2.1 j.2.2 (Gt list with' j ∧ j.1 < i.1) := ⟨(m39, (out, i40)), rfl, rfl, rfl, Imp.refl _, ⟨e, h⟩, hl⟩
theorem Quk (list : List ByteArray) (with' : ByteArray) (h : (w13_.size : Int) ≤ 0 * 1048577 ∧ (0 : Int) ≤ 0) : Qia list with' w13_ 0 w13_ 0 (Gt list with' (By list)) := ⟨rfl, rfl, rfl, Imp.refl _, rfl, Nat.lt_succ_self _, h⟩
def S174 (list : List ByteArray) (with' : ByteArray) : Spec := ⟨[.r (.c (.l 1 eStr list)), .r (.c (.v (.string with')))], .v (.string (F174 list with')), list.length ≤ 8 ∧ (∀ k : Nat, (list.getD k default).size ≤ 1048576) ∧ with'.size ≤ 1⟩
theorem ok174 (list : List ByteArray) (with' : ByteArray) : (S174 list with').ok Tryz.prog 174 :=
 Qj mixed (fn := Tryz.f174) (ct := .seqk [(0, 0)] .no (.seq .no (.seq (.seqk [(0, 0)] .no (.blk (.loop (ι := Nat × (ByteArray × Int)) (fun i => (fun (out : ByteArray) (i40 : Int) => (⟨[(0, some (.h 0 0)), (1, some (.v (.string with'))), (5, some (.v (.string out))), (6, some (.v (vI i40)))], [(0, some (.shr none (.l 1 eStr list)))], 1⟩ : St)) i.2.1 i.2.2) (Gt list with') (fun i => i.1) (By list) (fun i => (fun (out : ByteArray) (i40 : Int) => (.seq (.seq .no (.cond .no .no)) (.seq (.blk (.seq (.seq .no (.cond .no .no)) .no)) (.reg [(1, .bnd)])))) i.2.1 i.2.2)))) (.seq .no .no)))) Tryz.func174 (fun (hp : list.length ≤ 8 ∧ (∀ k : Nat, (list.getD k default).size ≤ 1048576) ∧ with'.size ≤ 1) => have hpre0 := hp.1; have hpre1 := hp.2.1; have hpre2 := hp.2.2; kn list fun _ => kn list fun _ => ai (Quk list with' (by refine ⟨?_, ?_⟩ <;> ((try simp only [Qc, sz0] at *); omega))) (fun (i0 : Nat × (ByteArray × Int)) (hi0 : Gt list with' i0) => (fun (m0 : Nat) (out : ByteArray) (i40 : Int) (hh0 : Qhp list with' i0 m0 out i40) => have hI0 := hh0.1; have hl0 := hh0.2.1; have _ := hh0.2.2.1; have _ := hh0.2.2.2; ifd (i40 < (list.length : Int)) (fun h2 _ => ifd (i40 > 0) (fun h3 _ => ai (by have hz := (by assumption : ∀ k : Nat, (list.getD k default).size ≤ 1048576) (Int.toNat i40); (try simp only [Qc, sz0] at *); omega : ((out.size + with'.size : Nat) : Int) ≤ 9223372036854775807) (ai (by omega : ib i40 list) (ai (by have hz := (by assumption : ∀ k : Nat, (list.getD k default).size ≤ 1048576) (Int.toNat i40); (try simp only [Qc, sz0] at *); omega : (((out ++ with').size + (list.getD (Int.toNat i40) default).size : Nat) : Int) ≤ 9223372036854775807) (ai (iok (i40 + 1) (by omega)) (Qik list with' i0 m0 ((out ++ with') ++ (list.getD (Int.toNat i40) default)) (i40 + 1) hl0 (Qd hI0 (condT h2 (condT h3 rfl))) (by refine ⟨?_, ?_, ?_⟩ <;> (have hz := (by assumption : ∀ k : Nat, (list.getD k default).size ≤ 1048576) (Int.toNat i40); (try simp only [Qc, sz0] at *); omega))))))) (fun h3 _ => ai (by omega : ib i40 list) (ai (by have hz := (by assumption : ∀ k : Nat, (list.getD k default).size ≤ 1048576) (Int.toNat i40); (try simp only [Qc, sz0] at *); omega : ((out.size + (list.getD (Int.toNat i40) default).size : Nat) : Int) ≤ 9223372036854775807) (ai (iok (i40 + 1) (by omega)) (Qik list with' i0 m0 (out ++ (list.getD (Int.toNat i40) default)) (i40 + 1) hl0 (Qd hI0 (condT h2 (condF h3 rfl))) (by refine ⟨?_, ?_, ?_⟩ <;> (have hz := (by assumption : ∀ k : Nat, (list.getD k default).size ≤ 1048576) (Int.toNat i40); (try simp only [Qc, sz0] at *); omega))))))) (fun h2 _ => have hD0_4 : Qjm list with' = Lp.done (out, i40) := Ql hI0 (condF h2 rfl); fiS out (F174 list with') (finD hD0_4 rfl))) (i0.1 - 1) i0.2.1 i0.2.2 (Qto list with' i0 hi0))) (by kernel_rfl)
def Zh (b : UInt8) : Bool := decide (48 ≤ b.toNat ∧ b.toNat ≤ 57)
def valL (acc : Nat) (l : List UInt8) : Nat := l.foldl (fun a b => a * 10 + (b.toNat - 48)) acc
theorem Tn (acc : Nat) (l : List UInt8) (b : UInt8) : valL acc (l ++ [b]) = valL acc l * 10 + (b.toNat - 48) := by
 simp [valL, List.foldl_append]
def Yo (l : List UInt8) : Bool := !l.isEmpty && l.all Zh && !(decide (l.length > 1) && (l.getD 0 0 == 48))
theorem Qis : ∀ (l : List UInt8) (acc : Nat), acc ≤ valL acc l
 | [], acc => Nat.le_refl _
 | b :: l, acc => Nat.le_trans (by omega) (Qis l (acc * 10 + (b.toNat - 48)))
theorem Wd {b : UInt8} (h : Zh b = true) : 48 ≤ b.toNat ∧ b.toNat ≤ 57 := of_decide_eq_true h
theorem Ty {b : UInt8} (h : Zh b = true) : UInt8.ofNat (48 + (b.toNat - 48)) = b := by
 have := Wd h
 rw [show 48 + (b.toNat - 48) = b.toNat by omega]
 exact UInt8.ofNat_toNat
theorem Ep {b : UInt8} {l : List UInt8} (h : Yo (b :: l) = true) (hl : l ≠ []) : 1 ≤ valL 0 (b :: l) := by
 unfold Yo at h
 simp only [Bool.and_eq_true, Bool.not_eq_true', List.all_cons] at h
 obtain ⟨⟨_, hb, _⟩, h0⟩ := h
 have hd := Wd hb
 have hlen : decide ((b :: l).length > 1) = true := decide_eq_true (by
  cases l with
  | nil => exact absurd rfl hl
  | cons a l => simp)
 rw [hlen, Bool.true_and] at h0
 have hne : b ≠ 48 := by
  have : (b == 48) = false := h0
  exact beq_eq_false_iff_ne.1 this
 have h48 : b.toNat ≠ 48 := fun e => hne (UInt8.toNat_inj.1 e)
 refine Nat.le_trans ?_ (Qis l (0 * 10 + (b.toNat - 48)))
 omega
theorem Qku {l : List UInt8} {b : UInt8} (hl : l ≠ []) (h : Yo (l ++ [b]) = true) : Yo l = true := by
 unfold Yo at h ⊢
 simp only [Bool.and_eq_true, Bool.not_eq_true', List.all_append] at h ⊢
 obtain ⟨⟨_, ha, _⟩, h0⟩ := h
 cases l with
 | nil => exact absurd rfl hl
 | cons a l =>
  refine ⟨⟨rfl, ha⟩, ?_⟩
  have hlen : decide ((a :: l ++ [b]).length > 1) = true := decide_eq_true (by simp)
  rw [hlen, Bool.true_and] at h0
  have : (a == 48) = false := h0
  have e : ((a :: l).getD 0 0 == (48 : UInt8)) = false := this
  rw [e, Bool.and_false]
theorem Qiq : ∀ (n : Nat) (l : List UInt8), l.length = n → Yo l = true → Lib.decDigits (valL 0 l) = l
 | 0, l, hn, h => by
  rw [List.length_eq_zero_iff.1 hn] at h; cases h
 | n + 1, l, hn, h => by
  have hne : l ≠ [] := fun e => by rw [e] at hn; cases hn
  obtain ⟨i, b, rfl⟩ : ∃ i b, l = i ++ [b] := ⟨l.dropLast, l.getLast hne, (List.dropLast_concat_getLast hne).symm⟩
  have hdb : Zh b = true := by
   unfold Yo at h
   simp only [Bool.and_eq_true, List.all_append, List.all_cons] at h
   exact h.1.2.2.1
  have hb := Wd hdb
  rw [Tn]
  by_cases hi : i = []
  ·subst hi
   have e : valL 0 ([] : List UInt8) * 10 + (b.toNat - 48) = b.toNat - 48 := by simp [valL]
   rw [e, Lib.decDigits_one (by omega), Ty hdb]; rfl
  ·have hin := Qku hi h
   have hpos : 1 ≤ valL 0 i * 10 + (b.toNat - 48) := by
    cases i with
    | nil => exact absurd rfl hi
    | cons a i =>
     have := Ep (b := a) (l := i ++ [b]) h (by simp)
     have e := Tn 0 (a :: i) b
     rw [List.cons_append] at e
     omega
   have hip : 1 ≤ valL 0 i := by
    cases i with
    | nil => exact absurd rfl hi
    | cons a i =>
     by_cases hi2 : i = []
     ·subst hi2
      have h0 := h
      unfold Yo at h0
      simp only [Bool.and_eq_true, Bool.not_eq_true', List.all_append, List.all_cons] at h0
      have hd := Wd h0.1.2.1.1
      have h1 : (a == 48) = false := by
       have := h0.2
       rw [show decide (([a] ++ [b]).length > 1) = true from rfl, Bool.true_and] at this
       exact this
      have h48 : a.toNat ≠ 48 := fun e => beq_eq_false_iff_ne.1 h1 (UInt8.toNat_inj.1 e)
      simp only [valL, List.foldl_cons, List.foldl_nil]
      omega
     ·exact Ep hin hi2
   rw [Lib.decDigits, dif_neg (by omega)]
   have e1 : (valL 0 i * 10 + (b.toNat - 48)) / 10 = valL 0 i := by omega
   have e2 : (valL 0 i * 10 + (b.toNat - 48)) % 10 = b.toNat - 48 := by omega
   have hlen : i.length = n := by
    rw [List.length_append] at hn
    simpa using hn
   rw [e1, e2, Qiq n i hlen hin, Ty hdb]
theorem Qho (u : Nat) (h : u < 10) : Zh (UInt8.ofNat (48 + u)) = true := by
 unfold Zh
 rw [UInt8.toNat_ofNat']
 exact decide_eq_true (by omega)
theorem Tw : ∀ (n u : Nat), u ≤ n → Lib.decDigits u ≠ [] ∧ (Lib.decDigits u).all Zh = true ∧ (1 ≤ u → (Lib.decDigits u).getD 0 0 ≠ 48)
 | n, u, hu => by
  by_cases h : u < 10
  ·rw [Lib.decDigits_one h]
   refine ⟨by simp, by rw [List.all_cons, Qho u h]; rfl, fun h1 e => ?_⟩
   have e1 : UInt8.ofNat (48 + u) = 48 := e
   have := congrArg UInt8.toNat e1
   rw [UInt8.toNat_ofNat'] at this
   have h48 : (48 : UInt8).toNat = 48 := rfl
   omega
  ·cases n with
   | zero => omega
   | succ n =>
    obtain ⟨h1, h2, h3⟩ := Tw n (u / 10) (by omega)
    rw [Lib.decDigits, dif_neg h]
    refine ⟨by simp, by rw [List.all_append, h2, List.all_cons, Qho _ (by omega)]; rfl, fun _ => ?_⟩
    cases hd : Lib.decDigits (u / 10) with
    | nil => exact absurd hd h1
    | cons a l =>
     rw [hd] at h3
     exact h3 (by omega)
theorem Qrl (u : Nat) : Yo (Lib.decDigits u) = true := by
 obtain ⟨h1, h2, h3⟩ := Tw u u (Nat.le_refl _)
 unfold Yo
 have e1 : (Lib.decDigits u).isEmpty = false := by
  cases hd : Lib.decDigits u with
  | nil => exact absurd hd h1
  | cons a l => rfl
 rw [e1, h2]
 by_cases hu : 1 ≤ u
 ·have e : ((Lib.decDigits u).getD 0 0 == (48 : UInt8)) = false := beq_eq_false_iff_ne.2 (h3 hu)
  rw [e, Bool.and_false]; rfl
 ·have e : Lib.decDigits u = [UInt8.ofNat (48 + u)] := Lib.decDigits_one (by omega)
  rw [e]; rfl
theorem Ti : ∀ (l : List UInt8) (acc : Nat), l.all Zh = true → (acc + 1) * 10 ^ l.length ≤ 1000000000000000000 → Lib.parseUint10 acc l = .ok (valL acc l)
 | [], acc, _, _ => rfl
 | b :: l, acc, h, hb => by
  rw [List.all_cons, Bool.and_eq_true] at h
  have hd := Wd h.1
  have hp : 1 ≤ 10 ^ l.length := Nat.one_le_pow _ _ (by omega)
  have e : (acc + 1) * 10 ^ (b :: l).length = ((acc + 1) * 10) * 10 ^ l.length := by
   rw [List.length_cons, Nat.pow_succ, Nat.mul_comm (10 ^ l.length) 10, Nat.mul_assoc]
  rw [e] at hb
  have h1 : (acc + 1) * 10 ≤ 1000000000000000000 := Nat.le_trans (Nat.le_mul_of_pos_right _ hp) hb
  rw [Lib.parseUint10, if_pos hd, if_neg (by omega), if_neg (by omega)]
  exact Ti l _ h.2 (Nat.le_trans (Nat.mul_le_mul_right _ (by omega)) hb)
theorem Qbd : ∀ (l : List UInt8) (acc : Nat), l.all Zh = true → valL acc l < (acc + 1) * 10 ^ l.length
 | [], acc, _ => by simp [valL]
 | b :: l, acc, h => by
  rw [List.all_cons, Bool.and_eq_true] at h
  have hd := Wd h.1
  have e : (acc + 1) * 10 ^ (b :: l).length = ((acc + 1) * 10) * 10 ^ l.length := by
   rw [List.length_cons, Nat.pow_succ, Nat.mul_comm (10 ^ l.length) 10, Nat.mul_assoc]
  rw [e]
  exact Nat.lt_of_lt_of_le (Qbd l (acc * 10 + (b.toNat - 48)) h.2) (Nat.mul_le_mul_right _ (by omega))
def num6 (l : List UInt8) : Int := bif Yo l && decide (l.length ≤ 6) then (valL 0 l : Int) else -1
theorem Qbg (v : Int) (h : 0 ≤ v) : Lib.itoa v = Lib.decDigits v.toNat := by
 unfold Lib.itoa
 rw [if_neg (by omega)]
theorem Hh (s : ByteArray) (h : s.size ≤ 6) : decN s = num6 s.data.toList := by
 have hl : s.data.toList.length = s.size := Array.length_toList
 unfold num6
 rw [decide_eq_true (show s.data.toList.length ≤ 6 by omega), Bool.and_true]
 cases hn : Yo s.data.toList with
 | true =>
  have hd := Qiq _ _ rfl hn
  have hn2 := hn
  unfold Yo at hn2
  simp only [Bool.and_eq_true] at hn2
  have hall := hn2.1.2
  have hp := Ti s.data.toList 0 hall (by
   have : 10 ^ s.data.toList.length ≤ 10 ^ 6 := Nat.pow_le_pow_right (by omega) (by omega)
   omega)
  unfold decN
  cases hs : s.data.toList with
  | nil => rw [hs] at hn; cases hn
  | cons b l =>
   rw [hs] at hall hp hd
   have hb := Wd (List.all_eq_true.1 hall b List.mem_cons_self)
   have hlt := Lib.parseUint10_lt _ 0 _ (by omega) hp
   have hsmall : valL 0 (b :: l) < 9223372036854775808 := by
    have h1 := Qbd (b :: l) 0 hall
    have h2 : 10 ^ (b :: l).length ≤ 10 ^ 6 := Nat.pow_le_pow_right (by omega) (by rw [← hs]; omega)
    omega
   have ea : Lib.atoiAll (b :: l) = .ok (valL 0 (b :: l) : Int) := by
    unfold Lib.atoiAll
    simp only [if_neg (show ¬ (b.toNat = 43 ∨ b.toNat = 45) by omega), Lib.parseMag, if_neg (show ¬ (b :: l = []) by simp), hp]
    rw [if_neg (by omega), if_neg (by omega), if_neg (by omega)]
   rw [ea]
   have ei : Lib.itoa (valL 0 (b :: l) : Int) = b :: l := by
    rw [Qbg _ (by omega), Int.toNat_natCast, hd]
   simp only [ei]
   rw [decide_eq_true (by omega)]
   simp
 | false =>
  unfold decN
  cases ha : Lib.atoiAll s.data.toList with
  | ok v =>
   by_cases h0 : 0 ≤ v
   ·have e : (Lib.itoa v == s.data.toList) = false := by
     rw [beq_eq_false_iff_ne]
     intro e
     rw [Qbg v h0] at e
     rw [← e, Qrl] at hn
     cases hn
    simp only [e, Bool.and_false]; rfl
   ·simp only [decide_eq_false h0, Bool.false_and]; rfl
  | _ => rfl
theorem u8sub (b : UInt8) (h : Zh b = true) : IntKind.i64.wrap (IntKind.u8.wrap ((b.toNat : Int) - 48)) = ((b.toNat - 48 : Nat) : Int) := by
 have hd := Wd h
 have e : IntKind.u8.wrap ((b.toNat : Int) - 48) = ((b.toNat : Int) - 48) % 256 := by
  simp [IntKind.wrap, IntKind.signed, IntKind.bits]
 rw [e, Xa (by omega) (by omega)]
 omega
theorem Qqm (b : UInt8) : decide ((48 : Int) ≤ (b.toNat : Int) ∧ (b.toNat : Int) ≤ 57) = Zh b := by
 unfold Zh
 congr 1
 exact propext ⟨fun h => by omega, fun h => by omega⟩
theorem Qri (s : ByteArray) (a i : Nat) (hi : i < s.size) (ha : a ≤ 100000000) (b : UInt8) (hb : s.data.toList.getD i 0 = b) : Zx s ((a : Int), (i : Int)) =
  if Zh b = false then .ret (-1) else .next (((a * 10 + (b.toNat - 48) : Nat) : Int), ((i + 1 : Nat) : Int)) := by
 simp only [Zx, decide_eq_true (show (i : Int) < (s.size : Int) by omega), cond_true, Int.toNat_natCast, Yt, hb, Qam, Qqm]
 cases hd : Zh b with
 | false => rfl
 | true =>
  have h1 := Wd hd
  rw [u8sub b hd, Xa (n := (a : Int) * 10) (by omega) (by omega), Xa (by omega) (by omega)]
  simp only [Bool.not_true, cond_false, Bool.true_eq_false, if_false]
  congr 2
theorem Qdw (s : ByteArray) : ∀ (m i a : Nat), i + m = s.size → (a + 1) * 10 ^ m ≤ 10000000 → ∀ fuel, m < fuel →
  (runL (Zx s) fuel ((a : Int), (i : Int))).fin (fun r => r) (fun (n, i40) => n) = bif (s.data.toList.drop i).all Zh then (valL a (s.data.toList.drop i) : Int) else -1
 | m, i, a, _, _, 0, hf => absurd hf (Nat.not_lt_zero _)
 | 0, i, a, h, _, fuel + 1, hf => by
  have hl : s.data.toList.length = s.size := Array.length_toList
  have hst : Zx s ((a : Int), (i : Int)) = .done ((a : Int), (i : Int)) := by
   simp only [Zx, decide_eq_false (show ¬ (i : Int) < (s.size : Int) by omega), cond_false]
  rw [Zp _ hst, List.drop_of_length_le (by omega)]
  rfl
 | m + 1, i, a, h, ha, fuel + 1, hf => by
  have hl : s.data.toList.length = s.size := Array.length_toList
  have hb : s.data.toList.drop i = s.data.toList.getD i 0 :: s.data.toList.drop (i + 1) := by
   rw [List.drop_eq_getElem_cons (by omega), List.getD_eq_getElem?_getD, List.getElem?_eq_getElem (by omega)]; rfl
  have hp : 1 ≤ 10 ^ m := Nat.one_le_pow _ _ (by omega)
  have e : (a + 1) * 10 ^ (m + 1) = ((a + 1) * 10) * 10 ^ m := by
   rw [Nat.pow_succ, Nat.mul_comm (10 ^ m) 10, Nat.mul_assoc]
  rw [e] at ha
  have h1 : (a + 1) * 10 ≤ 10000000 := Nat.le_trans (Nat.le_mul_of_pos_right _ hp) ha
  have hst := Qri s a i (by omega) (by omega) _ rfl
  rw [hb, List.all_cons]
  generalize s.data.toList.getD i 0 = b at hst ⊢
  by_cases hd : Zh b = false
  ·rw [if_pos hd] at hst
   rw [Kz _ hst, hd]; rfl
  ·rw [if_neg hd] at hst
   have hd' : Zh b = true := by simpa using hd
   have hg := Wd hd'
   rw [Uo _ hst, Qdw s m (i + 1) _ (by omega) (Nat.le_trans (Nat.mul_le_mul_right _ (by omega)) ha) fuel (by omega), hd', Bool.true_and]
   rfl
theorem Ba (s : ByteArray) : F194 s = num6 s.data.toList := by
 have hl : s.data.toList.length = s.size := Array.length_toList
 unfold F194 num6
 by_cases h1 : (1 : Int) ≤ (s.size : Int) ∧ (s.size : Int) ≤ 6
 ·rw [decide_eq_true h1, decide_eq_true (show s.data.toList.length ≤ 6 by omega), Bool.and_true, Bool.not_true, cond_false, Yt]
  have hp : (0 + 1) * 10 ^ s.size ≤ 10000000 := by
   have : 10 ^ s.size ≤ 10 ^ 6 := Nat.pow_le_pow_right (by omega) (by omega)
   omega
  have hlp := Qdw s s.size 0 0 (by omega) hp (Int.toNat ((s.size : Int) - 0) + 1) (by omega)
  rw [List.drop_zero] at hlp
  have hne : s.data.toList.isEmpty = false := by
   cases hs : s.data.toList with
   | nil => rw [hs] at hl; simp only [List.length_nil] at hl; omega
   | cons b l => rfl
  have e48 := Qij (s.data.toList.getD 0 0) 48
  have h48 : ((48 : UInt8).toNat : Int) = 48 := rfl
  rw [h48] at e48
  have e0 : (Int.toNat 0) = 0 := rfl
  rw [e0, e48, Yo, hne]
  have eq : (s.data.toList.getD 0 0 == (48 : UInt8)) = decide (s.data.toList.getD 0 0 = 48) := by
   cases h : decide (s.data.toList.getD 0 0 = 48) with
   | true => exact beq_iff_eq.2 (of_decide_eq_true h)
   | false => exact beq_eq_false_iff_ne.2 (of_decide_eq_false h)
  rw [eq]
  have eg : decide ((s.size : Int) > 1) = decide (s.data.toList.length > 1) := by
   by_cases hg : s.size > 1
   ·rw [decide_eq_true (by omega), decide_eq_true (by omega)]
   ·rw [decide_eq_false (by omega), decide_eq_false (by omega)]
  rw [eg]
  refine (congrArg (fun z => bif (bif decide (s.data.toList.length > 1) then decide (s.data.toList.getD 0 0 = 48) else false) then (-1 : Int) else z) hlp).trans ?_
  cases decide (s.data.toList.length > 1) <;> cases decide (s.data.toList.getD 0 0 = 48) <;> cases s.data.toList.all Zh <;> rfl
 ·rw [decide_eq_false h1, Bool.not_false, cond_true, cond_true]
  by_cases h6 : s.data.toList.length ≤ 6
  ·have hz : s.data.toList = [] := List.length_eq_zero_iff.1 (by omega)
   rw [hz]; rfl
  ·rw [decide_eq_false h6, Bool.and_false]; rfl
theorem Qjo : ∀ (k u : Nat), u < 10 ^ (k + 1) → (Lib.decDigits u).length ≤ k + 1
 | 0, u, h => by
  rw [Lib.decDigits_one (by simpa using h)]; exact Nat.le_refl _
 | k + 1, u, h => by
  by_cases hu : u < 10
  ·rw [Lib.decDigits_one hu]; exact Nat.succ_le_succ (Nat.zero_le _)
  ·have h1 : u / 10 < 10 ^ (k + 1) := by
    rw [Nat.pow_succ] at h
    exact Nat.div_lt_of_lt_mul (by rw [Nat.mul_comm]; exact h)
   rw [Lib.decDigits, dif_neg hu, List.length_append]
   exact Nat.succ_le_succ (Qjo k _ h1)
theorem Xx (s : ByteArray) : decN s = -1 ∨ ∃ u : Nat, decN s = (u : Int) ∧ Lib.decDigits u = s.data.toList := by
 unfold decN
 cases ha : Lib.atoiAll s.data.toList with
 | ok v =>
  by_cases h0 : 0 ≤ v
  ·cases he : (Lib.itoa v == s.data.toList) with
   | true =>
    refine .inr ⟨v.toNat, ?_, ?_⟩
    ·simp only [decide_eq_true h0, he, Bool.and_true, cond_true]
     omega
    ·rw [← Qbg v h0]; exact beq_iff_eq.1 he
   | false => refine .inl ?_; simp only [he, Bool.and_false]; rfl
  ·refine .inl ?_; simp only [decide_eq_false h0, Bool.false_and]; rfl
 | _ => exact .inl rfl
theorem Qdf (s : ByteArray) (h : decN s ≤ 999999) : decN s = num6 s.data.toList := by
 have hl : s.data.toList.length = s.size := Array.length_toList
 by_cases hs : s.size ≤ 6
 ·exact Hh s hs
 ·have e : num6 s.data.toList = -1 := by
   unfold num6
   rw [decide_eq_false (show ¬ s.data.toList.length ≤ 6 by omega), Bool.and_false]; rfl
  rw [e]
  rcases Xx s with h1 | ⟨u, h1, h2⟩
  ·exact h1
  ·have h3 := Qjo 5 u (by rw [h1] at h; have : 10 ^ (5 + 1) = 1000000 := rfl; omega)
   rw [h2] at h3
   omega
theorem Qid (l : List UInt8) : num6 l ≤ 999999 := by
 unfold num6
 cases h : Yo l && decide (l.length ≤ 6) with
 | false => rw [cond_false]; omega
 | true =>
  rw [cond_true]
  rw [Bool.and_eq_true] at h
  have hn := h.1
  unfold Yo at hn
  simp only [Bool.and_eq_true] at hn
  have h1 := Qbd l 0 hn.1.2
  have h2 : 10 ^ l.length ≤ 10 ^ 6 := Nat.pow_le_pow_right (by omega) (of_decide_eq_true h.2)
  omega
def Ut (v : Int) : Bool := decide (0 ≤ v ∧ v ≤ 255)
def addr2 : List (List UInt8) → Int
 | [a, b] => bif Ut (num6 a) && Ut (num6 b) then 256 * num6 a + num6 b else -1
 | _ => -1
def Ym (l : List UInt8) : Int := addr2 (Qp 46 l)
theorem Ez (x y : Int) (hx : Ut x = true) (hy : Ut y = true) : IntKind.i64.wrap (IntKind.i64.wrap (256 * x) + y) = 256 * x + y := by
 have h1 := of_decide_eq_true hx
 have h2 := of_decide_eq_true hy
 rw [Xa (n := 256 * x) (by omega) (by omega), Xa (by omega) (by omega)]
theorem Lo (s : ByteArray) : F191 s = Ym s.data.toList := by
 have hc : F32 s 46 = (Qp 46 s.data.toList).map mkB := Ji s 46
 unfold F191 Ym
 rw [hc]
 simp only [Ba]
 cases Qp 46 s.data.toList with
 | nil => rfl
 | cons a t => cases t with
  | nil => rfl
  | cons b t => cases t with
   | nil =>
    show (bif (bif (!(Ut (num6 a))) then true else (!(Ut (num6 b)))) then (-1) else (IntKind.i64.wrap ((IntKind.i64.wrap (256 * num6 a)) + num6 b))) = bif Ut (num6 a) && Ut (num6 b) then 256 * num6 a + num6 b else -1
    cases ha : Ut (num6 a) <;> cases hb : Ut (num6 b) <;> try rfl
    exact Ez _ _ ha hb
   | cons c t =>
    have : (((List.map mkB (a :: b :: c :: t)).length : Int) != 2) = true := by
     rw [bne_iff_ne]
     simp only [List.map_cons, List.length_cons, List.length_map]
     omega
    rw [this]; rfl
theorem Qcc (l : List UInt8) : -1 ≤ Ym l ∧ Ym l ≤ 65535 := by
 unfold Ym
 cases Qp 46 l with
 | nil => exact ⟨Int.le_refl _, (show (-1 : Int) ≤ 65535 by omega)⟩
 | cons a t => cases t with
  | nil => exact ⟨Int.le_refl _, (show (-1 : Int) ≤ 65535 by omega)⟩
  | cons b t => cases t with
   | nil =>
    show -1 ≤ (bif Ut (num6 a) && Ut (num6 b) then 256 * num6 a + num6 b else -1) ∧ (bif Ut (num6 a) && Ut (num6 b) then 256 * num6 a + num6 b else -1) ≤ 65535
    cases h : Ut (num6 a) && Ut (num6 b) with
    | false => simp only [cond_false]; omega
    | true =>
     rw [Bool.and_eq_true] at h
     have h1 := of_decide_eq_true h.1
     have h2 := of_decide_eq_true h.2
     simp only [cond_true]; omega
   | cons c t => exact ⟨Int.le_refl _, (show (-1 : Int) ≤ 65535 by omega)⟩
end Go.Proofs.YthjaknclldmheaaGreatDoor
