/- A part of the proof of FnExactConfDiff. Texts put together: MS, MT, MY, MYB, MP, MX, LY, DEC, VC0, PS1, VC1, PS2, VC2, PS3, PS4, VF0, PF0, VF1. -/
import Derived.Shelf.Strings.Cut
import Derived.Shelf.Strings.Split
import Derived.Shelf.Strings.OnBuilder
import Derived.Shelf.Slices.In.SortAlone
import Derived.Shelf.Slices.In.SortNone
import Derived.Sort.EveryDepth
import Derived.Test.YtmoodkjkecjeaacGreatDoorRows
import Derived.Shelf.LaysM
import Derived.Shelf.Strconv.AtoiAll
import Derived.Shelf.Strconv.Itoa3
import Derived.WalkKit
import Derived.BigCall
import Derived.BigGuard
import Derived.Lib.Walk
import Derived.Lib.Hide
import Derived.Lib.IndexBytes
import Derived.Lib.SplitLaws
import Derived.Lib.CutLaws
import Derived.Test.YtmoodkjkecjeaacGreatDoorZC40B
namespace Go.Proofs.YtmoodkjkecjeaacGreatDoor
open Go.RowKit
set_option maxRecDepth 100000
set_option linter.unusedVariables false
set_option linter.unusedSimpArgs false
theorem n0 (n : Nat) : Int.toNat ((n : Int) - 0) = n := by simp
theorem nn (n : Nat) : Int.toNat (n : Int) = n := by simp
theorem ltD {n : Nat} {k : Nat} (h : k < n) : decide ((k : Int) < (n : Int)) = true := by simp; omega
theorem geD {n : Nat} : decide ((n : Int) < (n : Int)) = false := by simp
theorem Jf {α : Type} [Inhabited α] (x : α) (xs : List α) (k : Nat) : (x :: xs).getD (k + 1) default = xs.getD k default := rfl
theorem Qgb {α : Type} [Inhabited α] (xs : List α) {k : Nat} (h : xs.length ≤ k) : xs.getD k default = default := by
 rw [List.getD_eq_getElem?_getD, List.getElem?_eq_none h]; rfl
theorem Ja {α : Type} [Inhabited α] (xs : List α) {k : Nat} (h : k < xs.length) : xs.getD k default = xs[k] := by
 rw [List.getD_eq_getElem?_getD, List.getElem?_eq_getElem h]; rfl
theorem Qlm {α : Type} [Inhabited α] (xs : List α) {k : Nat} (h : k < xs.length) : xs.getD k default ∈ xs := by
 rw [Ja xs h]; exact List.getElem_mem h
theorem Nf {α : Type} [Inhabited α] {xs : List α} {x : α} (h : x ∈ xs) : ∃ k, k < xs.length ∧ xs.getD k default = x := by
 obtain ⟨k, hk, e⟩ := List.mem_iff_getElem.1 h
 exact ⟨k, hk, by rw [Ja xs hk]; exact e⟩
theorem Ps {α : Type} [Inhabited α] {s a : List α} {k : Nat} (hl : s.length = a.length) (h : s.take k = a.take k) (hk : k < a.length) : (s.set k (a.getD k default)).take (k + 1) = a.take (k + 1) := by
 rw [List.take_add_one, List.take_add_one, List.take_set_of_le (Nat.le_refl _), h, List.getElem?_set_self (by omega), List.getD_eq_getElem?_getD, List.getElem?_eq_getElem hk]
 rfl
theorem Ti {α : Type} [Inhabited α] {a : List α} {k : Nat} (hk : k < a.length) : a.take (k + 1) = a.take k ++ [a.getD k default] := by
 rw [List.take_add_one, List.getD_eq_getElem?_getD, List.getElem?_eq_getElem hk]
 rfl
theorem Hv {α : Type} [Inhabited α] {a b : List α} (hl : a.length = b.length) (h : ∀ k, k < a.length → a.getD k default = b.getD k default) : a = b := by
 refine List.ext_getElem hl fun k h1 h2 => ?_
 have := h k h1
 rwa [Ja a h1, Ja b h2] at this
theorem Qru {α : Type} [Inhabited α] (f : α → α) (hf : ∀ x, f x = x) (a init : List α) (hi : init.length = a.length) (step : Int × List α → Lp (Int × List α) (List α))
  (hs : ∀ i xs, step (i, xs) = bif decide (i < (a.length : Int)) then .next (i + 1, xs.set (Int.toNat i) (f (a.getD (Int.toNat i) default))) else .done (i, xs)) :
  (runL step ((Int.toNat ((a.length : Int) - 0)) + 1) (0, init)).fin (fun r => r) (fun s => s.2) = a := by
 have h := Yd (step := step) (fun (k : Nat) (s : List α) => ((k : Int), s)) a.length (fun k s => s.length = a.length ∧ s.take k = a.take k) (fun _ => False)
  (fun k s hk ⟨h1, h2⟩ => .inl ⟨s.set k (a.getD k default), by simp [hs, hf, hk], by simp [h1], Ps h1 h2 hk⟩)
  (fun s _ => by simp [hs]) a.length 0 init (by omega) ⟨hi, by simp⟩ (a.length + 1) (Nat.lt_succ_self _)
 rw [n0]
 rcases h with ⟨s', h, h1, h2⟩ | ⟨r, _, h⟩
 ·have h : runL step (a.length + 1) (0, init) = .done ((a.length : Int), s') := h
  rw [h]
  show s' = a
  rw [List.take_of_length_le (by omega), List.take_of_length_le (by omega)] at h2
  exact h2
 ·exact h.elim
theorem Qqi {α : Type} [Inhabited α] [DecidableEq α] (e : α → α → Bool) (he : ∀ x y, e x y = decide (x = y)) (a b : List α) (step : Int → Lp Int Bool)
  (hs : ∀ i, step i = bif (decide (i < (a.length : Int))) then (bif (!(e (a.getD (Int.toNat i) default) (b.getD (Int.toNat i) default))) then (.ret false) else (.next (i + 1))) else (.done i)) :
  (bif ((a.length : Int) != (b.length : Int)) then false else ((runL step ((Int.toNat ((a.length : Int) - 0)) + 1) 0).fin (fun r => r) (fun _ => true))) = decide (a = b) := by
 by_cases hl : a.length = b.length
 ·have hc : ((a.length : Int) != (b.length : Int)) = false := by simp [hl]
  rw [hc, cond_false]
  have h := Yd (step := step) (fun (k : Nat) (_ : Unit) => (k : Int)) a.length (fun k _ => ∀ j, j < k → a.getD j default = b.getD j default) (fun r => r = false ∧ a ≠ b)
   (fun k _ hk hI => by
    have hc := ltD hk
    by_cases hx : a.getD k default = b.getD k default
    ·refine .inl ⟨(), ?_, fun j hj => ?_⟩
     ·rw [hs, he, Int.toNat_natCast, hc, hx, decide_eq_true rfl]
      rfl
     ·rcases Nat.lt_succ_iff_lt_or_eq.1 hj with h | h
      ·exact hI j h
      ·exact h ▸ hx
    ·refine .inr ⟨false, ?_, rfl, fun e => hx (e ▸ rfl)⟩
     rw [hs, he, Int.toNat_natCast, hc, decide_eq_false hx]
     rfl)
   (fun s _ => by rw [hs]; simp) a.length 0 () (by omega) (fun j hj => by omega) (a.length + 1) (Nat.lt_succ_self _)
  rw [n0]
  rcases h with ⟨_, h, hI⟩ | ⟨r, h, rfl, hne⟩
  ·have h : runL step (a.length + 1) 0 = .done (a.length : Int) := h
   rw [h]
   have := Hv hl hI
   simp [Lp.fin, this]
  ·have h : runL step (a.length + 1) 0 = .ret false := h
   rw [h]
   simp [Lp.fin, hne]
 ·have hc : ((a.length : Int) != (b.length : Int)) = true := by simp; omega
  rw [hc, cond_true]
  symm
  simp only [decide_eq_false_iff_not]
  exact fun e => hl (e ▸ rfl)
def Mk {α : Type} (m : α → Int → Int × α) (h : α → Int → Int) (L : α → Nat) : Prop :=
 ∀ x k, 0 ≤ k → k + (L x : Int) < 9223372036854775807 → (m x k).1 = k + L x ∧ h (m x k).2 k = k + L x
def sumL {α : Type} (L : α → Nat) (xs : List α) : Nat := (xs.map L).foldr (· + ·) 0
theorem Bz {α : Type} (L : α → Nat) : sumL L [] = 0 := rfl
theorem Wt {α : Type} (L : α → Nat) (x : α) (xs : List α) : sumL L (x :: xs) = L x + sumL L xs := rfl
theorem Eb {α : Type} [Inhabited α] (L : α → Nat) (xs : List α) {k : Nat} (hk : k < xs.length) : sumL L xs = sumL L (xs.take k) + L (xs.getD k default) + sumL L (xs.drop (k + 1)) := by
 induction xs generalizing k with
 | nil => simp at hk
 | cons x xs ih =>
  cases k with
  | zero => simp [Wt, Bz]
  | succ k =>
   have := ih (k := k) (by simpa using hk)
   simp only [List.take_succ_cons, Wt, Jf, List.drop_succ_cons]
   omega
theorem Jl {α : Type} [Inhabited α] (L : α → Nat) (xs : List α) {k : Nat} (hk : k < xs.length) : sumL L (xs.take (k + 1)) = sumL L (xs.take k) + L (xs.getD k default) := by
 induction xs generalizing k with
 | nil => simp at hk
 | cons x xs ih =>
  cases k with
  | zero => simp [Wt, Bz]
  | succ k =>
   have := ih (k := k) (by simpa using hk)
   simp only [List.take_succ_cons, Wt, Jf]
   omega
theorem Qjd {α : Type} [Inhabited α] (m : α → Int → Int × α) (h : α → Int → Int) (L : α → Nat) (hm : Mk m h L) (F : List α → Int → Int × List α) (H : List α → Int → Int) (st : List α → Int → Int × Int × List α → Lp (Int × Int × List α) (Int × List α)) (sh : List α → Int → Int × Int → Lp (Int × Int) Int)
  (hF : ∀ a k, F a k = (runL (st a k) ((Int.toNat ((a.length : Int) - 0)) + 1) (k, 0, a)).fin (fun r => r) (fun s => (s.1, s.2.2)))
  (hst : ∀ a k0 k i xs, st a k0 (k, i, xs) = bif decide (i < (xs.length : Int)) then .next ((m (xs.getD (Int.toNat i) default) k).1, i + 1, xs.set (Int.toNat i) (m (xs.getD (Int.toNat i) default) k).2) else .done (k, i, xs))
  (hH : ∀ a k, H a k = (runL (sh a k) ((Int.toNat ((a.length : Int) - 0)) + 1) (k, 0)).fin (fun r => r) (fun s => s.1))
  (hsh : ∀ a k0 k i, i < (a.length : Int) → 0 ≤ i → 0 ≤ h (a.getD (Int.toNat i) default) k → sh a k0 (k, i) = .next (h (a.getD (Int.toNat i) default) k, i + 1))
  (hsd : ∀ a k0 k, sh a k0 (k, (a.length : Int)) = .done (k, (a.length : Int))) : Mk F H (sumL L) := by
 intro a k hk0 hk
 have hh := Yd (step := st a k) (fun (i : Nat) (s : Int × List α) => (s.1, (i : Int), s.2)) a.length
  (fun i s => s.2.length = a.length ∧ s.1 = k + sumL L (a.take i) ∧ (∀ j, i ≤ j → s.2.getD j default = a.getD j default) ∧ ∀ j, j < i → s.2.getD j default = (m (a.getD j default) (k + sumL L (a.take j))).2) (fun _ => False)
  (fun i s hi ⟨h1, h2, h3, h4⟩ => by
   obtain ⟨k1, xs⟩ := s
   simp only at h1 h2 h3 h4
   refine .inl ⟨((m (xs.getD i default) k1).1, xs.set i (m (xs.getD i default) k1).2), ?_, by simp [h1], ?_, fun j hj => ?_, fun j hj => ?_⟩
   ·rw [hst, h1, ltD hi, Int.toNat_natCast]; rfl
   ·simp only
    rw [h3 i (Nat.le_refl _), h2, Jl L a hi]
    have hs := Eb L a hi
    rw [(hm (a.getD i default) (k + sumL L (a.take i)) (by omega) (by omega)).1]
    omega
   ·simp only
    rw [List.getD_eq_getElem?_getD, List.getElem?_set_ne (by omega), ← List.getD_eq_getElem?_getD]
    exact h3 j (by omega)
   ·simp only
    rcases Nat.lt_succ_iff_lt_or_eq.1 hj with hj | rfl
    ·rw [List.getD_eq_getElem?_getD, List.getElem?_set_ne (by omega), ← List.getD_eq_getElem?_getD]
     exact h4 j hj
    ·rw [List.getD_eq_getElem?_getD, List.getElem?_set_self (by omega), h3 j (Nat.le_refl _), h2]; rfl)
  (fun s ⟨h1, _⟩ => by rw [hst, h1, geD]; rfl) a.length 0 (k, a) (by omega) ⟨rfl, by simp [Bz], fun _ _ => rfl, fun j hj => by omega⟩ (a.length + 1) (Nat.lt_succ_self _)
 rcases hh with ⟨⟨k1, xs⟩, hh, h1, h2, h3, h4⟩ | ⟨_, _, hh⟩
 case inr => exact hh.elim
 simp only at h1 h2 h3 h4
 have hh : runL (st a k) (a.length + 1) (k, 0, a) = .done (k1, (a.length : Int), xs) := hh
 have eF : F a k = (k1, xs) := by rw [hF, n0, hh]; rfl
 rw [List.take_of_length_le (Nat.le_refl _)] at h2
 rw [eF]
 refine ⟨h2, ?_⟩
 simp only
 have h5 := Yd (step := sh xs k) (fun (i : Nat) (s : Int) => (s, (i : Int))) xs.length (fun i s => s = k + sumL L (a.take i)) (fun _ => False)
  (fun i s hi h2 => by
   have hi' : i < a.length := by omega
   have hs := Eb L a hi'
   have hr := (hm (a.getD i default) (k + sumL L (a.take i)) (by omega) (by omega)).2
   rw [← h4 i hi', ← h2] at hr
   refine .inl ⟨h (xs.getD i default) s, ?_, ?_⟩
   ·have := hsh xs k s (i : Int) (by omega) (by omega) (by rw [Int.toNat_natCast, hr]; omega)
    rw [Int.toNat_natCast] at this
    exact this
   ·rw [hr, Jl L a hi']; omega)
  (fun s _ => hsd xs k s) xs.length 0 k (by omega) (by simp [Bz]) (xs.length + 1) (Nat.lt_succ_self _)
 rcases h5 with ⟨k2, h5, h6⟩ | ⟨_, _, h5⟩
 case inr => exact h5.elim
 have h5 : runL (sh xs k) (xs.length + 1) (k, 0) = .done (k2, (xs.length : Int)) := h5
 rw [hH, n0, h5]
 show k2 = _
 rw [h6, List.take_of_length_le (by omega)]
theorem Qqs {α : Type} [Inhabited α] (sz : α → Int → Int) (P : α → Prop) (h : ∀ x l, 0 ≤ l → l ≤ 1048576 → 0 ≤ sz x l → P x ∧ sz x l ≤ l) (a : List α) (step : Int × Int → Lp (Int × Int) Int) (l0 : Int) (h0 : 0 ≤ l0) (h1 : l0 ≤ 1048576)
  (hs : ∀ l i, step (l, i) = bif (decide (i < (a.length : Int))) then (bif (decide (sz (a.getD (Int.toNat i) default) l < 0)) then (.ret (-1)) else (.next (sz (a.getD (Int.toNat i) default) l, i + 1))) else (.done (l, i)))
  (hr : 0 ≤ (runL step ((Int.toNat ((a.length : Int) - 0)) + 1) (l0, 0)).fin (fun r => r) (fun s => s.1)) :
  (∀ k, k < a.length → P (a.getD k default)) ∧ (runL step ((Int.toNat ((a.length : Int) - 0)) + 1) (l0, 0)).fin (fun r => r) (fun s => s.1) ≤ l0 := by
 rw [n0] at hr ⊢
 have hh := Yd (step := step) (fun (i : Nat) (l : Int) => (l, (i : Int))) a.length (fun i l => 0 ≤ l ∧ l ≤ l0 ∧ ∀ k, k < i → P (a.getD k default)) (fun r => r = -1)
  (fun i l hi ⟨g1, g2, g3⟩ => by
   by_cases hx : sz (a.getD i default) l < 0
   ·refine .inr ⟨-1, ?_, rfl⟩
    rw [hs, ltD hi, Int.toNat_natCast, decide_eq_true hx]; rfl
   ·refine .inl ⟨sz (a.getD i default) l, ?_, by omega, ?_, fun k hk => ?_⟩
    ·rw [hs, ltD hi, Int.toNat_natCast, decide_eq_false hx]; rfl
    ·have := (h (a.getD i default) l g1 (by omega) (by omega)).2; omega
    ·rcases Nat.lt_succ_iff_lt_or_eq.1 hk with hk | rfl
     ·exact g3 k hk
     ·exact (h _ l g1 (by omega) (by omega)).1)
  (fun l _ => by rw [hs, geD]; rfl) a.length 0 l0 (by omega) ⟨h0, Int.le_refl _, fun k hk => by omega⟩ (a.length + 1) (Nat.lt_succ_self _)
 rcases hh with ⟨l, hh, g1, g2, g3⟩ | ⟨r, hh, rfl⟩
 ·have hh : runL step (a.length + 1) (l0, 0) = .done (l, (a.length : Int)) := hh
  rw [hh]
  exact ⟨g3, g2⟩
 ·have hh : runL step (a.length + 1) (l0, 0) = .ret (-1) := hh
  rw [hh] at hr
  exact absurd hr (by decide)
theorem Ww {n : Int} (h1 : -9223372036854775808 ≤ n) (h2 : n ≤ 9223372036854775807) : IntKind.i64.wrap n = n := Hw h1 h2
theorem neg_lt {k : Int} (h : 0 ≤ k) : decide (k < 0) = false := by simp; omega
theorem Qrv {c : Bool} {v : Int} (h : 0 ≤ bif c then -1 else v) : c = false ∧ 0 ≤ v := by
 cases c
 ·exact ⟨rfl, h⟩
 ·have h : (0 : Int) ≤ -1 := h
  omega
theorem neI (a b : Int) : (a != b) = !decide (a = b) := by
 by_cases h : a = b <;> simp [h]
theorem neB (a b : Bool) : (!(a == b)) = !decide (a = b) := by
 cases a <;> cases b <;> rfl
theorem bandd (p q : Bool) : (bif p then q else false) = (p && q) := by cases p <;> rfl
theorem Ub (a : ByteArray) : a.toList = a.data.toList := ByteArray.toList_eq a
theorem Qom {a b : ByteArray} (h : a.toList = b.toList) : a = b := by
 rw [Ub, Ub] at h
 cases a; cases b
 simp only [ByteArray.mk.injEq]
 exact Array.ext' h
theorem neS (a b : ByteArray) : (!(a.toList == b.toList)) = !decide (a = b) := by
 by_cases h : a = b
 ·simp [h]
 ·have : ¬ a.toList = b.toList := fun e => h (Qom e)
  simp [h, this]
def first (p : Nat → Bool) (n : Nat) : Option Nat := (List.range n).find? p
theorem first_some {p : Nat → Bool} {n k : Nat} : first p n = some k ↔ k < n ∧ p k = true ∧ ∀ j, j < k → p j = false := by
 unfold first
 rw [List.find?_range_eq_some]
 constructor
 ·rintro ⟨h1, h2, h3⟩
  exact ⟨by simpa using h2, h1, fun j hj => by simpa using h3 j hj⟩
 ·rintro ⟨h1, h2, h3⟩
  exact ⟨h2, by simpa using h1, fun j hj => by simpa using h3 j hj⟩
theorem first_none {p : Nat → Bool} {n : Nat} : first p n = none ↔ ∀ k, k < n → p k = false := by
 unfold first
 rw [List.find?_range_eq_none]
 simp
theorem search {ρ τ : Type} (p : Nat → Bool) (r : Nat → ρ) (n : Nat) (step : Int → Lp Int ρ) (hs : ∀ k : Nat, k < n → step (k : Int) = bif p k then .ret (r k) else .next ((k : Int) + 1)) (he : step (n : Int) = .done (n : Int)) (f : ρ → τ) (g : Int → τ) :
  (runL step ((Int.toNat ((n : Int) - 0)) + 1) 0).fin f g = match first p n with | some k => f (r k) | none => g n := by
 have h := Yd (step := step) (fun (k : Nat) (_ : Unit) => (k : Int)) n (fun k _ => ∀ j, j < k → p j = false) (fun x => ∃ k, first p n = some k ∧ x = r k)
  (fun k _ hk hI => by
   cases hp : p k with
   | false =>
    refine .inl ⟨(), by rw [hs k hk, hp]; rfl, fun j hj => ?_⟩
    rcases Nat.lt_succ_iff_lt_or_eq.1 hj with h | rfl
    ·exact hI j h
    ·exact hp
   | true => exact .inr ⟨r k, by rw [hs k hk, hp]; rfl, k, first_some.2 ⟨hk, hp, hI⟩, rfl⟩)
  (fun _ _ => he) n 0 () (by omega) (fun j hj => by omega) (n + 1) (Nat.lt_succ_self _)
 rw [n0]
 rcases h with ⟨_, h, hI⟩ | ⟨x, h, k, hk, rfl⟩
 ·have h : runL step (n + 1) 0 = .done (n : Int) := h
  rw [h, first_none.2 hI]; rfl
 ·have h : runL step (n + 1) 0 = .ret (r k) := h
  rw [h, hk]; rfl
def oix : Option Nat → Int
 | some k => (k : Int)
 | none => -1
theorem oix_lt {p : Nat → Bool} {n : Nat} : oix (first p n) < (n : Int) := by
 cases h : first p n with
 | none => simp only [oix]; omega
 | some k => have := (first_some.1 h).1; simp only [oix]; omega
theorem oix_neg {o : Option Nat} : oix o < 0 ↔ o = none := by
 cases o with
 | none => simp [oix]
 | some k => simp [oix]
theorem Qln {o : Option Nat} (h : ¬ oix o < 0) : o = some (oix o).toNat := by
 cases o with
 | none => exact absurd (by decide) h
 | some k => simp [oix]
def idxI {α : Type} [Inhabited α] (p : α → Bool) (xs : List α) : Int := oix (first (fun k => p (xs.getD k default)) xs.length)
theorem Lj {α : Type} [Inhabited α] (p : α → Bool) (xs : List α) (step : Int → Lp Int Int)
  (hs : ∀ i, step i = bif decide (i < (xs.length : Int)) then (bif p (xs.getD (Int.toNat i) default) then .ret i else .next (i + 1)) else .done i) :
  (runL step ((Int.toNat ((xs.length : Int) - 0)) + 1) 0).fin (fun r => r) (fun _ => -1) = idxI p xs := by
 rw [search (fun k => p (xs.getD k default)) (fun k => (k : Int)) xs.length step (fun k hk => by rw [hs, ltD hk, nn]; rfl) (by rw [hs, geD]; rfl)]
 unfold idxI
 all_goals (cases first (fun k => p (xs.getD k default)) xs.length <;> rfl)
theorem Qho {α : Type} [Inhabited α] (p : α → Bool) (xs : List α) : decide (idxI p xs ≥ 0) = xs.any p := by
 rw [Bool.eq_iff_iff, decide_eq_true_eq, List.any_eq_true]
 constructor
 ·intro h
  have h' : ¬ idxI p xs < 0 := by omega
  have h2 := first_some.1 (Qln h')
  exact ⟨_, Qlm xs h2.1, h2.2.1⟩
 ·rintro ⟨x, hx, hp⟩
  obtain ⟨k, hk, rfl⟩ := Nf hx
  rcases Int.lt_or_le (idxI p xs) 0 with h | h
  ·have := first_none.1 (oix_neg.1 h) k hk
   simp only [hp] at this
   cases this
  ·exact h
theorem Qgs {α : Type} [Inhabited α] (p : α → Bool) (xs : List α) : idxI p xs < (xs.length : Int) := oix_lt
theorem beqD (a b : Int) : (a == b) = decide (a = b) := by
 by_cases h : a = b <;> simp [h]
theorem Pp {α : Type} (xs : List α) {i : Nat} (a : α) (h : i < xs.length) : (xs.set i a).take (i + 1) = xs.take i ++ [a] := by
 rw [List.take_add_one, List.take_set_of_le (Nat.le_refl _), List.getElem?_set_self h]; rfl
theorem Zn {α : Type} [Inhabited α] (p : α → Bool) (s : List α) {k : Nat} (h : k < s.length) : (s.take (k + 1)).filter p = (s.take k).filter p ++ (if p (s.getD k default) then [s.getD k default] else []) := by
 rw [Ti h, List.filter_append]
 congr 1
 simp only [List.filter_cons, List.filter_nil]
theorem Qay {α : Type} [Inhabited α] (del : α → Bool) (s : List α) (z : α) (step : Int × Int × List α → Lp (Int × Int × List α) (List α))
  (hs : ∀ i j xs, step (i, j, xs) = bif decide (j < (xs.length : Int)) then (bif (!(del (xs.getD (Int.toNat j) default))) then .next (i + 1, j + 1, xs.set (Int.toNat i) (xs.getD (Int.toNat j) default)) else .next (i, j + 1, xs)) else .done (i, j, xs)) :
  (bif (idxI del s == (-1)) then s else (((runL step ((Int.toNat ((s.length : Int) - (idxI del s + 1))) + 1) (idxI del s, idxI del s + 1, s)).fin Lp.ret (fun x => (Lp.done (x.2.2, x.1) : Lp (List α × Int) (List α)))).fin (fun r => r) (fun x => ((x.1.take (Int.toNat x.2) ++ List.replicate (x.1.drop (Int.toNat x.2)).length z ++ x.1.drop (Int.toNat x.2 + (x.1.drop (Int.toNat x.2)).length)).take (Int.toNat x.2))))) = s.filter (fun x => !(del x)) := by
 unfold idxI
 cases e : first (fun k => del (s.getD k default)) s.length with
 | none =>
  have hn := first_none.1 e
  have e1 : (oix (none : Option Nat) == (-1 : Int)) = true := rfl
  rw [e1, cond_true]
  symm
  refine List.filter_eq_self.2 fun x hx => ?_
  obtain ⟨k, hk, rfl⟩ := Nf hx
  simpa using hn k hk
 | some k0 =>
  obtain ⟨h1, h2, h3⟩ := first_some.1 e
  have e1 : (oix (some k0) == (-1 : Int)) = false := by rw [beqD]; exact decide_eq_false (by simp only [oix]; omega)
  rw [e1, cond_false]
  simp only [oix]
  have hpre : (s.take (k0 + 1)).filter (fun x => !(del x)) = s.take k0 := by
   rw [Zn _ _ h1]
   simp only [h2, Bool.not_true, Bool.false_eq_true, if_false, List.append_nil]
   refine List.filter_eq_self.2 fun x hx => ?_
   obtain ⟨k, hk, rfl⟩ := List.mem_iff_getElem.1 hx
   have hk' : k < k0 := by simp at hk; omega
   have := h3 k hk'
   rw [Ja s (by omega)] at this
   simpa using this
  have h := Yd (step := step) (fun (k : Nat) (x : Nat × List α) => ((x.1 : Int), (k : Int), x.2)) s.length
   (fun k x => x.1 < k ∧ x.2.length = s.length ∧ x.2.take x.1 = (s.take k).filter (fun x => !(del x)) ∧ ∀ m, k ≤ m → x.2.getD m default = s.getD m default) (fun _ => False)
   (fun k x hk ⟨g1, g2, g3, g4⟩ => by
    obtain ⟨i, xs⟩ := x
    simp only at g1 g2 g3 g4
    have hx := g4 k (Nat.le_refl _)
    cases hd : del (s.getD k default) with
    | false =>
     refine .inl ⟨(i + 1, xs.set i (s.getD k default)), ?_, by simp only; omega, by simp [g2], ?_, fun m hm => ?_⟩
     ·rw [hs, g2, ltD hk, nn, hx, hd]
      simp only [cond_true, Bool.not_false, nn]
      rfl
     ·simp only
      rw [Pp xs _ (by omega), g3, Zn _ _ hk, hd]
      rfl
     ·simp only
      rw [List.getD_eq_getElem?_getD, List.getElem?_set_ne (by omega), ← List.getD_eq_getElem?_getD]
      exact g4 m (by omega)
    | true =>
     refine .inl ⟨(i, xs), ?_, by simp only; omega, g2, ?_, fun m hm => g4 m (by omega)⟩
     ·rw [hs, g2, ltD hk, nn, hx, hd]
      simp only [cond_true, Bool.not_true, cond_false]
      rfl
     ·simp only
      rw [g3, Zn _ _ hk, hd]
      simp)
   (fun x ⟨_, g2, _, _⟩ => by rw [hs, g2, geD]; rfl) (s.length - (k0 + 1)) (k0 + 1) (k0, s) (by omega) ⟨Nat.lt_succ_self _, rfl, hpre.symm, fun _ _ => rfl⟩ (s.length - (k0 + 1) + 1) (Nat.lt_succ_self _)
  have ef : Int.toNat ((s.length : Int) - ((k0 : Int) + 1)) = s.length - (k0 + 1) := by omega
  rw [ef]
  rcases h with ⟨⟨i, xs⟩, h, g1, g2, g3, g4⟩ | ⟨_, _, h⟩
  ·have h : runL step (s.length - (k0 + 1) + 1) ((k0 : Int), (k0 : Int) + 1, s) = .done ((i : Int), (s.length : Int), xs) := h
   simp only at g1 g2 g3
   rw [h]
   simp only [Lp.fin, nn]
   rw [List.take_length] at g3
   rw [← g3, List.append_assoc, List.take_append_of_le_length (by simp; omega), List.take_take, Nat.min_self]
  ·exact h.elim
def RdAll (S : Nat → Prop) (w : World) : List (Value × Dat) → Prop
 | [] => True
 | p :: r => RdV S w p.2 p.1 ∧ RdAll S w r
theorem RdAll.mono {S S' : Nat → Prop} {w w' : World} (hs : ∀ b, S b → S' b ∧ w'.heap[b]? = w.heap[b]?) : ∀ {ds : List (Value × Dat)}, RdAll S w ds → RdAll S' w' ds
 | [], _ => trivial
 | p :: r, h => ⟨RdV.mono hs p.2 p.1 h.1, RdAll.mono hs h.2⟩
def LX (ds : List (Value × Dat)) : FX where
 rd S w y := y.oneCell' = true ∧ RdAll S w ds
 ow w y fp := (y.oneCell' = true ∧ RdAll (· ∈ fp) w ds) ∧ fp.Nodup ∧ ∀ b ∈ fp, b < w.heap.size
 mono S S' w w' y hs h := ⟨h.1, h.2.mono hs⟩
 one S w y h := h.1
 keep w w' y fp hk h := ⟨⟨h.1.1, h.1.2.mono fun b hb => ⟨hb, hk b hb⟩⟩, h.2.1, fun b hb => Xk (h.2.2 b hb) (hk b hb)⟩
 lt w y fp h := h.2.2
 nd w y fp h := h.2.1
 rdo w y fp h := h.1
def BX (s : ByteArray) (n : Nat) : FX where
 rd S w y := y = .string s ∧ s.size ≤ n
 ow w y fp := (y = .string s ∧ s.size ≤ n) ∧ fp = []
 mono S S' w w' y hs h := h
 one S w y h := by rw [h.1]; rfl
 keep w w' y fp hk h := h
 lt w y fp h b hb := by rw [h.2] at hb; cases hb
 nd w y fp h := by rw [h.2]; exact List.nodup_nil
 rdo w y fp h := h.1
theorem Imp.bx {s : ByteArray} {n : Nat} (h : s.size ≤ n) : Imp (.v (.string s)) (.x (BX s n)) := ⟨fun S w y hy => ⟨hy.1, h⟩, fun w y fp hy => ⟨⟨hy.1, h⟩, hy.2.2⟩⟩
theorem Rt {P : Program} {f : FuncId} {i : ByteArray} {n : Nat} {cap : List Arg} {r : RT} {D : Bool} (h : Spec.ok P f ⟨.r (.c (.v (.string i))) :: cap, r, i.size ≤ n⟩ D) : Spec.ok P f ⟨.r (.c (.x (BX i n))) :: cap, r, True⟩ D := by
 intro _ S w vs fp hS hG ha
 obtain ⟨u, us, f1, g1, rfl, ⟨h1, h1'⟩, h2, rfl, h3⟩ := ha
 obtain ⟨rfl, hn⟩ : u = .string i ∧ i.size ≤ n := h1
 have := h hn S w (.string i :: us) (f1 ++ g1) hS hG ⟨_, us, f1, g1, rfl, ⟨⟨rfl, rfl⟩, h1'⟩, h2, rfl, h3⟩
 refine this.mono fun e w' ⟨rv, fr, fb, e1, e2, e3, e4⟩ => ⟨rv, fr, fb, e1, e2, ?_, e4⟩
 obtain ⟨u', us', f', g', k1, k2, k3, k4⟩ := e3
 simp only [List.cons.injEq] at k1
 obtain ⟨rfl, rfl⟩ := k1
 exact ⟨_, _, f', g', rfl, k2, k3, k4⟩
def PX (d : Dat) (Q : Prop) : FX where
 rd S w y := RdV S w d y ∧ Q
 ow w y fp := OwV w d y fp ∧ Q
 mono S S' w w' y hs h := ⟨RdV.mono hs d y h.1, h.2⟩
 one S w y h := h.1.one
 keep w w' y fp hk h := ⟨OwV.keep d y fp hk h.1, h.2⟩
 lt w y fp h := OwV.lt d y fp h.1
 nd w y fp h := h.1.nd
 rdo w y fp h := ⟨OwV.rd d y fp h.1, h.2⟩
theorem Imp.px {d : Dat} {Q : Prop} (h : Q) : Imp d (.x (PX d Q)) := ⟨fun S w y hy => ⟨hy, h⟩, fun w y fp hy => ⟨hy, h⟩⟩
def pxH : List Dat → Prop → List Dat
 | [], _ => []
 | d :: ds, Q => .x (PX d Q) :: ds
theorem Imps.pxH {ds : List Dat} {Q : Prop} (h : Q) : Imps ds (pxH ds Q) := by
 cases ds with
 | nil => trivial
 | cons d ds => exact ⟨Imp.px h, Imps.refl ds⟩
theorem Qmy {P : Program} {f : FuncId} {a b : RA} {Q : Prop} {cap : List Arg} {r : RT} {D : Bool} (hab : ∀ S w v, Qgy S w b v → Qgy S w a v ∧ Q) (h : Spec.ok P f ⟨.r a :: cap, r, Q⟩ D) : Spec.ok P f ⟨.r b :: cap, r, True⟩ D := by
 intro _ S w vs fp hS hG ha
 obtain ⟨u, us, f1, g1, rfl, ⟨h1, h1'⟩, h2, rfl, h3⟩ := ha
 obtain ⟨k1, hn⟩ := hab S w u h1
 have := h hn S w (u :: us) (f1 ++ g1) hS hG ⟨_, us, f1, g1, rfl, ⟨k1, h1'⟩, h2, rfl, h3⟩
 refine this.mono fun e w' ⟨rv, fr, fb, e1, e2, e3, e4⟩ => ⟨rv, fr, fb, e1, e2, ?_, e4⟩
 obtain ⟨u', us', f', g', k1, k2, k3, k4⟩ := e3
 simp only [List.cons.injEq] at k1
 obtain ⟨rfl, rfl⟩ := k1
 exact ⟨_, _, f', g', rfl, k2, k3, k4⟩
theorem Qoy {P : Program} {f : FuncId} {d : Dat} {Q : Prop} {cap : List Arg} {r : RT} {D : Bool} (h : Spec.ok P f ⟨.r (.c d) :: cap, r, Q⟩ D) : Spec.ok P f ⟨.r (.c (.x (PX d Q))) :: cap, r, True⟩ D :=
 Qmy (a := .c d) (Q := Q) (fun S w v hv => hv) h
theorem ok_pxH {P : Program} {f : FuncId} {d : Dat} {ds : List Dat} {Q : Prop} {cap : List Arg} {r : RT} {D : Bool} (h : Spec.ok P f ⟨.r (.g (d :: ds)) :: cap, r, Q⟩ D) : Spec.ok P f ⟨.r (.g (pxH (d :: ds) Q)) :: cap, r, True⟩ D :=
 Qmy (fun S w v hv => by
  obtain ⟨vs, e, u, us, rfl, h1, h2⟩ := hv
  exact ⟨⟨_, e, u, us, rfl, h1.1, h2⟩, h1.2⟩) h
def toSV : Value → SV
 | .slice a n c => ⟨a, n, c⟩
 | _ => default
theorem RdV.at_sv {S : Nat → Prop} {w : World} {d : Dat} {v : Value} {x : SV} (e : v = sv x) (h : RdV S w d v) : RdV S w d (sv x) := e ▸ h
theorem row3 {S : Nat → Prop} {w : World} {a b c : Value} {d : Dat} (h : RdV S w d c) : ∀ cs, RdVs S w [.v a, .v b, .v c] cs → RdVs S w [.v a, .v b, d] cs := fun cs hc => by
 obtain ⟨u, us, rfl, h1, v, vs, rfl, h2, x, xs, rfl, h3, rfl⟩ := hc
 obtain ⟨rfl, _⟩ := h3
 exact ⟨u, _, rfl, h1, v, _, rfl, h2, _, _, rfl, h, rfl⟩
section
variable {P : Program} {N : Nat} {fs fs' : Nat → Option Fact} {β : Nat → Nat → Value} {φ φ' : Nat → List Nat} {dom ψ IN : Nat → Prop} {w0 w : World}
theorem Rel.pack (R : Rel P fs β φ dom ψ IN w0 w) (src : Nat → List Nat)
  (hok : ∀ X f, fs' X = some f → dom X ∧ Kc P fs' β φ' dom ψ w X f)
  (hsrc : ∀ X f, fs' X = some f → f.mod = true → ∀ b ∈ φ' X, ∃ Y ∈ src X, (∃ g, fs Y = some g ∧ g.mod = true) ∧ b ∈ φ Y)
  (hd : ∀ X X', X ≠ X' → (∃ f, fs' X = some f) → (∃ f, fs' X' = some f) → ∀ Y ∈ src X, Y ∉ src X') : Rel P fs' β φ' dom ψ IN w0 w where
 ok := hok
 dis i j f g hi hj mi mj hne b hb hb' := by
  obtain ⟨Y, h1, ⟨g1, h2, h3⟩, h4⟩ := hsrc i f hi mi b hb
  obtain ⟨Y', k1, ⟨g2, k2, k3⟩, k4⟩ := hsrc j g hj mj b hb'
  have hne' : Y ≠ Y' := fun e => hd i j hne ⟨_, hi⟩ ⟨_, hj⟩ Y h1 (e ▸ k1)
  exact R.dis Y Y' g1 g2 h2 k2 h3 k3 hne' b h4 k4
 lt id f hf hm b hb := by
  obtain ⟨Y, h1, ⟨g1, h2, h3⟩, h4⟩ := hsrc id f hf hm b hb
  exact R.lt Y g1 h2 h3 b h4
 psi := R.psi
 all1 := R.all1
 chg := R.chg
 glo := R.glo
theorem Rel.fpnd (R : Rel P fs β φ dom ψ IN w0 w) {id : Nat} {g : Fact} (h : fs id = some g) (hm : g.mod = true) : (φ id).Nodup := by
 have h2 := (R.ok id g h).2
 cases g <;> simp only [Fact.mod] at hm <;> first | cases hm | skip
 case box T cs => obtain ⟨_, b, _, _, e⟩ := h2; rw [e]; exact (List.nodup_cons.2 ⟨List.not_mem_nil, List.nodup_nil⟩)
 case own V d => exact (h2.2 : OwV w d _ _).nd
 case arr n cs => obtain ⟨_, b, T, _, _, e⟩ := h2; rw [e]; exact (List.nodup_cons.2 ⟨List.not_mem_nil, List.nodup_nil⟩)
def Qdy (fs : Nat → Option Fact) (ids : List Nat) : Bool := ids.all fun id => match fs id with | some g => g.mod | none => false
theorem Tm {ids : List Nat} (h : Qdy fs ids = true) : ∀ id ∈ ids, ∃ g, fs id = some g ∧ g.mod = true := fun id hid => by
 have := List.all_eq_true.1 h id hid
 split at this
 ·rename_i g e; exact ⟨g, e, this⟩
 ·cases this
theorem Rel.flat_nd (R : Rel P fs β φ dom ψ IN w0 w) : ∀ {ids : List Nat}, ids.Nodup → (∀ id ∈ ids, ∃ g, fs id = some g ∧ g.mod = true) → (ids.flatMap φ).Nodup
 | [], _, _ => List.nodup_nil
 | id :: ids, hn, hm => by
  obtain ⟨n1, n2⟩ := List.nodup_cons.1 hn
  obtain ⟨g, h1, h2⟩ := hm id List.mem_cons_self
  simp only [List.flatMap_cons]
  refine List.nodup_append.2 ⟨R.fpnd h1 h2, R.flat_nd n2 fun x hx => hm x (List.mem_cons_of_mem _ hx), fun b hb b' hb' e => ?_⟩
  subst e
  obtain ⟨Y, hY, hbY⟩ := List.mem_flatMap.1 hb'
  obtain ⟨g', h3, h4⟩ := hm Y (List.mem_cons_of_mem _ hY)
  exact R.dis id Y g g' h1 h3 h2 h4 (fun e => n1 (e ▸ hY)) b hb hbY
theorem Rel.flat_lt (R : Rel P fs β φ dom ψ IN w0 w) {ids : List Nat} (hm : ∀ id ∈ ids, ∃ g, fs id = some g ∧ g.mod = true) : ∀ b ∈ ids.flatMap φ, b < w.heap.size := fun b hb => by
 obtain ⟨Y, hY, hbY⟩ := List.mem_flatMap.1 hb
 obtain ⟨g, h1, h2⟩ := hm Y hY
 exact (R.lt Y g h1 h2 b hbY).1
theorem Uy (h : FnH P) (hcap : h.cap = []) (hp : h.pre) {S : Nat → Prop} (hlt : ∀ b, S b → b < w.heap.size) (hcl : Uc P h.f = true) {F : Uw} (hF : h.F = F) : FnOK false P S w F (val β (.cl h.f [])) :=
 hF ▸ FnOK.weak (h.fnOK hp hlt (cap := []) (by rw [hcap]; exact ⟨rfl, rfl⟩) hcl)
theorem Qaf (R : Rel P fs β φ dom ψ IN w0 w) {a : Nat} {T : TypeId} {cs : List AV} (ha : fs a = some (.box T cs)) : ∃ b, val β (.p a 0) = .pointer (some ⟨b, 0, none⟩) ∧ Box w b T (vals β cs) ∧ φ a = [b] := by
 obtain ⟨_, _, b, e1, e2, e3⟩ := R.ok a _ ha
 exact ⟨b, by simp only [val, e1, padd, Nat.add_zero], e2, e3⟩
theorem Kx (R : Rel P fs β φ dom ψ IN w0 w) (h : FnH P) {a c : Nat} {T U : TypeId} {x y : Value} (ha : fs a = some (.box T [.v x])) (hc : fs c = some (.box U [.v y])) (hcap : h.cap = [.rp [.v x], .rp [.v y]]) (hp : h.pre)
  {S : Nat → Prop} (h1 : ∀ b ∈ φ a, S b) (h2 : ∀ b ∈ φ c, S b) (hlt : ∀ b, S b → b < w.heap.size) (hcl : Uc P h.f = true) (hx : x.oneCell' = true) (hy : y.oneCell' = true) {F : Uw} (hF : h.F = F) : FnOK false P S w F (val β (.cl h.f [.p a 0, .p c 0])) := by
 obtain ⟨b, e1, e2, e3⟩ := Qaf R ha
 obtain ⟨b', k1, k2, k3⟩ := Qaf R hc
 have := FnOK.weak (h.fnOK hp hlt (cap := [val β (.p a 0), val β (.p c 0)]) (by
  rw [hcap]
  refine ⟨_, _, [], [], rfl, ⟨⟨b, 0, [x], e1, h1 b (by rw [e3]; exact List.mem_singleton.2 rfl), e2.has 0 [x] rfl, x, [], rfl, ⟨rfl, hx⟩, rfl⟩, rfl⟩, ?_, rfl, List.nodup_nil⟩
  exact ⟨_, _, [], [], rfl, ⟨⟨b', 0, [y], k1, h2 b' (by rw [k3]; exact List.mem_singleton.2 rfl), k2.has 0 [y] rfl, y, [], rfl, ⟨rfl, hy⟩, rfl⟩, rfl⟩, ⟨rfl, rfl⟩, rfl, List.nodup_nil⟩) hcl)
 rw [← hF]
 exact this
theorem Qpm (R : Rel P fs β φ dom ψ IN w0 w) (h : FnH P) {a o V : Nat} {T : TypeId} {d : Dat} (ha : fs a = some (.box T [.h o 0])) (ho : fs o = some (.own V d)) (hcap : h.cap = [.rp [d]]) (hp : h.pre)
  {S : Nat → Prop} (h1 : ∀ b ∈ φ a, S b) (h2 : ∀ b ∈ φ o, S b) (hlt : ∀ b, S b → b < w.heap.size) (hcl : Uc P h.f = true) {F : Uw} (hF : h.F = F) : FnOK false P S w F (val β (.cl h.f [.p a 0])) := by
 obtain ⟨b, e1, e2, e3⟩ := Qaf R ha
 obtain ⟨_, _, k1⟩ := R.ok o _ ho
 have := FnOK.weak (h.fnOK hp hlt (cap := [val β (.p a 0)]) (by
  rw [hcap]
  exact ⟨_, _, [], [], rfl, ⟨⟨b, 0, [β o 0], e1, h1 b (by rw [e3]; exact List.mem_singleton.2 rfl), e2.has 0 [β o 0] rfl, β o 0, [], rfl, RdV.mono (fun b hb => ⟨h2 b hb, rfl⟩) _ _ (OwV.rd _ _ _ k1), rfl⟩, rfl⟩, ⟨rfl, rfl⟩, rfl, List.nodup_nil⟩) hcl)
 rw [← hF]
 exact this
def FnsOK (P : Program) (S : Nat → Prop) (w : World) {α : Type} (F : α → Uw) : List α → List Value → Prop
 | [], vs => vs = []
 | p :: ps, vs => ∃ u us, vs = u :: us ∧ FnOK false P S w (F p) u ∧ FnsOK P S w F ps us
theorem FnsOK.at {S : Nat → Prop} {α : Type} {F : α → Uw} : ∀ {ps : List α} {vs : List Value}, FnsOK P S w F ps vs → vs.length = ps.length ∧ ∀ (i : Nat) (p : α), ps[i]? = some p → ∃ u, vs[i]? = some u ∧ FnOK false P S w (F p) u
 | [], vs, h => by rw [h]; exact ⟨rfl, fun i p hp => by simp at hp⟩
 | p :: ps, vs, h => by
  obtain ⟨u, us, rfl, h1, h2⟩ := h
  obtain ⟨e, h3⟩ := FnsOK.at h2
  refine ⟨by simp [e], fun i q hq => ?_⟩
  cases i with
  | zero => simp only [List.getElem?_cons_zero, Option.some.injEq] at hq; subst hq; exact ⟨u, rfl, h1⟩
  | succ i => simpa using h3 i q (by simpa using hq)
theorem Ki (R : Rel P fs β φ dom ψ IN w0 w) {α : Type} [Inhabited α] {o n : Nat} {cs : List AV} {ps : List α} {F : α → Uw} {enc : α → List Dat} (ho : fs o = some (.arr n cs)) (hn : n = ps.length) (hm : n ≤ 9223372036854775807) (he : ∀ p, enc p = [.x (FnX P (F p))])
  {S : Nat → Prop} (h1 : ∀ b ∈ φ o, S b) (hF : FnsOK P S w F ps (vals β cs)) : RdV S w (.l 1 enc ps) (β o 0) := by
 obtain ⟨_, _, b, T, e1, e2, e3⟩ := R.ok o _ ho
 obtain ⟨_, hF⟩ := hF.at
 subst hn
 refine ⟨some ⟨b, 0, none⟩, ps.length, e1, Nat.le_refl _, hm, fun i p hp => ⟨rfl, h1 b (by rw [e3]; exact List.mem_singleton.2 rfl), ?_⟩⟩
 obtain ⟨u, hu, hf⟩ := hF i p hp
 refine ⟨[u], rfl, ?_, ?_⟩
 ·refine e2.has _ _ ?_
  simp only [ao, Option.getD_some, Nat.zero_add, Nat.mul_one, List.length_singleton]
  apply List.ext_getElem?
  intro j
  rw [List.getElem?_take]
  cases j with
  | zero => simpa using hu
  | succ j => simp
 ·rw [he]
  exact ⟨u, [], rfl, hf, rfl⟩
theorem Jb (R : Rel P fs β φ dom ψ IN w0 w) {o n : Nat} {cs : List AV} (ho : fs o = some (.arr n cs)) : β o 0 = sv (toSV (β o 0)) := by
 obtain ⟨_, _, b, T, e1, _⟩ := R.ok o _ ho
 rw [e1]; rfl
theorem Qrs (R : Rel P fs β φ dom ψ IN w0 w) {α : Type} [Inhabited α] {o n sz : Nat} {cs : List AV} {ys : List α} {enc : α → List Dat} (ho : fs o = some (.arr n cs)) (hn : n = ys.length) (hm : n ≤ 9223372036854775807) (hl : ∀ y, (enc y).length = sz)
  (he : (ys.map enc).flatten = (vals β cs).map .v) : OwV w (.l sz enc ys) (β o 0) (φ o) := by
 obtain ⟨_, ⟨hw, hone⟩, b, T, e1, e2, e3⟩ := R.ok o _ ho
 have h1 : OwVs w (ys.map enc).flatten (vals β cs) [] := by
  rw [he]; exact OwVs.flat (Nu R.one hone hw)
 obtain ⟨gs, g1, g2, g3, g4⟩ := h1.split (sz := sz) (fun y _ => hl y)
 subst hn
 have hlen : (vals β cs).length = ys.length * sz := g2
 refine ⟨some ⟨b, 0, none⟩, ys.length, e1, Nat.le_refl _, hm, .inr ⟨b, 0, T, vals β cs, gs, rfl, e2, by omega, g1, fun i y g hy hg => ?_, by rw [e3, ← g3], ?_⟩⟩
 ·obtain ⟨k1, k2⟩ := g4 i y g hy hg
  have hi : i < ys.length := (List.getElem?_eq_some_iff.1 hy).1
  have hfit : i * sz + sz ≤ (vals β cs).length := by
   rw [hlen]
   calc i * sz + sz = (i + 1) * sz := by rw [Nat.succ_mul]
    _ ≤ ys.length * sz := Nat.mul_le_mul_right _ hi
  refine ⟨by simp; omega, ?_⟩
  simpa using k2
 ·rw [e3]; exact (List.nodup_cons.2 ⟨List.not_mem_nil, List.nodup_nil⟩)
def Rel2 {α γ : Type} (Q : α → γ → Prop) : List α → List γ → Prop
 | [], [] => True
 | a :: azz, c :: cs => Q a c ∧ Rel2 Q azz cs
 | _, _ => False
theorem Rel2.filter {α γ : Type} {Q : α → γ → Prop} {p : α → Bool} {q : γ → Bool} (hpq : ∀ a c, Q a c → p a = q c) : ∀ {azz : List α} {cs : List γ}, Rel2 Q azz cs → Rel2 Q (azz.filter p) (cs.filter q)
 | [], [], _ => trivial
 | a :: azz, c :: cs, h => by
  have e := hpq a c h.1
  cases hp : p a with
  | true => rw [List.filter_cons_of_pos hp, List.filter_cons_of_pos (e ▸ hp)]; exact ⟨h.1, Rel2.filter hpq h.2⟩
  | false => rw [List.filter_cons_of_neg (by simp [hp]), List.filter_cons_of_neg (by simp [← e, hp])]; exact Rel2.filter hpq h.2
 | [], _ :: _, h => h.elim
 | _ :: _, [], h => h.elim
theorem Rel2.at {α γ : Type} {Q : α → γ → Prop} : ∀ {azz : List α} {cs : List γ}, Rel2 Q azz cs → azz.length = cs.length ∧ ∀ (i : Nat) (c : γ), cs[i]? = some c → ∃ a, azz[i]? = some a ∧ Q a c
 | [], [], _ => ⟨rfl, fun i c h => by simp at h⟩
 | a :: azz, c :: cs, h => by
  obtain ⟨e, k⟩ := Rel2.at h.2
  refine ⟨by simp [e], fun i x hx => ?_⟩
  cases i with
  | zero => simp only [List.getElem?_cons_zero, Option.some.injEq] at hx; subst hx; exact ⟨a, rfl, h.1⟩
  | succ i => simpa using k i x (by simpa using hx)
 | [], _ :: _, h => h.elim
 | _ :: _, [], h => h.elim
theorem Rel2.mono {α γ : Type} {Q Q' : α → γ → Prop} (hq : ∀ a c, Q a c → Q' a c) : ∀ {azz : List α} {cs : List γ}, Rel2 Q azz cs → Rel2 Q' azz cs
 | [], [], _ => trivial
 | a :: azz, c :: cs, h => ⟨hq _ _ h.1, Rel2.mono hq h.2⟩
 | [], _ :: _, h => h.elim
 | _ :: _, [], h => h.elim
theorem Qiw {α γ : Type} [Inhabited α] [Inhabited γ] {sz : Nat} {enc : α → List Dat} {enc' : γ → List Dat} {ys : List α} {zs : List γ} {v : Value} {fp : List Nat} {S : Nat → Prop} (h : OwV w (.l sz enc ys) v fp) (hS : ∀ b ∈ fp, S b)
  (hr : Rel2 (fun y z => ∀ cs, RdVs S w (enc y) cs → RdVs S w (enc' z) cs) ys zs) : RdV S w (.l sz enc' zs) v := by
 obtain ⟨a, c, e1, e2, e3, e4⟩ := RdV.mono (fun b hb => ⟨hS b hb, rfl⟩) _ _ (OwV.rd _ _ _ h)
 obtain ⟨hl, hr⟩ := hr.at
 refine ⟨a, c, by rw [← hl]; exact e1, by omega, by omega, fun i z hz => ?_⟩
 obtain ⟨y, hy, hq⟩ := hr i z hz
 obtain ⟨g1, g2, cs, g3, g4, g5⟩ := e4 i y hy
 exact ⟨g1, g2, cs, g3, g4, hq cs g5⟩
end
theorem fsG1 {a : Fact} {X : Nat} {f : Fact} (h : fsG [(0, some a)] X = some f) : X = 0 ∧ f = a := by
 simp only [fsG] at h
 cases hb : Nat.beq 0 X with
 | true => rw [hb] at h; cases h; exact ⟨(Nat.eq_of_beq_eq_true hb).symm, rfl⟩
 | false => rw [hb] at h; cases h
theorem fsG3 {a b c : Fact} {X : Nat} {f : Fact} (h : fsG [(0, some a), (1, some b), (2, some c)] X = some f) : (X = 0 ∧ f = a) ∨ (X = 1 ∧ f = b) ∨ (X = 2 ∧ f = c) := by
 simp only [fsG] at h
 cases h0 : Nat.beq 0 X with
 | true => rw [h0] at h; cases h; exact .inl ⟨(Nat.eq_of_beq_eq_true h0).symm, rfl⟩
 | false =>
  rw [h0] at h
  cases h1 : Nat.beq 1 X with
  | true => rw [h1] at h; cases h; exact .inr (.inl ⟨(Nat.eq_of_beq_eq_true h1).symm, rfl⟩)
  | false =>
   rw [h1] at h
   cases h2 : Nat.beq 2 X with
   | true => rw [h2] at h; cases h; exact .inr (.inr ⟨(Nat.eq_of_beq_eq_true h2).symm, rfl⟩)
   | false => rw [h2] at h; cases h
section
variable {P : Program} {N : Nat} {ψ IN : Nat → Prop} {w0 w : World} {a : Act}
theorem pack3 {s : St} {T : TypeId} {bx : List Value} {α : Type} [Inhabited α] {sz : Nat} {enc : α → List Dat} {ys : List α} {X : FX} {rest : List Nat} {β : Nat → Nat → Value} {φ : Nat → List Nat} {dom : Nat → Prop} (V : StOK P N ψ IN w0 s a w β φ dom)
  (h0 : fsG s.fs 0 = some (.box T (bx.map .v))) (h1 : ∃ g, fsG s.fs 1 = some g ∧ g.mod = true) (hr : Qdy (fsG s.fs) rest = true) (hnd : Kf (0 :: 1 :: rest) = true) (hd2 : dom 2)
  (ho : OwV w (.l sz enc ys) (β 1 0) (φ 1)) (hx : (rest.flatMap φ).Nodup → (∀ b ∈ rest.flatMap φ, b < w.heap.size) → X.ow w (β 2 0) (rest.flatMap φ)) :
  Holds P N ψ IN w0 ⟨s.sl, [(0, some (.box T (bx.map .v))), (1, some (.own 1 (.l sz enc ys))), (2, some (.own 2 (.x X)))], s.nx⟩ a w := by
 have R := V.rel
 have hnn := Km hnd
 have hm := Tm hr
 obtain ⟨n1, n2⟩ := List.nodup_cons.1 hnn
 obtain ⟨n3, n4⟩ := List.nodup_cons.1 n2
 obtain ⟨g1, h1, h1m⟩ := h1
 refine ⟨β, fun X => if X = 2 then rest.flatMap φ else φ X, dom, V.size, V.defers, V.has, ?_, V.bound⟩
 refine R.pack (fun X => if X = 2 then rest else [X]) (fun Y f hY => ?_) (fun Y f hY hmod b hb => ?_) (fun Y Y' hne hY hY' Z hZ hZ' => ?_)
 ·rcases fsG3 hY with ⟨rfl, rfl⟩ | ⟨rfl, rfl⟩ | ⟨rfl, rfl⟩
  ·exact ⟨(R.ok 0 _ h0).1, (R.ok 0 _ h0).2⟩
  ·exact ⟨(R.ok 1 _ h1).1, (R.ok 1 _ h1).1, ho⟩
  ·exact ⟨hd2, hd2, by simp only [if_true]; exact hx (R.flat_nd n4 hm) (R.flat_lt hm)⟩
 ·rcases fsG3 hY with ⟨rfl, rfl⟩ | ⟨rfl, rfl⟩ | ⟨rfl, rfl⟩
  ·exact ⟨0, List.mem_singleton.2 rfl, ⟨_, h0, rfl⟩, hb⟩
  ·exact ⟨1, List.mem_singleton.2 rfl, ⟨_, h1, h1m⟩, hb⟩
  ·simp only [if_true] at hb ⊢
   obtain ⟨Z, k1, k2⟩ := List.mem_flatMap.1 hb
   exact ⟨Z, k1, hm Z k1, k2⟩
 ·obtain ⟨f, hf⟩ := hY
  obtain ⟨f', hf'⟩ := hY'
  have n1' : (0 : Nat) ∉ rest := fun h => n1 (List.mem_cons_of_mem _ h)
  rcases fsG3 hf with ⟨rfl, _⟩ | ⟨rfl, _⟩ | ⟨rfl, _⟩ <;> rcases fsG3 hf' with ⟨rfl, _⟩ | ⟨rfl, _⟩ | ⟨rfl, _⟩ <;> simp only [if_true, if_neg (show ¬ (0 : Nat) = 2 by decide), if_neg (show ¬ (1 : Nat) = 2 by decide), List.mem_singleton] at hZ hZ'
  all_goals first | exact hne rfl | (subst hZ; exact n1' hZ') | (subst hZ; exact n3 hZ') | (subst hZ'; exact n1' hZ) | (subst hZ'; exact n3 hZ) | (subst hZ; cases hZ')
theorem pack1 {s : St} {t : Nat} {d : Dat} {X : FX} {e : Dat} {nx : Nat} (hfs : s.fs = [(0, some (.own 0 d)), (1, some (.own 1 (.x X)))]) (hnx : s.nx = nx) (hsl : slG s.sl t = some (.h 0 0))
  (hr : ∀ (v y : Value) (f g : List Nat), OwV w d v f → X.ow w y g → RdV (fun b => b ∈ f ++ g) w e v) (H : Holds P N ψ IN w0 s a w) :
  Holds P N ψ IN w0 ⟨[(t, some (.h 0 0))], [(0, some (.own 0 (.b e)))], nx⟩ a w := by
 obtain ⟨β, φ, dom, V⟩ := H
 have R := V.rel
 have h0 : fsG s.fs 0 = some (.own 0 d) := by rw [hfs]; rfl
 have h1 : fsG s.fs 1 = some (.own 1 (.x X)) := by rw [hfs]; rfl
 obtain ⟨k1, _, k2⟩ := R.ok 0 _ h0
 obtain ⟨q1, _, q2⟩ := R.ok 1 _ h1
 have hm : ∀ id ∈ [0, 1], ∃ g, fsG s.fs id = some g ∧ g.mod = true := fun id hid => by
  rcases List.mem_cons.1 hid with rfl | hid
  ·exact ⟨_, h0, rfl⟩
  ·obtain rfl := List.mem_singleton.1 hid; exact ⟨_, h1, rfl⟩
 have hfm : [0, 1].flatMap φ = φ 0 ++ φ 1 := by simp
 have hnd := R.flat_nd (ids := [0, 1]) (by decide) hm
 have hlt := R.flat_lt (ids := [0, 1]) hm
 rw [hfm] at hnd hlt
 refine ⟨β, fun X => if X = 0 then φ 0 ++ φ 1 else φ X, dom, V.size, V.defers, fun t' av ht => ?_, ?_, fun id hid => hnx ▸ V.bound id hid⟩
 ·simp only [slG] at ht
  cases hb : Nat.beq t t' with
  | true =>
   rw [hb] at ht
   cases ht
   have e := Nat.eq_of_beq_eq_true hb
   subst e
   exact V.has t _ hsl
  | false => rw [hb] at ht; cases ht
 ·refine R.pack (fun X => if X = 0 then [0, 1] else [X]) (fun Y f hY => ?_) (fun Y f hY hmod b hb => ?_) (fun Y Y' hne hY hY' Z hZ hZ' => ?_)
  ·obtain ⟨rfl, rfl⟩ := fsG1 hY
   exact ⟨k1, k1, by simp only [if_true]; exact ⟨hr _ _ _ _ k2 q2, hnd, hlt⟩⟩
  ·obtain ⟨rfl, rfl⟩ := fsG1 hY
   simp only [if_true] at hb ⊢
   rcases List.mem_append.1 hb with hb | hb
   ·exact ⟨0, by simp, hm 0 (by simp), hb⟩
   ·exact ⟨1, by simp, hm 1 (by simp), hb⟩
  ·obtain ⟨f, hf⟩ := hY
   obtain ⟨f', hf'⟩ := hY'
   exact hne ((fsG1 hf).1.trans (fsG1 hf').1.symm)
end
theorem ifb (c : Bool) {A B : Prop} (a : c = true → A) (b : c = false → B) : (c = true → A) ∧ (c = false → B) := ⟨a, b⟩
theorem ifd (p : Prop) [Decidable p] {A B : Prop} (a : decide p = true → p → A) (b : decide p = false → ¬ p → B) : (decide p = true → A) ∧ (decide p = false → B) :=
 ⟨fun h => a h (of_decide_eq_true h), fun h => b h (of_decide_eq_false h)⟩
theorem ife (x y : Int) {A B : Prop} (a : (x == y) = true → x = y → A) (b : (x == y) = false → ¬ x = y → B) : ((x == y) = true → A) ∧ ((x == y) = false → B) :=
 ⟨fun h => a h (eq_of_beq h), fun h => b h (beqF h)⟩
theorem ifn (x y : Int) {A B : Prop} (a : (x != y) = true → ¬ x = y → A) (b : (x != y) = false → x = y → B) : ((x != y) = true → A) ∧ ((x != y) = false → B) :=
 ⟨fun h => a h (bneT h), fun h => b h (bneF h)⟩
theorem kn {α : Type} (xs : List α) {K : Prop} (k : xs.length ≤ 9223372036854775807 → K) : xs.length ≤ 9223372036854775807 → K := k
abbrev ib (k : Int) {α : Type} (l : List α) : Prop := 0 ≤ k ∧ k < (l.length : Int)
theorem fiB (r c : Bool) (h : r = c) : (.bool r : Value) = .bool c ∧ True := ⟨h ▸ rfl, trivial⟩
theorem fiS (r c : ByteArray) (h : r = c) : (.string r : Value) = .string c ∧ True := ⟨h ▸ rfl, trivial⟩
theorem fiI (r c : Int) (h : r = c) : (.int .i64 r : Value) = .int .i64 c ∧ True := ⟨h ▸ rfl, trivial⟩
abbrev Rf (x : Value) : Prop := x = x
abbrev Im (x : Dat) : Prop := Imp x x
abbrev LpX {σ ρ : Type} (step : σ → Lp σ ρ) (N : Nat × σ) : Lp σ ρ := runL step N.1 N.2
abbrev LpJ {σ ρ : Type} (step : σ → Lp σ ρ) (N i : Nat × σ) (I : Prop) : Prop := runL step i.1 i.2 = runL step N.1 N.2 ∧ I
abbrev LpH {σ ρ : Type} (step : σ → Lp σ ρ) (N i : Nat × σ) (m : Nat) (v : σ) (I : Prop) : Prop := runL step (m + 1) v = runL step N.1 N.2 ∧ m < i.1 ∧ I
theorem iok (x : Int) (h : -9223372036854775808 ≤ x ∧ x ≤ 9223372036854775807) : i64ok x := h
theorem bokr {α : Type} [Inhabited α] (sz : Nat) (enc : α → List Dat) (ys : List α) (hl : ∀ y, (enc y).length = sz) : BuildOK ys.length sz (ys.map enc).flatten (.l sz enc ys) := BuildOK.mk enc ys rfl (Imps.refl _) hl
theorem appr {α : Type} [Inhabited α] (sz : Nat) (enc : α → List Dat) (xs ys : List α) (hl : ∀ y, (enc y).length = sz) : AppA (.l sz enc xs) ys.length sz (ys.map enc).flatten (.l sz enc (xs ++ ys)) := AppA.mk enc xs ys (Imp.refl _) rfl (Imps.refl _) hl
theorem setr {α : Type} [Inhabited α] (sz : Nat) (enc : α → List Dat) (xs : List α) (k : Nat) (x : α) : SetOK (.l sz enc xs) k (enc (xs.getD k default)) (enc x) (.l sz enc (xs.set k x)) := SetOK.mk enc xs x rfl (Imps.refl _)
def datV : Dat → Value
 | .v x => x
 | _ => default
def Plain {α : Type} (k : Nat) (e : α → List Dat) : Prop := ∀ x, (e x).length = k ∧ ∀ d ∈ e x, ∃ v, d = .v v ∧ v.oneCell' = true
def encV {α : Type} (e : α → List Dat) (x : α) : List Value := (e x).map datV
theorem Plain.len {α : Type} {k : Nat} {e : α → List Dat} (h : Plain k e) (x : α) : (encV e x).length = k := by rw [encV, List.length_map, (h x).1]
theorem Plain.one {α : Type} {k : Nat} {e : α → List Dat} (h : Plain k e) (x : α) : ∀ v ∈ encV e x, v.oneCell' = true := fun v hv => by
 obtain ⟨d, hd, rfl⟩ := List.mem_map.1 hv
 obtain ⟨v, rfl, h1⟩ := (h x).2 d hd
 exact h1
end Go.Proofs.YtmoodkjkecjeaacGreatDoor
namespace Go.Proofs.YtmoodkjkecjeaacGreatDoor
open Go.RowKit Go.Shelf
set_option linter.unusedVariables false
set_option linter.unusedSimpArgs false
section
variable {P : Program} {ρ : Go.Shelf.Ren}
theorem Qie (SS : Nat → Prop) (w : World) (n : Nat) : Chg SS w (w.drewN n) := ⟨rfl, rfl, rfl, Nat.le_refl _, fun _ _ _ => rfl, Nat.le_add_right _ _⟩
theorem Qiy (SS : Nat → Prop) (w : World) (o : Obj) : Chg SS w (w.alloc o) := Chg.of_below (Rb w o)
def cut3 (s sep : ByteArray) : ByteArray × ByteArray × Bool := (⟨(Lib.cut s.data.toList sep.data.toList).1.toArray⟩, ⟨(Lib.cut s.data.toList sep.data.toList).2.1.toArray⟩, (Lib.cut s.data.toList sep.data.toList).2.2)
theorem cut_ok (L : Lays.n145 P ρ) (hg : ρ.g 1 ∈ GBi) (s sep : ByteArray) : Spec.ok P (ρ.f 145) ⟨[.r (.c (.v (.string s))), .r (.c (.v (.string sep)))], .tu [.v (.string (cut3 s sep).1), .v (.string (cut3 s sep).2.1), .v (.bool (cut3 s sep).2.2)], s.size ≤ 4294967280⟩ := by
 intro hs S w vs fp hS hG hA
 obtain ⟨u, us, f, g, rfl, ⟨⟨rfl, _⟩, rfl⟩, ⟨u2, us2, f2, g2, rfl, ⟨⟨rfl, _⟩, rfl⟩, ⟨rfl, rfl⟩, rfl, _⟩, rfl, _⟩ := hA
 obtain ⟨m, hm⟩ := hG.1.2.1 _ hg
 have hs : s.size ≤ 4294967280 := hs
 refine (Any.strings_Cut L s sep m w (by omega) hm).mono fun e w' ⟨h1, n, h2⟩ => ?_
 subst h2
 exact ⟨_, [], [], h1, ⟨[_, _, _], rfl, _, _, [], [], rfl, ⟨rfl, rfl, rfl⟩, ⟨_, _, [], [], rfl, ⟨rfl, rfl, rfl⟩, ⟨_, _, [], [], rfl, ⟨rfl, rfl, rfl⟩, ⟨rfl, rfl⟩, rfl⟩, rfl⟩, rfl⟩,
  ⟨_, _, [], [], rfl, rfl, ⟨_, _, [], [], rfl, rfl, rfl, rfl⟩, rfl⟩, List.nodup_nil, fun b hb => by simp at hb, Qie _ w n⟩
def Qu (s sep : ByteArray) : List ByteArray := Lib.splitB sep 0 (Lib.countB s sep) s
theorem Qge (w : World) : ∀ ys : List ByteArray, OwVs w (ys.map eStr).flatten (ys.map Value.string) []
 | [] => ⟨rfl, rfl⟩
 | y :: ys => ⟨.string y, ys.map Value.string, [], [], rfl, ⟨rfl, rfl, rfl⟩, Qge w ys, rfl, List.nodup_nil⟩
theorem Xd (s sep : ByteArray) (h1 : 1 ≤ sep.size) : (Qu s sep).length = Lib.countB s sep + 1 := Lib.splitB_all sep h1 0 _ s rfl
theorem Qog (L : Lays.n146 P ρ) (hi9 : (P.info? (ρ.t 9)).map (fun i => (i.zero, i.size, i.bytes)) = some (some (.string ByteArray.empty), 1, 16)) (hg : ρ.g 1 ∈ GBi) (s sep : ByteArray) :
  Spec.ok P (ρ.f 146) ⟨[.r (.c (.v (.string s))), .r (.c (.v (.string sep)))], .ow (.l 1 eStr (Qu s sep)), s.size ≤ 4294967280 ∧ 1 ≤ sep.size⟩ := by
 intro ⟨hs, h1⟩ S w vs fp hS hG hA
 obtain ⟨u, us, f, g, rfl, ⟨⟨rfl, _⟩, rfl⟩, ⟨u2, us2, f2, g2, rfl, ⟨⟨rfl, _⟩, rfl⟩, ⟨rfl, rfl⟩, rfl, _⟩, rfl, _⟩ := hA
 obtain ⟨m, hm⟩ := hG.1.2.1 _ hg
 have hle := Lib.countB_le sep h1 s.size s (Nat.le_refl _)
 have hlen := Xd s sep h1
 refine (Any.strings_Split L hi9 s sep m w (by omega) hm h1).mono fun e w' ⟨h2, h3⟩ => ?_
 subst h3
 refine ⟨_, [w.heap.size], [], h2, ?_, ⟨_, _, [], [], rfl, rfl, ⟨_, _, [], [], rfl, rfl, rfl, rfl⟩, rfl⟩, by simp, fun b hb => ?_, (Qiy _ w _).toD _⟩
 ·rw [← hlen]
  refine Bm (ys := Qu s sep) (vs := (Qu s sep).map Value.string) (rest := []) (c := (Qu s sep).length) (T := ρ.t 9) (Qge _ _) (fun y _ => rfl) (Rb w _) (by simp) ?_ (by simp) (Nat.le_refl _) (by omega)
  simp only [List.append_nil]
  exact heap_alloc_new w _
 ·have hb : b = w.heap.size := by simpa using hb
  subst hb
  exact ⟨by simp, .inr (Nat.le_refl _)⟩
theorem Qfn (s sep : ByteArray) (h1 : 1 ≤ sep.size) : 1 ≤ (Qu s sep).length := (Xd s sep h1).symm ▸ Nat.le_add_left 1 _
theorem Qin (s sep : ByteArray) (h1 : 1 ≤ sep.size) : (Qu s sep).length ≤ s.size + 1 := by
 rw [Xd s sep h1]
 have := Lib.countB_le sep h1 s.size s (Nat.le_refl _)
 omega
theorem Mu (s sep : ByteArray) : ((cut3 s sep).1.size : Int) ≤ (s.size : Int) := by
 have : (cut3 s sep).1.size ≤ s.size := by
  show (Lib.cut s.data.toList sep.data.toList).1.toArray.size ≤ s.data.size
  unfold Lib.cut
  split
  ·simp only [List.size_toArray, List.length_take, List.length_drop]
   have : s.data.toList.length = s.data.size := by simp
   omega
  ·simp
 omega
theorem Qns (s sep : ByteArray) : ((cut3 s sep).2.1.size : Int) ≤ (s.size : Int) := by
 have : (cut3 s sep).2.1.size ≤ s.size := by
  show (Lib.cut s.data.toList sep.data.toList).2.1.toArray.size ≤ s.data.size
  unfold Lib.cut
  split
  ·simp only [List.size_toArray, List.length_take, List.length_drop]
   have : s.data.toList.length = s.data.size := by simp
   omega
  ·simp
 omega
def Yb (xs : List ByteArray) (sep : ByteArray) : ByteArray := ⟨(Lib.join (xs.map (·.data.toList)) sep.data.toList).toArray⟩
theorem Qrd (L : Lays.n156 P ρ) (X : Builder.Extra P ρ) (xs : List ByteArray) (sep : ByteArray) :
  Spec.ok P (ρ.f 156) ⟨[.r (.c (.l 1 eStr xs)), .r (.c (.v (.string sep)))], .v (.string (Yb xs sep)), xs.length ≤ 140737488355328 ∧ (Yb xs sep).size ≤ 140737488355328⟩ false := by
 intro ⟨hl, hj⟩ S w vs fp hS hG hA
 obtain ⟨u, us, f, g, rfl, ⟨⟨a, c, rfl, hc, h63, hx⟩, rfl⟩, ⟨u2, us2, f2, g2, rfl, ⟨⟨rfl, _⟩, rfl⟩, ⟨rfl, rfl⟩, rfl, _⟩, rfl, _⟩ := hA
 have fin : ∀ (e : Ending) (w' : World), e = .returned (.string (Yb xs sep)) → Below w.heap.size w w' → ∃ rv fr fb, e = .returned rv ∧ RTOK w' (.v (.string (Yb xs sep))) rv fr ∧ Ge w' [.r (.c (.l 1 eStr xs)), .r (.c (.v (.string sep)))] [.slice a xs.length c, .string sep] fb ∧ (fr ++ fb).Nodup ∧ (∀ b ∈ fr ++ fb, b < w'.heap.size ∧ (b ∈ ([] ++ ([] ++ []) : List Nat) ∨ w.heap.size ≤ b)) ∧ Chg (· ∈ ([] ++ ([] ++ []) : List Nat)) (atD false w) w' :=
  fun e w' h1 h2 => ⟨_, [], [], h1, ⟨rfl, rfl, rfl⟩, ⟨_, _, [], [], rfl, rfl, ⟨_, _, [], [], rfl, rfl, rfl, rfl⟩, rfl⟩, List.nodup_nil, fun b hb => by simp at hb, ⟨h2.os, h2.tape, h2.output, h2.size, fun k hk _ => h2.block k hk, Nat.zero_le _⟩⟩
 cases xs with
 | nil =>
  refine (Any.strings_Join_none L X a c sep w).mono fun e w' ⟨h1, h2⟩ => fin e w' ?_ (h2 ▸ Below.refl _ _)
  rw [h1]; rfl
 | cons x xs =>
  obtain ⟨ha, hSb, _⟩ := hx 0 x rfl
  rw [ha]
  refine (Any.strings_Join L X (ab a) (ao a) c (x :: xs) sep w (fun j y hy => ?_) (hS _ hSb).1 hl hc (by simpa [Yb, ByteArray.size] using hj)).mono fun e w' ⟨h1, h2⟩ => ?_
  ·obtain ⟨_, _, cs, h1, h2, h3⟩ := hx j y hy
   obtain ⟨u, us, rfl, ⟨rfl, _⟩, _⟩ := h3
   have := h2 0 _ rfl
   simpa using this
  ·have := fin e w' h1 h2
   rw [ha] at this
   exact this
def Yw (xs : List ByteArray) : List ByteArray := ((xs.map (·.data.toList)).mergeSort fun x y => decide (x ≤ y)).map fun l => ⟨l.toArray⟩
theorem Yz (xs : List ByteArray) : (Yw xs).length = xs.length := by simp [Yw, List.length_mergeSort]
open Go.Sort in
theorem Qjx (L : Lays.n190 P ρ) (xs : List ByteArray) :
  Spec.ok P (ρ.f 190) ⟨[.ow (.l 1 eStr xs) (some (.l 1 eStr (Yw xs)))], .tu [], xs.length ≤ 4000000000000000000⟩ := by
 intro hl S w vs fp hS hG hA
 have hl : xs.length ≤ 4000000000000000000 := hl
 obtain ⟨u, us, f, g, rfl, hO, ⟨rfl, rfl⟩, rfl, hnd⟩ := hA
 simp only [List.append_nil] at hnd hS ⊢
 obtain ⟨a, c, rfl, hc, h63, hO⟩ := hO
 by_cases hx : xs = []
 ·subst hx
  refine (calls_of_every_depth fun D => AnyS.slices_Sort_string_none_in L D a c w).mono fun e' w' ⟨h1, h2⟩ => ?_
  subst h2
  have hs : Yw [] = [] := by simp [Yw]
  refine ⟨_, [], f, h1, ⟨[], rfl, rfl, rfl⟩, ⟨_, _, f, [], rfl, ?_, rfl, by simp⟩, by simpa using hnd, fun b hb => ?_, (Chg.of_below (Bel.refl _ _)).toD _⟩
  ·show OwV w' (.l 1 eStr (Yw [])) _ f
   rw [hs]; exact ⟨a, c, rfl, hc, h63, hO⟩
  ·have hb : b ∈ f := by simpa using hb
   exact ⟨OwV.lt (.l 1 eStr ([] : List ByteArray)) _ f ⟨a, c, rfl, hc, h63, hO⟩ b hb, .inl hb⟩
 rcases hO with ⟨_, rfl, _⟩ | ⟨b, o, T, cells, fps, rfl, hbox, hlen, hfl, hel, rfl, hnd'⟩
 ·exact absurd rfl hx
 let zs : List (List UInt8) := xs.map (·.data.toList)
 have hzl : zs.length = xs.length := by simp [zs]
 let ss : List (List UInt8) := zs.mergeSort fun x y => decide (x ≤ y)
 have hsl : ss.length = xs.length := by simp [ss, List.length_mergeSort, hzl]
 have hcell : ∀ i (hi : i < xs.length), cells[o + i]? = some (.string xs[i]) ∧ fps[i]'(by omega) = [] := fun i hi => by
  obtain ⟨h1, h2⟩ := hel i xs[i] (fps[i]'(by omega)) (List.getElem?_eq_getElem hi) (List.getElem?_eq_getElem _)
  obtain ⟨v, vs', f1, f2, h3, ⟨rfl, _, rfl⟩, ⟨rfl, rfl⟩, h4, _⟩ := h2
  refine ⟨?_, by rw [h4]; rfl⟩
  have := congrArg (fun l : List Value => l[0]?) h3
  simpa [List.getElem?_take, List.getElem?_drop] using this
 have hH : Go.Sort.Holds encStr w b o zs.toArray := by
  intro j hj
  have hj' : j < xs.length := by simpa [zs] using hj
  have hb' : w.heap[b]? = some (.cells cells.toArray T (0, 0)) := hbox
  refine ⟨?_, by simp [World.frozen?, hb']⟩
  rw [getElem!_pos zs.toArray j hj]
  simp only [World.cell?, hb']
  simp only [Option.isSome_none, Bool.false_eq_true, if_false, List.getElem?_toArray]
  rw [(hcell j hj').1]
  simp [zs, encStr]
 have hcall := calls_of_every_depth fun D => AnyS.slices_Sort_string_alone L D b o c zs w hH hbox.lt (by omega)
 rw [hzl] at hcall
 refine hcall.mono fun e' w' ⟨h1, n, os, hw'⟩ => ?_
 have hsz : (putRow encStr (Sort.ahead w n) b o ss.toArray).heap.size = w.heap.size := by simp [putRow, mapBlock, Sort.ahead]
 have s1 : ∀ b', b' < w.heap.size → b' ≠ b → w'.heap[b']? = w.heap[b']? := fun b' hb' hne => by
  rw [hw']
  show ((putRow encStr (Sort.ahead w n) b o ss.toArray).heap ++ os)[b']? = _
  rw [Array.getElem?_append_left (by rw [hsz]; exact hb')]
  simp only [putRow, mapBlock, Sort.ahead, Array.getElem?_modify]
  rw [if_neg (Ne.symm hne)]
 have s2 : w.heap.size ≤ w'.heap.size := by
  rw [hw']
  show _ ≤ ((putRow encStr (Sort.ahead w n) b o ss.toArray).heap ++ os).size
  rw [Array.size_append, hsz]; omega
 let cells' : List Value := (putCells encStr o ss.toArray cells.toArray).toList
 have hcl : cells'.length = cells.length := by simp [cells', putCells]
 have hbox' : Box w' b T cells' := by
  show w'.heap[b]? = _
  rw [hw']
  show ((putRow encStr (Sort.ahead w n) b o ss.toArray).heap ++ os)[b]? = _
  have hb' : w.heap[b]? = some (.cells cells.toArray T (0, 0)) := hbox
  rw [Array.getElem?_append_left (by rw [hsz]; exact hbox.lt)]
  simp only [putRow, mapBlock, Sort.ahead, Array.getElem?_modify, if_true, hb', Option.map_some, onCells]
  simp [cells']
 have hc' : ∀ i (hi : i < xs.length), cells'[o + i]? = some (.string ((Yw xs)[i]'(by rw [Yz]; exact hi))) := fun i hi => by
  have hin : o + i < cells.length := by omega
  simp only [cells', putCells, Array.getElem?_toList, Array.getElem?_mapIdx]
  rw [Array.getElem?_eq_getElem (by simp; omega)]
  simp only [Option.map_some]
  rw [if_pos ⟨by omega, by simp only [List.size_toArray]; omega⟩]
  have e1 : o + i - o = i := by omega
  rw [e1, getElem!_pos ss.toArray i (by simp only [List.size_toArray]; omega)]
  simp [encStr, Yw, ss, zs]
 refine ⟨_, [], b :: fps.flatten, h1, ⟨[], rfl, rfl, rfl⟩, ⟨_, _, b :: fps.flatten, [], rfl, ?_, rfl, by simp⟩, by simpa using hnd', fun b' hb' => ?_, Chg.toD _ ?_⟩
 ·have hflat : fps.flatten = [] := by
   rw [List.flatten_eq_nil_iff]
   intro f hf
   obtain ⟨i, hi, rfl⟩ := List.getElem_of_mem hf
   exact (hcell i (by omega)).2
  show OwV w' (.l 1 eStr (Yw xs)) _ _
  refine ⟨_, c, by rw [Yz], by rw [Yz]; exact hc, by rw [Yz]; exact h63, .inr ⟨b, o, T, cells', List.replicate xs.length [], rfl, hbox', by rw [hcl, hlen], by simp [Yz], fun i x f hx hf => ?_, by rw [hflat]; simp, hnd'⟩⟩
  have hi : i < xs.length := by have := (List.getElem?_eq_some_iff.1 hx).1; rwa [Yz] at this
  have hf' : f = [] := by
   rw [List.getElem?_replicate, if_pos hi] at hf
   exact (Option.some.inj hf).symm
  have hxe : (Yw xs)[i]'(by rw [Yz]; exact hi) = x := (List.getElem?_eq_some_iff.1 hx).2
  have htk : (cells'.drop (o + i * 1)).take 1 = [.string x] := by
   have h2 := hc' i hi
   rw [hxe] at h2
   refine List.ext_getElem? fun j => ?_
   rw [List.getElem?_take, Nat.mul_one]
   cases j with
   | zero => simp [List.getElem?_drop, h2]
   | succ j => simp
  rw [htk, hf']
  exact ⟨rfl, _, _, [], [], rfl, ⟨rfl, rfl, rfl⟩, ⟨rfl, rfl⟩, rfl, List.nodup_nil⟩
 ·have hb2 : b' ∈ b :: fps.flatten := by simpa using hb'
  refine ⟨Nat.lt_of_lt_of_le ?_ s2, .inl hb2⟩
  rcases List.mem_cons.1 hb2 with rfl | h
  ·exact hbox.lt
  ·exact OwV.lt (.l 1 eStr xs) _ _ ⟨_, c, rfl, hc, h63, .inr ⟨b, o, T, cells, fps, rfl, hbox, hlen, hfl, hel, rfl, hnd'⟩⟩ b' (List.mem_cons_of_mem _ h)
 ·refine ⟨by rw [hw']; rfl, by rw [hw']; rfl, by rw [hw']; rfl, s2, fun k' hk' hn => s1 k' hk' fun e => hn (by rw [e]; exact List.mem_cons_self), ?_⟩
  rw [hw']
  show w.drawn ≤ w.drawn + n
  omega
end
end Go.Proofs.YtmoodkjkecjeaacGreatDoor
namespace Go.Proofs.YtmoodkjkecjeaacGreatDoor
open Go.Shelf Go.RowKit
def Qaa : Go.Shelf.Ren := ⟨fun | 190 => 20 | 125 => 28 | 258 => 27 | 128 => 45 | 129 => 46 | 302 => 36 | 303 => 37 | 304 => 38 | 305 => 39 | 306 => 40 | 307 => 41 | 308 => 42 | 309 => 43 | 310 => 44 | 333 => 56 | 329 => 57 | 330 => 58 | 334 => 59 | 335 => 60 | 336 => 61 | 344 => 82 | n => n, fun | 31 => 22 | 9 => 9 | 3 => 3 | 46 => 40 | 0 => 0 | 51 => 63 | 53 => 65 | 4 => 4 | 183 => 55 | 182 => 54 | 131 => 60 | 5 => 5 | 218 => 78 | 222 => 82 | 228 => 95 | 229 => 96 | n => n, fun | n => n⟩
theorem Qkb : Go.Proofs.Lays.n190 Tryz.prog Qaa := {
 mixed := by kernel_rfl
 f125 := Tryz.func28.trans (congrArg some (by kernel_rfl))
 f128 := Tryz.func45.trans (congrArg some (by kernel_rfl))
 f129 := Tryz.func46.trans (congrArg some (by kernel_rfl))
 f190 := Tryz.func20.trans (congrArg some (by kernel_rfl))
 f258 := Tryz.func27.trans (congrArg some (by kernel_rfl))
 f302 := Tryz.func36.trans (congrArg some (by kernel_rfl))
 f303 := Tryz.func37.trans (congrArg some (by kernel_rfl))
 f304 := Tryz.func38.trans (congrArg some (by kernel_rfl))
 f305 := Tryz.func39.trans (congrArg some (by kernel_rfl))
 f306 := Tryz.func40.trans (congrArg some (by kernel_rfl))
 f307 := Tryz.func41.trans (congrArg some (by kernel_rfl))
 f308 := Tryz.func42.trans (congrArg some (by kernel_rfl))
 f309 := Tryz.func43.trans (congrArg some (by kernel_rfl))
 f310 := Tryz.func44.trans (congrArg some (by kernel_rfl))
 f329 := Tryz.func57.trans (congrArg some (by kernel_rfl))
 f330 := Tryz.func58.trans (congrArg some (by kernel_rfl))
 f333 := Tryz.func56.trans (congrArg some (by kernel_rfl))
 f334 := Tryz.func59.trans (congrArg some (by kernel_rfl))
 f335 := Tryz.func60.trans (congrArg some (by kernel_rfl))
 f336 := Tryz.func61.trans (congrArg some (by kernel_rfl))
 f344 := Tryz.func82.trans (congrArg some (by kernel_rfl))
 t0 := Tryz.underlying0
 a0 := Tryz.isAgg0
 z0 := Tryz.sizeOf0
 v0 := Tryz.zeroValue0
 t3 := Tryz.underlying3
 a3 := Tryz.isAgg3
 z3 := Tryz.sizeOf3
 v3 := Tryz.zeroValue3
 t4 := Tryz.underlying4
 a4 := Tryz.isAgg4
 z4 := Tryz.sizeOf4
 v4 := Tryz.zeroValue4
 t5 := Tryz.underlying5
 a5 := Tryz.isAgg5
 z5 := Tryz.sizeOf5
 v5 := Tryz.zeroValue5
 t9 := Tryz.underlying9
 a9 := Tryz.isAgg9
 z9 := Tryz.sizeOf9
 v9 := Tryz.zeroValue9
 t31 := Tryz.underlying22
 a31 := Tryz.isAgg22
 z31 := Tryz.sizeOf22
 v31 := Tryz.zeroValue22
 t46 := Tryz.underlying40
 a46 := Tryz.isAgg40
 z46 := Tryz.sizeOf40
 v46 := Tryz.zeroValue40
 t51 := Tryz.underlying63
 a51 := Tryz.isAgg63
 z51 := Tryz.sizeOf63
 v51 := Tryz.zeroValue63
 t53 := Tryz.underlying65
 a53 := Tryz.isAgg65
 z53 := Tryz.sizeOf65
 v53 := Tryz.zeroValue65
 t131 := Tryz.underlying60
 a131 := Tryz.isAgg60
 z131 := Tryz.sizeOf60
 v131 := Tryz.zeroValue60
 t182 := Tryz.underlying54
 a182 := Tryz.isAgg54
 z182 := Tryz.sizeOf54
 v182 := Tryz.zeroValue54
 t183 := Tryz.underlying55
 a183 := Tryz.isAgg55
 z183 := Tryz.sizeOf55
 v183 := Tryz.zeroValue55
 t218 := Tryz.underlying78
 a218 := Tryz.isAgg78
 z218 := Tryz.sizeOf78
 v218 := Tryz.zeroValue78
 t222 := Tryz.underlying82
 a222 := Tryz.isAgg82
 z222 := Tryz.sizeOf82
 v222 := Tryz.zeroValue82
 t228 := Tryz.underlying95
 a228 := Tryz.isAgg95
 z228 := Tryz.sizeOf95
 v228 := Tryz.zeroValue95
 t229 := Tryz.underlying96
 a229 := Tryz.isAgg96
 z229 := Tryz.sizeOf96
 v229 := Tryz.zeroValue96 }
def Ev : Go.Shelf.Ren := ⟨fun | 146 => 33 | 221 => 50 | 268 => 69 | 138 => 70 | 143 => 71 | 195 => 89 | 197 => 90 | 218 => 91 | 219 => 92 | 260 => 107 | 217 => 108 | 225 => 109 | 224 => 110 | 267 => 111 | 266 => 115 | 314 => 116 | n => n, fun | 9 => 9 | 31 => 22 | 3 => 3 | 4 => 4 | 0 => 0 | 105 => 100 | 21 => 21 | 5 => 5 | 46 => 40 | 119 => 116 | 139 => 119 | 138 => 118 | 146 => 120 | 51 => 63 | n => n, fun | 1 => 0 | 3 => 1 | 4 => 2 | n => n⟩
theorem Qkv : Go.Proofs.Lays.n146 Tryz.prog Ev := {
 mixed := by kernel_rfl
 f138 := Tryz.func70.trans (congrArg some (by kernel_rfl))
 f143 := Tryz.func71.trans (congrArg some (by kernel_rfl))
 f146 := Tryz.func33.trans (congrArg some (by kernel_rfl))
 f195 := Tryz.func89.trans (congrArg some (by kernel_rfl))
 f197 := Tryz.func90.trans (congrArg some (by kernel_rfl))
 f217 := Tryz.func108.trans (congrArg some (by kernel_rfl))
 f218 := Tryz.func91.trans (congrArg some (by kernel_rfl))
 f219 := Tryz.func92.trans (congrArg some (by kernel_rfl))
 f221 := Tryz.func50.trans (congrArg some (by kernel_rfl))
 f224 := Tryz.func110.trans (congrArg some (by kernel_rfl))
 f225 := Tryz.func109.trans (congrArg some (by kernel_rfl))
 f260 := Tryz.func107.trans (congrArg some (by kernel_rfl))
 f266 := Tryz.func115.trans (congrArg some (by kernel_rfl))
 f267 := Tryz.func111.trans (congrArg some (by kernel_rfl))
 f268 := Tryz.func69.trans (congrArg some (by kernel_rfl))
 f314 := Tryz.func116.trans (congrArg some (by kernel_rfl))
 t0 := Tryz.underlying0
 a0 := Tryz.isAgg0
 z0 := Tryz.sizeOf0
 v0 := Tryz.zeroValue0
 t3 := Tryz.underlying3
 a3 := Tryz.isAgg3
 z3 := Tryz.sizeOf3
 v3 := Tryz.zeroValue3
 t4 := Tryz.underlying4
 a4 := Tryz.isAgg4
 z4 := Tryz.sizeOf4
 v4 := Tryz.zeroValue4
 t5 := Tryz.underlying5
 a5 := Tryz.isAgg5
 z5 := Tryz.sizeOf5
 v5 := Tryz.zeroValue5
 t9 := Tryz.underlying9
 a9 := Tryz.isAgg9
 z9 := Tryz.sizeOf9
 v9 := Tryz.zeroValue9
 t21 := Tryz.underlying21
 a21 := Tryz.isAgg21
 z21 := Tryz.sizeOf21
 v21 := Tryz.zeroValue21
 t31 := Tryz.underlying22
 a31 := Tryz.isAgg22
 z31 := Tryz.sizeOf22
 v31 := Tryz.zeroValue22
 t46 := Tryz.underlying40
 a46 := Tryz.isAgg40
 z46 := Tryz.sizeOf40
 v46 := Tryz.zeroValue40
 t51 := Tryz.underlying63
 a51 := Tryz.isAgg63
 z51 := Tryz.sizeOf63
 v51 := Tryz.zeroValue63
 t105 := Tryz.underlying100
 a105 := Tryz.isAgg100
 z105 := Tryz.sizeOf100
 v105 := Tryz.zeroValue100
 t119 := Tryz.underlying116
 a119 := Tryz.isAgg116
 z119 := Tryz.sizeOf116
 t138 := Tryz.underlying118
 a138 := Tryz.isAgg118
 z138 := Tryz.sizeOf118
 v138 := Tryz.zeroValue118
 t139 := Tryz.underlying119
 a139 := Tryz.isAgg119
 z139 := Tryz.sizeOf119
 v139 := Tryz.zeroValue119
 t146 := Tryz.underlying120
 a146 := Tryz.isAgg120
 z146 := Tryz.sizeOf120
 v146 := Tryz.zeroValue120
 g1 := by kernel_rfl
 g3 := by kernel_rfl
 g4 := by kernel_rfl }
def Hc : Go.Shelf.Ren := ⟨fun | 156 => 35 | 165 => 53 | 166 => 54 | 169 => 55 | 240 => 80 | 241 => 81 | 276 => 100 | 277 => 101 | n => n, fun | 31 => 22 | 9 => 9 | 3 => 3 | 4 => 4 | 0 => 0 | 20 => 20 | 72 => 71 | 76 => 75 | 70 => 69 | 37 => 33 | 75 => 74 | 127 => 94 | 164 => 108 | 5 => 5 | 80 => 77 | n => n, fun | n => n⟩
theorem Qri : Go.Proofs.Lays.n156 Tryz.prog Hc := {
 mixed := by kernel_rfl
 f156 := Tryz.func35.trans (congrArg some (by kernel_rfl))
 f165 := Tryz.func53.trans (congrArg some (by kernel_rfl))
 f166 := Tryz.func54.trans (congrArg some (by kernel_rfl))
 f169 := Tryz.func55.trans (congrArg some (by kernel_rfl))
 f240 := Tryz.func80.trans (congrArg some (by kernel_rfl))
 f241 := Tryz.func81.trans (congrArg some (by kernel_rfl))
 f276 := Tryz.func100.trans (congrArg some (by kernel_rfl))
 f277 := Tryz.func101.trans (congrArg some (by kernel_rfl))
 t0 := Tryz.underlying0
 a0 := Tryz.isAgg0
 z0 := Tryz.sizeOf0
 v0 := Tryz.zeroValue0
 t3 := Tryz.underlying3
 a3 := Tryz.isAgg3
 z3 := Tryz.sizeOf3
 v3 := Tryz.zeroValue3
 t4 := Tryz.underlying4
 a4 := Tryz.isAgg4
 z4 := Tryz.sizeOf4
 v4 := Tryz.zeroValue4
 t9 := Tryz.underlying9
 a9 := Tryz.isAgg9
 z9 := Tryz.sizeOf9
 v9 := Tryz.zeroValue9
 t20 := Tryz.underlying20
 a20 := Tryz.isAgg20
 z20 := Tryz.sizeOf20
 v20 := Tryz.zeroValue20
 t31 := Tryz.underlying22
 a31 := Tryz.isAgg22
 z31 := Tryz.sizeOf22
 v31 := Tryz.zeroValue22
 t37 := Tryz.underlying33
 a37 := Tryz.isAgg33
 z37 := Tryz.sizeOf33
 v37 := Tryz.zeroValue33
 t70 := Tryz.underlying69
 a70 := Tryz.isAgg69
 z70 := Tryz.sizeOf69
 v70 := Tryz.zeroValue69
 t72 := Tryz.underlying71
 a72 := Tryz.isAgg71
 z72 := Tryz.sizeOf71
 v72 := Tryz.zeroValue71
 t75 := Tryz.underlying74
 a75 := Tryz.isAgg74
 z75 := Tryz.sizeOf74
 v75 := Tryz.zeroValue74
 t76 := Tryz.underlying75
 a76 := Tryz.isAgg75
 z76 := Tryz.sizeOf75
 v76 := Tryz.zeroValue75
 t127 := Tryz.underlying94
 a127 := Tryz.isAgg94
 z127 := Tryz.sizeOf94
 v127 := Tryz.zeroValue94
 t164 := Tryz.underlying108
 a164 := Tryz.isAgg108
 z164 := Tryz.sizeOf108
 v164 := Tryz.zeroValue108 }
def Qdm : Go.Shelf.Ren := ⟨fun | 145 => 64 | 220 => 88 | 219 => 92 | 217 => 108 | 225 => 109 | 224 => 110 | 267 => 111 | 266 => 115 | 314 => 116 | n => n, fun | 9 => 9 | 4 => 4 | 59 => 84 | 3 => 3 | 5 => 5 | 46 => 40 | 146 => 120 | 51 => 63 | n => n, fun | 1 => 0 | n => n⟩
theorem layCut : Go.Proofs.Lays.n145 Tryz.prog Qdm := {
 mixed := by kernel_rfl
 f145 := Tryz.func64.trans (congrArg some (by kernel_rfl))
 f217 := Tryz.func108.trans (congrArg some (by kernel_rfl))
 f219 := Tryz.func92.trans (congrArg some (by kernel_rfl))
 f220 := Tryz.func88.trans (congrArg some (by kernel_rfl))
 f224 := Tryz.func110.trans (congrArg some (by kernel_rfl))
 f225 := Tryz.func109.trans (congrArg some (by kernel_rfl))
 f266 := Tryz.func115.trans (congrArg some (by kernel_rfl))
 f267 := Tryz.func111.trans (congrArg some (by kernel_rfl))
 f314 := Tryz.func116.trans (congrArg some (by kernel_rfl))
 t3 := Tryz.underlying3
 a3 := Tryz.isAgg3
 z3 := Tryz.sizeOf3
 v3 := Tryz.zeroValue3
 t4 := Tryz.underlying4
 a4 := Tryz.isAgg4
 z4 := Tryz.sizeOf4
 v4 := Tryz.zeroValue4
 t5 := Tryz.underlying5
 a5 := Tryz.isAgg5
 z5 := Tryz.sizeOf5
 v5 := Tryz.zeroValue5
 t9 := Tryz.underlying9
 a9 := Tryz.isAgg9
 z9 := Tryz.sizeOf9
 v9 := Tryz.zeroValue9
 t46 := Tryz.underlying40
 a46 := Tryz.isAgg40
 z46 := Tryz.sizeOf40
 v46 := Tryz.zeroValue40
 t51 := Tryz.underlying63
 a51 := Tryz.isAgg63
 z51 := Tryz.sizeOf63
 v51 := Tryz.zeroValue63
 t59 := Tryz.underlying84
 a59 := Tryz.isAgg84
 z59 := Tryz.sizeOf84
 v59 := Tryz.zeroValue84
 t146 := Tryz.underlying120
 a146 := Tryz.isAgg120
 z146 := Tryz.sizeOf120
 v146 := Tryz.zeroValue120
 g1 := by kernel_rfl }
def Qcx : Go.Shelf.Ren := ⟨fun | 145 => 64 | 220 => 88 | 219 => 92 | 217 => 108 | 225 => 109 | 224 => 110 | 267 => 111 | 266 => 115 | 314 => 116 | n => n, fun | 9 => 9 | 4 => 4 | 59 => 84 | 3 => 3 | 5 => 5 | 46 => 40 | 146 => 120 | 51 => 63 | n => n, fun | 1 => 0 | n => n⟩
theorem layCutM : Go.Proofs.LaysM.n145 Tryz.prog Qcx := {
 mixed := by kernel_rfl
 f145 := Tryz.func64.trans (congrArg some (by kernel_rfl))
 f217 := Tryz.func108.trans (congrArg some (by kernel_rfl))
 f219 := Tryz.func92.trans (congrArg some (by kernel_rfl))
 f220 := Tryz.func88.trans (congrArg some (by kernel_rfl))
 f224 := Tryz.func110.trans (congrArg some (by kernel_rfl))
 f225 := Tryz.func109.trans (congrArg some (by kernel_rfl))
 f266 := Tryz.func115.trans (congrArg some (by kernel_rfl))
 f267 := Tryz.func111.trans (congrArg some (by kernel_rfl))
 f314 := Tryz.func116.trans (congrArg some (by kernel_rfl))
 t3 := Tryz.underlying3
 a3 := Tryz.isAgg3
 z3 := Tryz.sizeOf3
 v3 := Tryz.zeroValue3
 t4 := Tryz.underlying4
 a4 := Tryz.isAgg4
 z4 := Tryz.sizeOf4
 v4 := Tryz.zeroValue4
 t5 := Tryz.underlying5
 a5 := Tryz.isAgg5
 z5 := Tryz.sizeOf5
 v5 := Tryz.zeroValue5
 t9 := Tryz.underlying9
 a9 := Tryz.isAgg9
 z9 := Tryz.sizeOf9
 v9 := Tryz.zeroValue9
 t46 := Tryz.underlying40
 a46 := Tryz.isAgg40
 z46 := Tryz.sizeOf40
 v46 := Tryz.zeroValue40
 t51 := Tryz.underlying63
 a51 := Tryz.isAgg63
 z51 := Tryz.sizeOf63
 v51 := Tryz.zeroValue63
 t59 := Tryz.underlying84
 a59 := Tryz.isAgg84
 z59 := Tryz.sizeOf84
 v59 := Tryz.zeroValue84
 t146 := Tryz.underlying120
 a146 := Tryz.isAgg120
 z146 := Tryz.sizeOf120
 v146 := Tryz.zeroValue120
 g1 := by kernel_rfl
 i3 := by kernel_rfl
 i4 := by kernel_rfl
 i5 := by kernel_rfl
 i9 := by kernel_rfl
 i46 := by kernel_rfl
 i51 := by kernel_rfl
 i59 := by kernel_rfl
 i146 := by kernel_rfl
 m1 := by kernel_rfl
 s1_3 := fun w h => Go.Proofs.cell_of_shapedOpen_int (zero := #[.int .i64 0]) (t := 3) h (of_decide_eq_true (by kernel_rfl)) (by kernel_rfl) rfl (by kernel_rfl) (by kernel_rfl) Tryz.underlying3 }
def layAtoi_ren : Go.Shelf.Ren := ⟨fun | 172 => 117 | 244 => 120 | 245 => 121 | 247 => 123 | 279 => 124 | 280 => 125 | 281 => 126 | 282 => 127 | 287 => 129 | 316 => 130 | 171 => 118 | 205 => 131 | 321 => 136 | 322 => 137 | 243 => 122 | 246 => 128 | 283 => 132 | 284 => 133 | 285 => 134 | 286 => 135 | 129 => 46 | 317 => 138 | 318 => 139 | 319 => 140 | 320 => 141 | 337 => 142 | 338 => 143 | n => n, fun | 9 => 9 | 3 => 3 | 75 => 74 | 76 => 75 | 4 => 4 | 5 => 5 | 167 => 124 | 37 => 33 | 0 => 0 | 85 => 125 | 2 => 2 | 168 => 127 | 53 => 65 | 175 => 131 | 46 => 40 | 210 => 134 | 127 => 94 | 145 => 143 | 143 => 141 | 21 => 21 | 171 => 136 | 173 => 138 | 212 => 145 | 51 => 63 | 20 => 20 | 213 => 146 | 232 => 148 | 233 => 149 | 80 => 77 | n => n, fun | 15 => 3 | 16 => 4 | 17 => 5 | 18 => 6 | 19 => 7 | n => n⟩
theorem El : Go.Proofs.LaysC.n172 Tryz.prog layAtoi_ren := {
 mixed := by kernel_rfl
 f129 := Tryz.func46.trans (congrArg some (by kernel_rfl))
 f171 := Tryz.func118.trans (congrArg some (by kernel_rfl))
 f172 := Tryz.func117.trans (congrArg some (by kernel_rfl))
 f205 := Tryz.func131.trans (congrArg some (by kernel_rfl))
 f243 := Tryz.func122.trans (congrArg some (by kernel_rfl))
 f244 := Tryz.func120.trans (congrArg some (by kernel_rfl))
 f245 := Tryz.func121.trans (congrArg some (by kernel_rfl))
 f246 := Tryz.func128.trans (congrArg some (by kernel_rfl))
 f247 := Tryz.func123.trans (congrArg some (by kernel_rfl))
 f279 := Tryz.func124.trans (congrArg some (by kernel_rfl))
 f280 := Tryz.func125.trans (congrArg some (by kernel_rfl))
 f281 := Tryz.func126.trans (congrArg some (by kernel_rfl))
 f282 := Tryz.func127.trans (congrArg some (by kernel_rfl))
 f283 := Tryz.func132.trans (congrArg some (by kernel_rfl))
 f284 := Tryz.func133.trans (congrArg some (by kernel_rfl))
 f285 := Tryz.func134.trans (congrArg some (by kernel_rfl))
 f286 := Tryz.func135.trans (congrArg some (by kernel_rfl))
 f287 := Tryz.func129.trans (congrArg some (by kernel_rfl))
 f316 := Tryz.func130.trans (congrArg some (by kernel_rfl))
 f317 := Tryz.func138.trans (congrArg some (by kernel_rfl))
 f318 := Tryz.func139.trans (congrArg some (by kernel_rfl))
 f319 := Tryz.func140.trans (congrArg some (by kernel_rfl))
 f320 := Tryz.func141.trans (congrArg some (by kernel_rfl))
 f321 := Tryz.func136.trans (congrArg some (by kernel_rfl))
 f322 := Tryz.func137.trans (congrArg some (by kernel_rfl))
 f337 := Tryz.func142.trans (congrArg some (by kernel_rfl))
 f338 := Tryz.func143.trans (congrArg some (by kernel_rfl))
 t0 := Tryz.underlying0
 a0 := Tryz.isAgg0
 z0 := Tryz.sizeOf0
 v0 := Tryz.zeroValue0
 t2 := Tryz.underlying2
 a2 := Tryz.isAgg2
 z2 := Tryz.sizeOf2
 v2 := Tryz.zeroValue2
 t3 := Tryz.underlying3
 a3 := Tryz.isAgg3
 z3 := Tryz.sizeOf3
 v3 := Tryz.zeroValue3
 t4 := Tryz.underlying4
 a4 := Tryz.isAgg4
 z4 := Tryz.sizeOf4
 v4 := Tryz.zeroValue4
 t5 := Tryz.underlying5
 a5 := Tryz.isAgg5
 z5 := Tryz.sizeOf5
 v5 := Tryz.zeroValue5
 t9 := Tryz.underlying9
 a9 := Tryz.isAgg9
 z9 := Tryz.sizeOf9
 v9 := Tryz.zeroValue9
 t20 := Tryz.underlying20
 a20 := Tryz.isAgg20
 z20 := Tryz.sizeOf20
 v20 := Tryz.zeroValue20
 t21 := Tryz.underlying21
 a21 := Tryz.isAgg21
 z21 := Tryz.sizeOf21
 v21 := Tryz.zeroValue21
 t37 := Tryz.underlying33
 a37 := Tryz.isAgg33
 z37 := Tryz.sizeOf33
 v37 := Tryz.zeroValue33
 t46 := Tryz.underlying40
 a46 := Tryz.isAgg40
 z46 := Tryz.sizeOf40
 v46 := Tryz.zeroValue40
 t51 := Tryz.underlying63
 a51 := Tryz.isAgg63
 z51 := Tryz.sizeOf63
 v51 := Tryz.zeroValue63
 t53 := Tryz.underlying65
 a53 := Tryz.isAgg65
 z53 := Tryz.sizeOf65
 v53 := Tryz.zeroValue65
 t75 := Tryz.underlying74
 a75 := Tryz.isAgg74
 z75 := Tryz.sizeOf74
 v75 := Tryz.zeroValue74
 t76 := Tryz.underlying75
 a76 := Tryz.isAgg75
 z76 := Tryz.sizeOf75
 v76 := Tryz.zeroValue75
 t85 := Tryz.underlying125
 a85 := Tryz.isAgg125
 z85 := Tryz.sizeOf125
 v85 := Tryz.zeroValue125
 t127 := Tryz.underlying94
 a127 := Tryz.isAgg94
 z127 := Tryz.sizeOf94
 v127 := Tryz.zeroValue94
 t143 := Tryz.underlying141
 a143 := Tryz.isAgg141
 z143 := Tryz.sizeOf141
 v143 := Tryz.zeroValue141
 t145 := Tryz.underlying143
 a145 := Tryz.isAgg143
 z145 := Tryz.sizeOf143
 v145 := Tryz.zeroValue143
 t167 := Tryz.underlying124
 a167 := Tryz.isAgg124
 z167 := Tryz.sizeOf124
 v167 := Tryz.zeroValue124
 t168 := Tryz.underlying127
 a168 := Tryz.isAgg127
 z168 := Tryz.sizeOf127
 v168 := Tryz.zeroValue127
 t171 := Tryz.underlying136
 a171 := Tryz.isAgg136
 z171 := Tryz.sizeOf136
 v171 := Tryz.zeroValue136
 t173 := Tryz.underlying138
 a173 := Tryz.isAgg138
 z173 := Tryz.sizeOf138
 v173 := Tryz.zeroValue138
 t175 := Tryz.underlying131
 a175 := Tryz.isAgg131
 z175 := Tryz.sizeOf131
 v175 := Tryz.zeroValue131
 t210 := Tryz.underlying134
 a210 := Tryz.isAgg134
 z210 := Tryz.sizeOf134
 v210 := Tryz.zeroValue134
 t212 := Tryz.underlying145
 a212 := Tryz.isAgg145
 z212 := Tryz.sizeOf145
 v212 := Tryz.zeroValue145
 t213 := Tryz.underlying146
 a213 := Tryz.isAgg146
 z213 := Tryz.sizeOf146
 t232 := Tryz.underlying148
 a232 := Tryz.isAgg148
 z232 := Tryz.sizeOf148
 v232 := Tryz.zeroValue148
 t233 := Tryz.underlying149
 a233 := Tryz.isAgg149
 z233 := Tryz.sizeOf149
 v233 := Tryz.zeroValue149
 g15 := by kernel_rfl
 g16 := by kernel_rfl
 g17 := by kernel_rfl
 g18 := by kernel_rfl
 g19 := by kernel_rfl
 t80 := Tryz.underlying77
 a80 := Tryz.isAgg77
 z80 := Tryz.sizeOf77
 v80 := Tryz.zeroValue77
 i0 := by kernel_rfl
 i2 := by kernel_rfl
 i3 := by kernel_rfl
 i4 := by kernel_rfl
 i5 := by kernel_rfl
 i9 := by kernel_rfl
 i20 := by kernel_rfl
 i21 := by kernel_rfl
 i37 := by kernel_rfl
 i46 := by kernel_rfl
 i51 := by kernel_rfl
 i53 := by kernel_rfl
 i75 := by kernel_rfl
 i76 := by kernel_rfl
 i80 := by kernel_rfl
 i85 := by kernel_rfl
 i127 := by kernel_rfl
 i143 := by kernel_rfl
 i145 := by kernel_rfl
 i167 := by kernel_rfl
 i168 := by kernel_rfl
 i171 := by kernel_rfl
 i173 := by kernel_rfl
 i175 := by kernel_rfl
 i210 := by kernel_rfl
 i212 := by kernel_rfl
 i232 := by kernel_rfl
 i233 := by kernel_rfl
 m15 := by kernel_rfl
 m16 := by kernel_rfl
 m17 := by kernel_rfl
 m18 := by kernel_rfl
 m19 := by kernel_rfl
 c0 := by kernel_rfl
 c2 := by kernel_rfl
 c3 := by kernel_rfl
 c4 := by kernel_rfl
 c5 := by kernel_rfl
 c9 := by kernel_rfl
 c20 := by kernel_rfl
 c21 := by kernel_rfl
 c37 := by kernel_rfl
 c46 := by kernel_rfl
 c51 := by kernel_rfl
 c53 := by kernel_rfl
 c75 := by kernel_rfl
 c76 := by kernel_rfl
 c80 := by kernel_rfl
 c85 := by kernel_rfl
 c127 := by kernel_rfl
 c143 := by kernel_rfl
 c145 := by kernel_rfl
 c167 := by kernel_rfl
 c168 := by kernel_rfl
 c171 := by kernel_rfl
 c173 := by kernel_rfl
 c175 := by kernel_rfl
 c210 := by kernel_rfl
 c212 := by kernel_rfl
 c213 := by kernel_rfl
 c232 := by kernel_rfl
 c233 := by kernel_rfl }
def layItoa_ren : Go.Shelf.Ren := ⟨fun | 171 => 118 | 243 => 122 | 246 => 128 | 283 => 132 | 284 => 133 | 285 => 134 | 286 => 135 | 129 => 46 | 317 => 138 | 318 => 139 | 319 => 140 | 320 => 141 | 337 => 142 | 338 => 143 | n => n, fun | 3 => 3 | 9 => 9 | 2 => 2 | 4 => 4 | 171 => 136 | 0 => 0 | 53 => 65 | 37 => 33 | 5 => 5 | 173 => 138 | 212 => 145 | 51 => 63 | 20 => 20 | 213 => 146 | 46 => 40 | 232 => 148 | 233 => 149 | n => n, fun | 17 => 5 | 18 => 6 | 19 => 7 | n => n⟩
theorem layItoa : Go.Proofs.LaysM.n171 Tryz.prog layItoa_ren := {
 mixed := by kernel_rfl
 f129 := Tryz.func46.trans (congrArg some (by kernel_rfl))
 f171 := Tryz.func118.trans (congrArg some (by kernel_rfl))
 f243 := Tryz.func122.trans (congrArg some (by kernel_rfl))
 f246 := Tryz.func128.trans (congrArg some (by kernel_rfl))
 f283 := Tryz.func132.trans (congrArg some (by kernel_rfl))
 f284 := Tryz.func133.trans (congrArg some (by kernel_rfl))
 f285 := Tryz.func134.trans (congrArg some (by kernel_rfl))
 f286 := Tryz.func135.trans (congrArg some (by kernel_rfl))
 f317 := Tryz.func138.trans (congrArg some (by kernel_rfl))
 f318 := Tryz.func139.trans (congrArg some (by kernel_rfl))
 f319 := Tryz.func140.trans (congrArg some (by kernel_rfl))
 f320 := Tryz.func141.trans (congrArg some (by kernel_rfl))
 f337 := Tryz.func142.trans (congrArg some (by kernel_rfl))
 f338 := Tryz.func143.trans (congrArg some (by kernel_rfl))
 t0 := Tryz.underlying0
 a0 := Tryz.isAgg0
 z0 := Tryz.sizeOf0
 v0 := Tryz.zeroValue0
 t2 := Tryz.underlying2
 a2 := Tryz.isAgg2
 z2 := Tryz.sizeOf2
 v2 := Tryz.zeroValue2
 t3 := Tryz.underlying3
 a3 := Tryz.isAgg3
 z3 := Tryz.sizeOf3
 v3 := Tryz.zeroValue3
 t4 := Tryz.underlying4
 a4 := Tryz.isAgg4
 z4 := Tryz.sizeOf4
 v4 := Tryz.zeroValue4
 t5 := Tryz.underlying5
 a5 := Tryz.isAgg5
 z5 := Tryz.sizeOf5
 v5 := Tryz.zeroValue5
 t9 := Tryz.underlying9
 a9 := Tryz.isAgg9
 z9 := Tryz.sizeOf9
 v9 := Tryz.zeroValue9
 t20 := Tryz.underlying20
 a20 := Tryz.isAgg20
 z20 := Tryz.sizeOf20
 v20 := Tryz.zeroValue20
 t37 := Tryz.underlying33
 a37 := Tryz.isAgg33
 z37 := Tryz.sizeOf33
 v37 := Tryz.zeroValue33
 t46 := Tryz.underlying40
 a46 := Tryz.isAgg40
 z46 := Tryz.sizeOf40
 v46 := Tryz.zeroValue40
 t51 := Tryz.underlying63
 a51 := Tryz.isAgg63
 z51 := Tryz.sizeOf63
 v51 := Tryz.zeroValue63
 t53 := Tryz.underlying65
 a53 := Tryz.isAgg65
 z53 := Tryz.sizeOf65
 v53 := Tryz.zeroValue65
 t171 := Tryz.underlying136
 a171 := Tryz.isAgg136
 z171 := Tryz.sizeOf136
 v171 := Tryz.zeroValue136
 t173 := Tryz.underlying138
 a173 := Tryz.isAgg138
 z173 := Tryz.sizeOf138
 v173 := Tryz.zeroValue138
 t212 := Tryz.underlying145
 a212 := Tryz.isAgg145
 z212 := Tryz.sizeOf145
 v212 := Tryz.zeroValue145
 t213 := Tryz.underlying146
 a213 := Tryz.isAgg146
 z213 := Tryz.sizeOf146
 t232 := Tryz.underlying148
 a232 := Tryz.isAgg148
 z232 := Tryz.sizeOf148
 v232 := Tryz.zeroValue148
 t233 := Tryz.underlying149
 a233 := Tryz.isAgg149
 z233 := Tryz.sizeOf149
 v233 := Tryz.zeroValue149
 g17 := by kernel_rfl
 g18 := by kernel_rfl
 g19 := by kernel_rfl
 i0 := by kernel_rfl
 i2 := by kernel_rfl
 i3 := by kernel_rfl
 i4 := by kernel_rfl
 i5 := by kernel_rfl
 i9 := by kernel_rfl
 i20 := by kernel_rfl
 i37 := by kernel_rfl
 i46 := by kernel_rfl
 i51 := by kernel_rfl
 i53 := by kernel_rfl
 i171 := by kernel_rfl
 i173 := by kernel_rfl
 i212 := by kernel_rfl
 i232 := by kernel_rfl
 i233 := by kernel_rfl
 m17 := by kernel_rfl
 m18 := by kernel_rfl
 m19 := by kernel_rfl }
theorem Qkl : Builder.Extra Tryz.prog Hc where
 sizeBuilder := by kernel_rfl
 liesBuilder := by kernel_rfl
 t5 := Tryz.underlying5
 a5 := Tryz.isAgg5
 z5 := Tryz.sizeOf5
 v5 := Tryz.zeroValue5
 infoByte := by kernel_rfl
 cellsByte := by kernel_rfl
 sizeByte := by kernel_rfl
 neB5 := by decide
end Go.Proofs.YtmoodkjkecjeaacGreatDoor
namespace Go.Proofs.YtmoodkjkecjeaacGreatDoor
open Go.RowKit
set_option maxRecDepth 100000
set_option linter.unusedVariables false
set_option linter.unusedSimpArgs false
open Go.Shelf
def decN (s : ByteArray) : Int := match Lib.atoiAll s.data.toList with
 | .ok v => bif decide (0 ≤ v) && (Lib.itoa v == s.data.toList) then v else -1
 | _ => -1
theorem GP.tab {w : World} (h : GP w) : Lib.TabIs Tryz.prog w "internal/strconv.uint64pow10" .u64 Lib.pow10Tab := by
 obtain ⟨T, fz, h1⟩ := h.2.2 _ (List.mem_append_right _ (List.mem_singleton.2 rfl))
 have hg := layItoa.m17
 unfold Lib.TabIs World.var?
 rw [hg]
 simp only [Option.bind_some]
 exact (congrArg (fun o => match o with | some (Obj.cells cs _ _) => some cs | _ => none) h1)
theorem GP.err1 {w : World} (h : GP w) : ∃ e, w.cell? ⟨layAtoi_ren.g 15, 0, none⟩ = some e ∧ (e = .nilIface ∨ ∃ te pe, e = .iface te pe) := h.1 _ (by decide)
theorem GP.err2 {w : World} (h : GP w) : ∃ e, w.cell? ⟨layAtoi_ren.g 16, 0, none⟩ = some e ∧ (e = .nilIface ∨ ∃ te pe, e = .iface te pe) := h.1 _ (by decide)
theorem Qpl {w w' : World} (h : Lib.TabIs Tryz.prog w "internal/strconv.uint64pow10" .u64 Lib.pow10Tab) (hb : Below w.heap.size w w') : Lib.TabIs Tryz.prog w' "internal/strconv.uint64pow10" .u64 Lib.pow10Tab := by
 unfold Lib.TabIs World.var? at h ⊢
 rw [layItoa.m17] at h ⊢
 simp only [Option.bind_some] at h ⊢
 have hlt : layItoa_ren.g 17 < w.heap.size := by
  rcases Nat.lt_or_ge (layItoa_ren.g 17) w.heap.size with h1 | h1
  ·exact h1
  ·rw [Array.getElem?_eq_none h1] at h; cases h
 rw [hb.block _ hlt]
 exact h
set_option maxHeartbeats 1000000 in
theorem Qbt (s : ByteArray) (w : World) (v0 : Int) (R : World → Prop) (hI : Calls Tryz.prog 117 #[.string s] w fun e w' => (∃ N, e = .returned (.tuple #[.int .i64 v0, .iface (layAtoi_ren.t 168) (.pointer (some ⟨N, 0, none⟩))])) ∧ Below w.heap.size w w') :
  Calls Tryz.prog 112 #[.string s] w fun e w' => e = .returned (.int .i64 (-1)) ∧ Below w.heap.size w w' := by
 go_enter Tryz.func112, Tryz.ntmps112
 go_wp2_with (go_at_call 117; refine hI.mono ?_; rintro e W1 ⟨⟨N, rfl⟩, hW⟩)
 go_ret
 exact ⟨rfl, hW⟩
set_option maxHeartbeats 1000000 in
theorem Qpz (s : ByteArray) (w : World) (v : Int) (hv : decide (v < 0) = true) (hI : Calls Tryz.prog 117 #[.string s] w fun e w' => e = .returned (.tuple #[.int .i64 v, .nilIface]) ∧ Below w.heap.size w w') :
  Calls Tryz.prog 112 #[.string s] w fun e w' => e = .returned (.int .i64 (-1)) ∧ Below w.heap.size w w' := by
 go_enter Tryz.func112, Tryz.ntmps112
 go_wp2_with (go_at_call 117; refine hI.mono ?_; rintro e W1 ⟨rfl, hW⟩)
 go_ret
 exact ⟨rfl, hW⟩
set_option maxHeartbeats 1000000 in
theorem Qre (s : ByteArray) (w : World) (v : Int) (hv : decide (v < 0) = false) (hv2 : v ≤ 9223372036854775807) (ht : Lib.TabIs Tryz.prog w "internal/strconv.uint64pow10" .u64 Lib.pow10Tab)
  (hI : Calls Tryz.prog 117 #[.string s] w fun e w' => e = .returned (.tuple #[.int .i64 v, .nilIface]) ∧ Below w.heap.size w w') :
  Calls Tryz.prog 112 #[.string s] w fun e w' => e = .returned (.int .i64 (bif Lib.itoa v == s.data.toList then v else -1)) ∧ Below w.heap.size w w' := by
 have hv0 : 0 ≤ v := by simpa using hv
 have hT : ∀ W1, Below w.heap.size w W1 → Calls Tryz.prog 118 #[.int .i64 v] W1 fun e w' => e = .returned (.string ⟨(Lib.itoa v).toArray⟩) ∧ Below W1.heap.size W1 w' := fun W1 hW => by
  refine (Any.strconv_Itoa layItoa v (by omega) hv2 W1 (Qpl ht hW)).mono ?_
  rintro e w' ⟨rfl, k, os, rfl⟩
  exact ⟨rfl, ⟨rfl, rfl, rfl, by simp [Go.Sort.grow], fun b hb => by simp [Go.Sort.grow, Array.getElem?_append_left hb]⟩⟩
 have H := Lib.hid hT
 clear hT
 have key : (bif Lib.itoa v == s.data.toList then v else -1) = (bif (!(Lib.itoa v == s.toList)) then -1 else v) := by
  have e : s.toList = s.data.toList := Ub s
  rw [e]
  cases (Lib.itoa v == s.data.toList) <;> rfl
 rw [key]
 clear key
 go_enter Tryz.func112, Tryz.ntmps112
 go_wp2_with (first | (go_at_call 117; refine hI.mono ?_; rintro e W1 ⟨rfl, hW⟩) | (go_at_call 118; refine (H.out _ hW).mono ?_; rintro e W2 ⟨rfl, hW2⟩))
 all_goals
  rename_i hq
  rw [hq]
  go_ret
  exact ⟨rfl, hW.trans (hW2.mono hW.size)⟩
theorem dec_ok (s : ByteArray) (hs : s.size ≤ 281474976710656) (w : World) (hG : GP w) :
  Calls Tryz.prog 112 #[.string s] w fun e w' => e = .returned (.int .i64 (decN s)) ∧ Below w.heap.size w w' := by
 unfold decN
 cases h : Lib.atoiAll s.data.toList with
 | ok v =>
  obtain ⟨b0, b1⟩ := Lib.atoiAll_bounds h
  have hI : Calls Tryz.prog 117 #[.string s] w fun e w' => e = .returned (.tuple #[.int .i64 v, .nilIface]) ∧ Below w.heap.size w w' := by
   refine (Any.strconv_Atoi_ok El s (by omega) v h w).mono ?_
   rintro e w' ⟨rfl, hw⟩
   refine ⟨rfl, ?_⟩
   rcases hw with rfl | ⟨t, rfl⟩
   ·exact Below.refl _ _
   ·exact Lib.bytesWorld_below _ _ _
  by_cases hv : v < 0
  ·have e1 : (bif decide (0 ≤ v) && (Lib.itoa v == s.data.toList) then v else -1) = -1 := by
    rw [decide_eq_false (by omega)]; rfl
   simp only [e1]
   exact Qpz s w v (decide_eq_true hv) hI
  ·have e1 : (bif decide (0 ≤ v) && (Lib.itoa v == s.data.toList) then v else -1) = (bif Lib.itoa v == s.data.toList then v else -1) := by
    rw [decide_eq_true (by omega), Bool.true_and]
   simp only [e1]
   exact Qre s w v (decide_eq_false hv) (by omega) hG.tab hI
 | range =>
  obtain ⟨ev, h1, h2⟩ := hG.err2
  refine Qbt s w (Lib.atoiSat s.data.toList) (fun _ => True) ((Any.strconv_Atoi_range El s hs h ev w h1 h2).mono ?_)
  rintro e w' ⟨N, rfl, _, _, hb⟩
  exact ⟨⟨N, rfl⟩, hb⟩
 | _ =>
  obtain ⟨ev, h1, h2⟩ := hG.err1
  refine Qbt s w 0 (fun _ => True) ((Any.strconv_Atoi_syntax El s hs h ev w h1 h2).mono ?_)
  rintro e w' ⟨N, rfl, _, _, hb⟩
  exact ⟨⟨N, rfl⟩, hb⟩
theorem Qek (s : ByteArray) : Spec.ok Tryz.prog 112 ⟨[.r (.c (.v (.string s)))], .v (.int .i64 (decN s)), s.size ≤ 281474976710656⟩ false := by
 intro hs S w vs fp hS hG hA
 obtain ⟨u, us, f, g, rfl, ⟨⟨rfl, _⟩, rfl⟩, ⟨rfl, rfl⟩, rfl, _⟩ := hA
 refine (dec_ok s hs w hG.1).mono fun e w' ⟨h1, h2⟩ => ?_
 exact ⟨_, [], [], h1, ⟨rfl, rfl, rfl⟩, ⟨_, _, [], [], rfl, rfl, rfl, rfl⟩, List.nodup_nil, fun b hb => by simp at hb, ⟨h2.os, h2.tape, h2.output, h2.size, fun k hk _ => h2.block k hk, Nat.zero_le _⟩⟩
end Go.Proofs.YtmoodkjkecjeaacGreatDoor
namespace Go.Proofs.YtmoodkjkecjeaacGreatDoor
theorem ai {a b : Prop} (h : a) (k : b) : a ∧ b := ⟨h, k⟩
theorem ir {d:Dat}:Imp d d := Imp.refl d
abbrev vI (x : Int) : Value := .int .i64 x
open Go.RowKit
set_option maxRecDepth 100000
set_option linter.unusedVariables false
set_option linter.unusedSimpArgs false
theorem mixed : Tryz.prog.follows .mixedOrders = true := Checked.mixed Tryz.checked
def F64 (s : ByteArray) (sep : ByteArray) : ByteArray × ByteArray × Bool :=
 cut3 s sep
def S64 (s : ByteArray) (sep : ByteArray) : Spec := ⟨[.r (.c (.v (.string s))), .r (.c (.v (.string sep)))], .tu [.v (.string ((F64 s sep).1)), .v (.string ((F64 s sep).2.1)), .v (.bool ((F64 s sep).2.2))], s.size ≤ 4294967280⟩
theorem ok64 (s : ByteArray) (sep : ByteArray) : (S64 s sep).ok Tryz.prog 64 :=
 cut_ok layCut (by decide) s sep
theorem g64_0 (s : ByteArray) (sep : ByteArray) : (F64 s sep).1.size ≤ (s.size : Int) := by
 exact Mu s sep
theorem g64_1 (s : ByteArray) (sep : ByteArray) : (F64 s sep).2.1.size ≤ (s.size : Int) := by
 exact Qns s sep
def F112 (text : ByteArray) : Int :=
 decN text
def S112 (text : ByteArray) : Spec := ⟨[.r (.c (.v (.string text)))], .v (vI (F112 text)), text.size ≤ 281474976710656⟩
theorem ok112 (text : ByteArray) : (S112 text).ok Tryz.prog 112 false :=
 Qek text
def F65 (n : Int) (low : Int) (high : Int) : Bool :=
 (bif decide (low ≤ n) then decide (n ≤ high) else false)
def S65 (R : Bool) (n : Int) (low : Int) (high : Int) : Spec := ⟨[.r (.c (.v (vI n))), .r (.c (.v (vI low))), .r (.c (.v (vI high)))], .v (.bool R), True⟩
theorem ok65 (n : Int) (low : Int) (high : Int) : (S65 (F65 n low high) n low high).ok Tryz.prog 65 :=
 Qk mixed (fn := Tryz.f65) (ct := .seq .no (.seq .no .no)) Tryz.func65 (fun (_ : True) => fiB (bif decide (low ≤ n) then decide (n ≤ high) else false) (F65 n low high) rfl) (by kernel_rfl)
theorem as65 (n : Int) (low : Int) (high : Int) : F65 n low high = (decide (low ≤ n ∧ n ≤ high)) := by
 simp only [F65, Bool.decide_and, bandd]
theorem oa65 (n : Int) (low : Int) (high : Int) : (S65 (decide (low ≤ n ∧ n ≤ high)) n low high).ok Tryz.prog 65 := by
 intro hp; have h := ok65 n low high hp; rw [as65 n low high] at h; exact h
theorem kc64 (s : ByteArray) (sep : ByteArray) {K_ : Prop} (p0_ : s.size ≤ 4294967280) (k_ : ((F64 s sep).1.size ≤ (s.size : Int)) → ((F64 s sep).2.1.size ≤ (s.size : Int)) → K_) : (s.size ≤ 4294967280) ∧ (Imp (.v (.string s)) (.v (.string s))) ∧ (Imp (.v (.string sep)) (.v (.string sep))) ∧ K_ := ⟨p0_, Imp.refl _, Imp.refl _, k_ (g64_0 s sep) (g64_1 s sep)⟩
theorem Qhw (text : ByteArray) {K_ : Prop} (p0_ : text.size ≤ 281474976710656) (k_ : K_) : (text.size ≤ 281474976710656) ∧ (Imp (.v (.string text)) (.v (.string text))) ∧ K_ := ⟨p0_, Imp.refl _, k_⟩
abbrev Qot (s : ByteArray) (sep : ByteArray) : Hint false Tryz.prog := .call 64 (S64 s sep) ((ok64 s sep).to false) none
abbrev Qhp (text : ByteArray) : Hint false Tryz.prog := .call 112 (S112 text) (ok112 text) none
theorem Qhg (n : Int) (low : Int) (high : Int) {K_ : Prop} (k_ : K_) : (True) ∧ (Imp (.v (vI n)) (.v (vI n))) ∧ (Imp (.v (vI low)) (.v (vI low))) ∧ (Imp (.v (vI high)) (.v (vI high))) ∧ K_ := ⟨trivial, Imp.refl _, Imp.refl _, Imp.refl _, k_⟩
theorem Qld {K_ : Prop} (c_ b_ : Bool) (n : Int) (low : Int) (high : Int) (k_ : K_) : (c_ = b_ → True) ∧ (c_ = b_ → Imp (.v (vI n)) (.v (vI n))) ∧ (c_ = b_ → Imp (.v (vI low)) (.v (vI low))) ∧ (c_ = b_ → Imp (.v (vI high)) (.v (vI high))) ∧ K_ := ⟨fun _ => trivial, fun _ => Imp.refl _, fun _ => Imp.refl _, fun _ => Imp.refl _, k_⟩
abbrev Qac (n : Int) (low : Int) (high : Int) : Hint false Tryz.prog := .call 65 (S65 (decide (low ≤ n ∧ n ≤ high)) n low high) ((oa65 n low high).to false) none
abbrev w0_ : ByteArray := ⟨#[46]⟩
def F98 (text : ByteArray) : Int :=
 bif (bif (bif (!((F64 text (⟨#[46]⟩ : ByteArray)).2.2)) then true else (!(decide (0 ≤ (F112 ((F64 text (⟨#[46]⟩ : ByteArray)).1)) ∧ (F112 ((F64 text (⟨#[46]⟩ : ByteArray)).1)) ≤ 255)))) then true else (!(decide (0 ≤ (F112 ((F64 text (⟨#[46]⟩ : ByteArray)).2.1)) ∧ (F112 ((F64 text (⟨#[46]⟩ : ByteArray)).2.1)) ≤ 255)))) then (-1) else (IntKind.i64.wrap ((IntKind.i64.wrap (256 * (F112 ((F64 text (⟨#[46]⟩ : ByteArray)).1)))) + (F112 ((F64 text (⟨#[46]⟩ : ByteArray)).2.1))))
def S98 (text : ByteArray) : Spec := ⟨[.r (.c (.v (.string text)))], .v (vI (F98 text)), text.size ≤ 1048576⟩
theorem ok98 (text : ByteArray) : (S98 text).ok Tryz.prog 98 false :=
 Qk mixed (fn := Tryz.f98) (ct := .seq .no (.seq (.reg [(1, Qot text w0_)]) (.seq (.reg [(1, Qhp ((F64 text w0_).1)), (3, Qhp ((F64 text w0_).2.1))]) (.seq (.seq (.reg [(4, Qac (F112 ((F64 text w0_).1)) 0 255), (9, Qac (F112 ((F64 text w0_).2.1)) 0 255)]) (.cond (.seq .no .no) .no)) (.seq .no .no))))) Tryz.func98 (fun (hpre0 : text.size ≤ 1048576) => kc64 text w0_ (by omega) (fun gv1 gv2 => Qhw ((F64 text w0_).1) (by omega) (Qhw ((F64 text w0_).2.1) (by omega) (Qld (!((F64 text w0_).2.2)) false (F112 ((F64 text w0_).1)) 0 255 (Qld (bif (!((F64 text w0_).2.2)) then true else (!(decide (0 ≤ (F112 ((F64 text w0_).1)) ∧ (F112 ((F64 text w0_).1)) ≤ 255)))) false (F112 ((F64 text w0_).2.1)) 0 255 (ifb (bif (bif (!((F64 text w0_).2.2)) then true else (!(decide (0 ≤ (F112 ((F64 text w0_).1)) ∧ (F112 ((F64 text w0_).1)) ≤ 255)))) then true else (!(decide (0 ≤ (F112 ((F64 text w0_).2.1)) ∧ (F112 ((F64 text w0_).2.1)) ≤ 255)))) (fun h5 => fiI (-1) (F98 text) (condT h5 rfl)) (fun h5 => have _ : (F64 text w0_).2.2 = true := (Uq (orF1 (orF1 h5))); have _ : 0 ≤ (F112 ((F64 text w0_).1)) ∧ (F112 ((F64 text w0_).1)) ≤ 255 := of_decide_eq_true (Uq (orF2 (orF1 h5))); have _ : 0 ≤ (F112 ((F64 text w0_).2.1)) ∧ (F112 ((F64 text w0_).2.1)) ≤ 255 := of_decide_eq_true (Uq (orF2 h5)); fiI (IntKind.i64.wrap ((IntKind.i64.wrap (256 * (F112 ((F64 text w0_).1)))) + (F112 ((F64 text w0_).2.1)))) (F98 text) (condF h5 rfl)))))))) (by kernel_rfl)
structure Qt where
 Addr : Int
 Len : Int
 deriving DecidableEq, Inhabited
def Kt (x : Qt) : List Dat := [.v (vI x.Addr), .v (vI x.Len)]
def F119 (p : Qt) : Int :=
 (IntKind.i64.wrap (1 * 2 ^ (min (16 - p.Len).toNat IntKind.i64.bits)))
def S119 (p : Qt) : Spec := ⟨[.r (.g (Kt p))], .v (vI (F119 p)), 0 ≤ p.Len ∧ p.Len ≤ 16⟩
theorem ok119 (p : Qt) : (S119 p).ok Tryz.prog 119 :=
 Qk mixed (fn := Tryz.f119) (ct := .seq .no (.seq (.reg [(2, .bnd)]) .no)) Tryz.func119 (fun (hp : 0 ≤ p.Len ∧ p.Len ≤ 16) => have hpre0 := hp.1; have hpre1 := hp.2; ai (iok (16 - p.Len) (by omega)) (ai (by omega : 0 ≤ (16 - p.Len)) (fiI (IntKind.i64.wrap (1 * 2 ^ (min (16 - p.Len).toNat IntKind.i64.bits))) (F119 p) rfl))) (by kernel_rfl)
theorem g119_0 (p : Qt) : 0 ≤ p.Len → p.Len ≤ 16 → 1 ≤ (F119 p) ∧ (F119 p) ≤ 65536 := by
 obtain ⟨a, l⟩ := p; intro h1 h2; simp only at h1 h2; have h3 : l = 0 ∨ l = 1 ∨ l = 2 ∨ l = 3 ∨ l = 4 ∨ l = 5 ∨ l = 6 ∨ l = 7 ∨ l = 8 ∨ l = 9 ∨ l = 10 ∨ l = 11 ∨ l = 12 ∨ l = 13 ∨ l = 14 ∨ l = 15 ∨ l = 16 := by omega
 rcases h3 with rfl | rfl | rfl | rfl | rfl | rfl | rfl | rfl | rfl | rfl | rfl | rfl | rfl | rfl | rfl | rfl | rfl <;> exact of_decide_eq_true rfl
abbrev Qkc (n : Int) (low : Int) (high : Int) : Hint true Tryz.prog := .call 65 (S65 (decide (low ≤ n ∧ n ≤ high)) n low high) (oa65 n low high) none
theorem kg119 {K_ : Prop} (c_ b_ : Bool) (p : Qt) (p_ : c_ = b_ → 0 ≤ p.Len ∧ p.Len ≤ 16) (k_ : K_) : (c_ = b_ → 0 ≤ p.Len ∧ p.Len ≤ 16) ∧ (c_ = b_ → Imps (Kt p) (Kt p)) ∧ K_ := ⟨p_, fun _ => Imps.refl _, k_⟩
abbrev kh119 (p : Qt) : Hint true Tryz.prog := .call 119 (S119 p) (ok119 p) none
def F113 (p : Qt) : Bool :=
 (bif (bif (decide (0 ≤ p.Len ∧ p.Len ≤ 16)) then (decide (0 ≤ p.Addr ∧ p.Addr ≤ 65535)) else false) then ((p.Addr.tmod (F119 p)) == 0) else false)
def S113 (p : Qt) : Spec := ⟨[.r (.g (Kt p))], .v (.bool (F113 p)), True⟩
theorem ok113 (p : Qt) : (S113 p).ok Tryz.prog 113 :=
 Qk mixed (fn := Tryz.f113) (ct := .seq .no (.seq (.reg [(2, Qkc p.Len 0 16), (6, Qkc p.Addr 0 65535), (12, kh119 p)]) .no)) Tryz.func113 (fun (_ : True) => Qhg p.Len 0 16 (Qld (decide (0 ≤ p.Len ∧ p.Len ≤ 16)) true p.Addr 0 65535 (kg119 (bif (decide (0 ≤ p.Len ∧ p.Len ≤ 16)) then (decide (0 ≤ p.Addr ∧ p.Addr ≤ 65535)) else false) true p (fun k4 => have _ := of_decide_eq_true (Qj k4); have _ := of_decide_eq_true (Ud k4); ⟨(by omega), (by omega)⟩) (ai (fun k5 : (bif (decide (0 ≤ p.Len ∧ p.Len ≤ 16)) then (decide (0 ≤ p.Addr ∧ p.Addr ≤ 65535)) else false) = true => have _ := of_decide_eq_true (Qj k5); have _ := of_decide_eq_true (Ud k5); (by have h9 := g119_0 p (by omega) (by omega); omega : ¬ (F119 p) = 0)) (fiB (bif (bif (decide (0 ≤ p.Len ∧ p.Len ≤ 16)) then (decide (0 ≤ p.Addr ∧ p.Addr ≤ 65535)) else false) then ((p.Addr.tmod (F119 p)) == 0) else false) (F113 p) rfl))))) (by kernel_rfl)
theorem kc98 (text : ByteArray) {K_ : Prop} (p0_ : text.size ≤ 1048576) (k_ : K_) : (text.size ≤ 1048576) ∧ (Imp (.v (.string text)) (.v (.string text))) ∧ K_ := ⟨p0_, Imp.refl _, k_⟩
abbrev kh98 (text : ByteArray) : Hint false Tryz.prog := .call 98 (S98 text) (ok98 text) none
abbrev w1_ : ByteArray := ⟨#[47]⟩
def F96 (text : ByteArray) : Qt × Bool :=
 bif (bif (!((F64 text (⟨#[47]⟩ : ByteArray)).2.2)) then true else (!(F113 (⟨(F98 ((F64 text (⟨#[47]⟩ : ByteArray)).1)), (F112 ((F64 text (⟨#[47]⟩ : ByteArray)).2.1))⟩ : Qt)))) then ((⟨0, 0⟩ : Qt), false) else ((⟨(F98 ((F64 text (⟨#[47]⟩ : ByteArray)).1)), (F112 ((F64 text (⟨#[47]⟩ : ByteArray)).2.1))⟩ : Qt), true)
theorem fi96 (text : ByteArray) (r : Qt × Bool) (hF : r = (F96 text)) : ((.int .i64 r.1.Addr : Value) = .int .i64 (((F96 text).1).Addr)) ∧ ((.int .i64 r.1.Len : Value) = .int .i64 (((F96 text).1).Len)) ∧ ((.bool r.2 : Value) = .bool ((F96 text).2)) ∧ True := by cases hF; exact ⟨rfl, rfl, rfl, trivial⟩
def S96 (text : ByteArray) : Spec := ⟨[.r (.c (.v (.string text)))], .tu [.ag [.v (vI (((F96 text).1).Addr)), .v (vI (((F96 text).1).Len))], .v (.bool ((F96 text).2))], text.size ≤ 1048576⟩
theorem ok96 (text : ByteArray) : (S96 text).ok Tryz.prog 96 false :=
 Qk mixed (fn := Tryz.f96) (ct := .seq .no (.seq (.reg [(1, Qot text w1_)]) (.seq (.reg [(1, kh98 ((F64 text w1_).1)), (3, Qhp ((F64 text w1_).2.1))]) (.seq (.seq (.reg [(4, .call 113 (S113 (⟨(F98 ((F64 text w1_).1)), (F112 ((F64 text w1_).2.1))⟩ : Qt)) ((ok113 (⟨(F98 ((F64 text w1_).1)), (F112 ((F64 text w1_).2.1))⟩ : Qt)).to false) none)]) (.cond (.seq .no .no) .no)) (.seq .no .no))))) Tryz.func96 (fun (hpre0 : text.size ≤ 1048576) => kc64 text w1_ (by omega) (fun gv1 gv2 => kc98 ((F64 text w1_).1) (by omega) (Qhw ((F64 text w1_).2.1) (by omega) (ai (fun k3 : (!((F64 text w1_).2.2)) = false => have _ : (F64 text w1_).2.2 = true := (Uq k3); trivial) (ai (fun k4 : (!((F64 text w1_).2.2)) = false => have _ : (F64 text w1_).2.2 = true := (Uq k4); (Imps.refl (Kt (⟨(F98 ((F64 text w1_).1)), (F112 ((F64 text w1_).2.1))⟩ : Qt)))) (ifb (bif (!((F64 text w1_).2.2)) then true else (!(F113 (⟨(F98 ((F64 text w1_).1)), (F112 ((F64 text w1_).2.1))⟩ : Qt)))) (fun h5 => fi96 text ((⟨0, 0⟩ : Qt), false) (condT h5 rfl)) (fun h5 => have _ : (F64 text w1_).2.2 = true := (Uq (orF1 h5)); fi96 text ((⟨(F98 ((F64 text w1_).1)), (F112 ((F64 text w1_).2.1))⟩ : Qt), true) (condF h5 rfl)))))))) (by kernel_rfl)
def F33 (s : ByteArray) (sep : ByteArray) : List ByteArray :=
 Qu s sep
def S33 (s : ByteArray) (sep : ByteArray) : Spec := ⟨[.r (.c (.v (.string s))), .r (.c (.v (.string sep)))], .ow (.l 1 eStr (F33 s sep)), s.size ≤ 4294967280 ∧ 1 ≤ sep.size⟩
theorem ok33 (s : ByteArray) (sep : ByteArray) : (S33 s sep).ok Tryz.prog 33 :=
 Qog Qkv (by kernel_rfl) (by decide) s sep
def Ga (s : List ByteArray) (v1 : ByteArray) : Int → Lp Int Int := fun v8 =>
 bif (decide (v8 < (s.length : Int))) then (bif (v1.toList == (s.getD (Int.toNat v8) default).toList) then (.ret v8) else (.next (v8 + 1))) else (.done v8)
def F21 (s : List ByteArray) (v1 : ByteArray) : Int :=
 (runL (Ga s v1) ((Int.toNat ((s.length : Int) - 0)) + 1) 0).fin (fun r => r) (fun v8 => (-1))
abbrev Pi (s : List ByteArray) : Nat × Int := (((Int.toNat ((s.length : Int) - 0)) + 1), 0)
abbrev Qdc (s : List ByteArray) (m39 : Nat) (v8 : Int) : Prop := Int.toNat ((s.length : Int) - v8) < m39 ∧ (0 : Int) ≤ v8
abbrev Qlg (s : List ByteArray) (v1 : ByteArray) : Lp Int Int := LpX (Ga s v1) (Pi s)
abbrev Ml (s : List ByteArray) (v1 : ByteArray) (i : Nat × Int) : Prop := LpJ (Ga s v1) (Pi s) i (Qdc s i.1 i.2)
abbrev Qjr (s : List ByteArray) (v1 : ByteArray) (i : Nat × Int) (m39 : Nat) (v8 : Int) : Prop := LpH (Ga s v1) (Pi s) i m39 v8 (Qdc s (m39 + 1) v8)
abbrev Qnx (s : List ByteArray) (v1 : ByteArray) (v8 : Int) (v8_ : Int) (K39 : Prop) : Prop := (Rf (.string v1)) ∧ (Rf (.int .i64 (s.length : Int))) ∧ ((.int .i64 v8 : Value) = .int .i64 v8_) ∧ (Im (.l 1 eStr s)) ∧ K39
theorem un21_0 (s : List ByteArray) (v1 : ByteArray) (i : Nat × Int) (h : Ml s v1 i) : Qjr s v1 i (i.1 - 1) i.2 := ⟨hd1 h.1 h.2.1, hd3 h.2.1, hd2 h.2.1, h.2.2⟩
theorem bk21_0 (s : List ByteArray) (v1 : ByteArray) (i : Nat × Int) (m39 : Nat) (v8 : Int) (hl : m39 < i.1) (e : runL (Ga s v1) m39 v8 = Qlg s v1) (h : Qdc s m39 v8) : ∃ j : Nat × Int, Qnx s v1 v8 j.2 (Ml s v1 j ∧ j.1 < i.1) := ⟨(m39, v8), rfl, rfl, rfl, Imp.refl _, ⟨e, h⟩, hl⟩
theorem en21_0 (s : List ByteArray) (v1 : ByteArray) (h : (0 : Int) ≤ 0) : Qnx s v1 0 0 (Ml s v1 (Pi s)) := ⟨rfl, rfl, rfl, Imp.refl _, rfl, Nat.lt_succ_self _, h⟩
def S21 (s : List ByteArray) (v1 : ByteArray) : Spec := ⟨[.r (.c (.l 1 eStr s)), .r (.c (.v (.string v1)))], .v (vI (F21 s v1)), True⟩
theorem ok21 (s : List ByteArray) (v1 : ByteArray) : (S21 s v1).ok Tryz.prog 21 :=
 Qk mixed (fn := Tryz.f21) (ct := .seqk [(0, 0)] .no (.seq (.seqk [(0, 0)] .no (.blk (.loop (ι := Nat × Int) (fun i => (fun (v8 : Int) => (⟨[(0, some (.h 0 0)), (1, some (.v (.string v1))), (7, some (.v (vI (s.length : Int)))), (8, some (.v (vI v8)))], [(0, some (.shr none (.l 1 eStr s)))], 1⟩ : St)) i.2) (Ml s v1) (fun i => i.1) (Pi s) (fun i => (fun (v8 : Int) => (.seq .no (.seq (.cond .no .no) (.seq (.blk (.seq .no (.seq .no (.cond (.seq .no .no) .no)))) (.reg [(0, .bnd)]))))) i.2)))) (.seq .no .no))) Tryz.func21 (fun (_ : True) => kn s fun _ => kn s fun _ => ai (en21_0 s v1 (by omega)) (fun (i0 : Nat × Int) (hi0 : Ml s v1 i0) => (fun (m0 : Nat) (v8 : Int) (hh0 : Qjr s v1 i0 m0 v8) => have hI0 := hh0.1; have hl0 := hh0.2.1; have _ := hh0.2.2.1; have _ := hh0.2.2.2; ifd (v8 < (s.length : Int)) (fun h2 _ => ai (by omega : ib v8 s) (ifb (v1.toList == (s.getD (Int.toNat v8) default).toList) (fun h3 => fiI v8 (F21 s v1) (finR (Qz hI0 (condT h2 (condT h3 rfl))) rfl)) (fun h3 => ai (iok (v8 + 1) (by omega)) (bk21_0 s v1 i0 m0 (v8 + 1) hl0 (Qe hI0 (condT h2 (condF h3 rfl))) (by refine ⟨?_, ?_⟩ <;> omega))))) (fun h2 _ => have hD0_4 : Qlg s v1 = Lp.done v8 := Qn hI0 (condF h2 rfl); fiI (-1) (F21 s v1) (finD hD0_4 rfl))) (i0.1 - 1) i0.2 (un21_0 s v1 i0 hi0))) (by kernel_rfl)
theorem kc21 (s : List ByteArray) (v1 : ByteArray) {K_ : Prop} (k_ : K_) : (True) ∧ (Imp (.l 1 eStr s) (.l 1 eStr s)) ∧ (Imp (.v (.string v1)) (.v (.string v1))) ∧ K_ := ⟨trivial, Imp.refl _, Imp.refl _, k_⟩
abbrev kh21 (s : List ByteArray) (v1 : ByteArray) : Hint true Tryz.prog := .call 21 (S21 s v1) (ok21 s v1) none
def F14 (s : List ByteArray) (v1 : ByteArray) : Bool :=
 decide ((F21 s v1) ≥ 0)
def S14 (s : List ByteArray) (v1 : ByteArray) : Spec := ⟨[.r (.c (.l 1 eStr s)), .r (.c (.v (.string v1)))], .v (.bool (F14 s v1)), True⟩
theorem ok14 (s : List ByteArray) (v1 : ByteArray) : (S14 s v1).ok Tryz.prog 14 :=
 Qk mixed (fn := Tryz.f14) (ct := .seqk [(0, 0)] .no (.seq (.reg [(2, kh21 s v1)]) .no)) Tryz.func14 (fun (_ : True) => kn s fun _ => kc21 s v1 (fiB (decide ((F21 s v1) ≥ 0)) (F14 s v1) rfl)) (by kernel_rfl)
theorem kc33 (s : ByteArray) (sep : ByteArray) {K_ : Prop} (p0_ : s.size ≤ 4294967280) (p1_ : 1 ≤ sep.size) (q0_ : 1 ≤ sep.size) (q1_ : 1 ≤ sep.size) (k_ : ((F33 s sep).length ≤ s.size + 1) → (1 ≤ (F33 s sep).length) → K_) : (s.size ≤ 4294967280 ∧ 1 ≤ sep.size) ∧ (Imp (.v (.string s)) (.v (.string s))) ∧ (Imp (.v (.string sep)) (.v (.string sep))) ∧ K_ := ⟨⟨p0_, p1_⟩, Imp.refl _, Imp.refl _, k_ (Qin s sep q0_) (Qfn s sep q1_)⟩
abbrev kh33 (s : ByteArray) (sep : ByteArray) : Hint true Tryz.prog := .call 33 (S33 s sep) (ok33 s sep) none
theorem kc14 (s : List ByteArray) (v1 : ByteArray) {K_ : Prop} (k_ : K_) : (True) ∧ (Imp (.l 1 eStr s) (.l 1 eStr s)) ∧ (Imp (.v (.string v1)) (.v (.string v1))) ∧ K_ := ⟨trivial, Imp.refl _, Imp.refl _, k_⟩
abbrev kh14 (s : List ByteArray) (v1 : ByteArray) : Hint true Tryz.prog := .call 14 (S14 s v1) (ok14 s v1) none
abbrev w2_ : ByteArray := ⟨#[44]⟩
abbrev w3_ : ByteArray := ⟨#[100, 111, 111, 114]⟩
abbrev w4_ : ByteArray := ⟨#[104, 111, 115, 116]⟩
abbrev w5_ : ByteArray := ⟨#[110, 97, 116]⟩
abbrev w6_ : ByteArray := ⟨#[112, 101, 101, 114]⟩
abbrev w7_ : ByteArray := ⟨#[112, 111, 114, 116]⟩
abbrev w8_ : ByteArray := ⟨#[114, 111, 117, 116, 101]⟩
abbrev w9_ : ByteArray := ⟨#[114, 117, 108, 101]⟩
abbrev w10_ : ByteArray := ⟨#[117, 115, 101, 114]⟩
abbrev w11_ : ByteArray := ⟨#[97, 108, 108]⟩
abbrev w12_ : ByteArray := ⟨#[110, 111, 110, 101]⟩
def Jj (word : ByteArray) : Int → Lp Int (List ByteArray × Bool) := fun v19 =>
 bif (decide (v19 < ((F33 word (⟨#[44]⟩ : ByteArray)).length : Int))) then (bif (bif (!(F14 ([(⟨#[100, 111, 111, 114]⟩ : ByteArray), (⟨#[104, 111, 115, 116]⟩ : ByteArray), (⟨#[110, 97, 116]⟩ : ByteArray), (⟨#[112, 101, 101, 114]⟩ : ByteArray), (⟨#[112, 111, 114, 116]⟩ : ByteArray), (⟨#[114, 111, 117, 116, 101]⟩ : ByteArray), (⟨#[114, 117, 108, 101]⟩ : ByteArray), (⟨#[117, 115, 101, 114]⟩ : ByteArray)] : List ByteArray) ((F33 word (⟨#[44]⟩ : ByteArray)).getD (Int.toNat v19) default))) then true else (bif decide (v19 > 0) then (!(Op.bytesLess ((F33 word (⟨#[44]⟩ : ByteArray)).getD (Int.toNat (v19 - 1)) default).toList ((F33 word (⟨#[44]⟩ : ByteArray)).getD (Int.toNat v19) default).toList)) else false)) then (.ret (([] : List ByteArray), false)) else (.next (v19 + 1))) else (.done v19)
def F95 (word : ByteArray) : List ByteArray × Bool :=
 bif (bif (word.toList == (⟨#[97, 108, 108]⟩ : ByteArray).toList) then true else (word.toList == (⟨#[110, 111, 110, 101]⟩ : ByteArray).toList)) then (([word] : List ByteArray), true) else ((runL (Jj word) ((Int.toNat (((F33 word (⟨#[44]⟩ : ByteArray)).length : Int) - 0)) + 1) 0).fin (fun r => r) (fun v19 => ((F33 word (⟨#[44]⟩ : ByteArray)), true)))
abbrev Na (word : ByteArray) : Nat × Int := (((Int.toNat (((F33 word w2_).length : Int) - 0)) + 1), 0)
abbrev Qdp (word : ByteArray) (m39 : Nat) (v19 : Int) : Prop := Int.toNat (((F33 word w2_).length : Int) - v19) < m39 ∧ (0 : Int) ≤ v19
abbrev Qkz (word : ByteArray) : Lp Int (List ByteArray × Bool) := LpX (Jj word) (Na word)
abbrev Mx (word : ByteArray) (i : Nat × Int) : Prop := LpJ (Jj word) (Na word) i (Qdp word i.1 i.2)
abbrev Qng (word : ByteArray) (i : Nat × Int) (m39 : Nat) (v19 : Int) : Prop := LpH (Jj word) (Na word) i m39 v19 (Qdp word (m39 + 1) v19)
abbrev Qph (word : ByteArray) (v19 : Int) (v19_ : Int) (K39 : Prop) : Prop := (Rf (.int .i64 ((F33 word w2_).length : Int))) ∧ ((.int .i64 v19 : Value) = .int .i64 v19_) ∧ (Im (.l 1 eStr (F33 word w2_))) ∧ K39
theorem un95_0 (word : ByteArray) (i : Nat × Int) (h : Mx word i) : Qng word i (i.1 - 1) i.2 := ⟨hd1 h.1 h.2.1, hd3 h.2.1, hd2 h.2.1, h.2.2⟩
theorem bk95_0 (word : ByteArray) (i : Nat × Int) (m39 : Nat) (v19 : Int) (hl : m39 < i.1) (e : runL (Jj word) m39 v19 = Qkz word) (h : Qdp word m39 v19) : ∃ j : Nat × Int, Qph word v19 j.2 (Mx word j ∧ j.1 < i.1) := ⟨(m39, v19), rfl, rfl, Imp.refl _, ⟨e, h⟩, hl⟩
theorem en95_0 (word : ByteArray) (h : (0 : Int) ≤ 0) : Qph word 0 0 (Mx word (Na word)) := ⟨rfl, rfl, Imp.refl _, rfl, Nat.lt_succ_self _, h⟩
theorem fi95 (word : ByteArray) (r : List ByteArray × Bool) (hF : r = (F95 word)) : (Imp (.l 1 eStr r.1) (.l 1 eStr ((F95 word).1))) ∧ ((.bool r.2 : Value) = .bool ((F95 word).2)) ∧ True := by cases hF; exact ⟨Imp.refl _, rfl, trivial⟩
def S95 (word : ByteArray) : Spec := ⟨[.r (.c (.v (.string word)))], .tu [.ow (.l 1 eStr ((F95 word).1)), .v (.bool ((F95 word).2))], word.size ≤ 1048576⟩
theorem ok95 (word : ByteArray) : (S95 word).ok Tryz.prog 95 :=
 Qk mixed (fn := Tryz.f95) (ct := .seq .no (.seq (.seq .no (.cond (.seq (.reg [(1, .dat (.l 1 eStr ([word] : List ByteArray)))]) .no) .no)) (.seq (.reg [(1, kh33 word w2_)]) (.seq (.seqk [(4, 0), (17, 0)] .no (.blk (.loop (ι := Nat × Int) (fun i => (fun (v19 : Int) => (⟨[(4, some (.h 0 0)), (17, some (.h 0 0)), (18, some (.v (vI ((F33 word w2_).length : Int)))), (19, some (.v (vI v19)))], [(0, some (.own 0 (.l 1 eStr (F33 word w2_))))], 1⟩ : St)) i.2) (Mx word) (fun i => i.1) (Na word) (fun i => (fun (v19 : Int) => (.seq .no (.seq (.cond .no .no) (.seq (.blk (.seq .no (.seq (.reg [(0, .dat (.l 1 eStr ([w3_, w4_, w5_, w6_, w7_, w8_, w9_, w10_] : List ByteArray))), (2, kh14 ([w3_, w4_, w5_, w6_, w7_, w8_, w9_, w10_] : List ByteArray) ((F33 word w2_).getD (Int.toNat v19) default)), (10, .bnd)]) (.cond (.seq .no .no) .no)))) (.reg [(0, .bnd)]))))) i.2)))) (.seq .no .no))))) Tryz.func95 (fun (hpre0 : word.size ≤ 1048576) => ifb (bif (word.toList == w11_.toList) then true else (word.toList == w12_.toList)) (fun h1 => ai (bokr 1 eStr ([word] : List ByteArray) fun _ => rfl) (fi95 word (([word] : List ByteArray), true) (condT h1 rfl))) (fun h1 => have _ : (word.toList == w11_.toList) = false := (orF1 h1); have _ : (word.toList == w12_.toList) = false := (orF2 h1); kc33 word w2_ (by omega) (by decide) (by decide) (by decide) (fun gv2 gv3 => kn (F33 word w2_) fun _ => kn (F33 word w2_) fun _ => ai (en95_0 word (by omega)) (fun (i0 : Nat × Int) (hi0 : Mx word i0) => (fun (m0 : Nat) (v19 : Int) (hh0 : Qng word i0 m0 v19) => have hI0 := hh0.1; have hl0 := hh0.2.1; have _ := hh0.2.2.1; have _ := hh0.2.2.2; ifd (v19 < ((F33 word w2_).length : Int)) (fun h5 _ => ai (by omega : ib v19 (F33 word w2_)) (ai (bokr 1 eStr ([w3_, w4_, w5_, w6_, w7_, w8_, w9_, w10_] : List ByteArray) fun _ => rfl) (kc14 ([w3_, w4_, w5_, w6_, w7_, w8_, w9_, w10_] : List ByteArray) ((F33 word w2_).getD (Int.toNat v19) default) (ai (fun k7 : (decide (v19 > 0)) = true => have _ := of_decide_eq_true k7; (fun k6 : (!(F14 ([w3_, w4_, w5_, w6_, w7_, w8_, w9_, w10_] : List ByteArray) ((F33 word w2_).getD (Int.toNat v19) default))) = false => iok (v19 - 1) (by omega))) (ai (fun k9 : (decide (v19 > 0)) = true => have _ := of_decide_eq_true k9; (fun k8 : (!(F14 ([w3_, w4_, w5_, w6_, w7_, w8_, w9_, w10_] : List ByteArray) ((F33 word w2_).getD (Int.toNat v19) default))) = false => (by omega : ib (v19 - 1) (F33 word w2_)))) (ifb (bif (!(F14 ([w3_, w4_, w5_, w6_, w7_, w8_, w9_, w10_] : List ByteArray) ((F33 word w2_).getD (Int.toNat v19) default))) then true else (bif decide (v19 > 0) then (!(Op.bytesLess ((F33 word w2_).getD (Int.toNat (v19 - 1)) default).toList ((F33 word w2_).getD (Int.toNat v19) default).toList)) else false)) (fun h10 => (fun hF : (([] : List ByteArray), false) = (F95 word) => ai ((Imp.nil 1 eStr).trans (Imp.of_eq (congrArg (fun r : List ByteArray × Bool => Dat.l 1 eStr r.1) hF))) (ai (congrArg (fun r : List ByteArray × Bool => (.bool r.2 : Value)) hF) trivial)) (condF h1 (finR (Qz hI0 (condT h5 (condT h10 rfl))) rfl))) (fun h10 => ai (iok (v19 + 1) (by omega)) (bk95_0 word i0 m0 (v19 + 1) hl0 (Qe hI0 (condT h5 (condF h10 rfl))) (by refine ⟨?_, ?_⟩ <;> omega))))))))) (fun h5 _ => have hD0_11 : Qkz word = Lp.done v19 := Qn hI0 (condF h5 rfl); fi95 word ((F33 word w2_), true) (condF h1 (finD hD0_11 rfl)))) (i0.1 - 1) i0.2 (un95_0 word i0 hi0))))) (by kernel_rfl)
abbrev w13_ : ByteArray := ⟨#[]⟩
def F67 (w1 : ByteArray) : Bool :=
 (w1.toList == (⟨#[]⟩ : ByteArray).toList)
def S67 (w1 : ByteArray) : Spec := ⟨[.r (.c (.v (.string w1)))], .v (.bool (F67 w1)), True⟩
theorem ok67 (w1 : ByteArray) : (S67 w1).ok Tryz.prog 67 :=
 Qk mixed (fn := Tryz.f67) (ct := .seq .no (.seq .no .no)) Tryz.func67 (fun (_ : True) => fiB (w1.toList == w13_.toList) (F67 w1) rfl) (by kernel_rfl)
def Yq (Q : ByteArray → Prop) (p : ByteArray → Bool) : Uw := ⟨ByteArray, fun i => [.c (.x (PX (.v (.string i)) (Q i)))], fun i => .bool (p i)⟩
def Gh (s : List ByteArray) (f : ByteArray → Bool) : Int → Lp Int Int := fun v8 =>
 bif (decide (v8 < (s.length : Int))) then (bif (f (s.getD (Int.toNat v8) default)) then (.ret v8) else (.next (v8 + 1))) else (.done v8)
def F31 (s : List ByteArray) (f : ByteArray → Bool) : Int :=
 (runL (Gh s f) ((Int.toNat ((s.length : Int) - 0)) + 1) 0).fin (fun r => r) (fun v8 => (-1))
abbrev Lg (s : List ByteArray) : Nat × Int := (((Int.toNat ((s.length : Int) - 0)) + 1), 0)
abbrev Qds (s : List ByteArray) (m39 : Nat) (v8 : Int) : Prop := Int.toNat ((s.length : Int) - v8) < m39 ∧ (0 : Int) ≤ v8
abbrev Qpp (s : List ByteArray) (f : ByteArray → Bool) : Lp Int Int := LpX (Gh s f) (Lg s)
abbrev Mq (s : List ByteArray) (f : ByteArray → Bool) (i : Nat × Int) : Prop := LpJ (Gh s f) (Lg s) i (Qds s i.1 i.2)
abbrev Qjt (s : List ByteArray) (f : ByteArray → Bool) (i : Nat × Int) (m39 : Nat) (v8 : Int) : Prop := LpH (Gh s f) (Lg s) i m39 v8 (Qds s (m39 + 1) v8)
abbrev Qou (Qf : ByteArray → Prop) (s : List ByteArray) (f : ByteArray → Bool) (v8 : Int) (v8_ : Int) (K39 : Prop) : Prop := (Rf (.int .i64 (s.length : Int))) ∧ ((.int .i64 v8 : Value) = .int .i64 v8_) ∧ (Im (.l 1 eStr s)) ∧ (Yq Qf f = Yq Qf f) ∧ K39
theorem un31_0 (s : List ByteArray) (f : ByteArray → Bool) (i : Nat × Int) (h : Mq s f i) : Qjt s f i (i.1 - 1) i.2 := ⟨hd1 h.1 h.2.1, hd3 h.2.1, hd2 h.2.1, h.2.2⟩
theorem bk31_0 (Qf : ByteArray → Prop) (s : List ByteArray) (f : ByteArray → Bool) (i : Nat × Int) (m39 : Nat) (v8 : Int) (hl : m39 < i.1) (e : runL (Gh s f) m39 v8 = Qpp s f) (h : Qds s m39 v8) : ∃ j : Nat × Int, Qou Qf s f v8 j.2 (Mq s f j ∧ j.1 < i.1) := ⟨(m39, v8), rfl, rfl, Imp.refl _, rfl, ⟨e, h⟩, hl⟩
theorem en31_0 (Qf : ByteArray → Prop) (s : List ByteArray) (f : ByteArray → Bool) (h : (0 : Int) ≤ 0) : Qou Qf s f 0 0 (Mq s f (Lg s)) := ⟨rfl, rfl, Imp.refl _, rfl, rfl, Nat.lt_succ_self _, h⟩
def S31 (R : Int) (s : List ByteArray) (f : ByteArray → Bool) (Qf : ByteArray → Prop) : Spec := ⟨[.r (.c (.l 1 eStr s)), .fn (Yq Qf f)], .v (vI R), (∀ k : Nat, k < s.length → Qf (s.getD k default))⟩
theorem ok31 (s : List ByteArray) (f : ByteArray → Bool) (Qf : ByteArray → Prop) : (S31 (F31 s f) s f Qf).ok Tryz.prog 31 false :=
 Qk mixed (fn := Tryz.f31) (ct := .seqk [(0, 0)] .no (.seq (.seqk [(0, 0)] .no (.blk (.loop (ι := Nat × Int) (fun i => (fun (v8 : Int) => (⟨[(0, some (.h 0 0)), (1, some (.h 1 0)), (7, some (.v (vI (s.length : Int)))), (8, some (.v (vI v8)))], [(0, some (.shr none (.l 1 eStr s))), (1, some (.fn (Yq Qf f)))], 2⟩ : St)) i.2) (Mq s f) (fun i => i.1) (Lg s) (fun i => (fun (v8 : Int) => (.seq .no (.seq (.cond .no .no) (.seq (.blk (.seq .no (.seq (.reg [(5, .fnv (Yq Qf f) (s.getD (Int.toNat v8) default))]) (.cond (.seq .no .no) .no)))) (.reg [(0, .bnd)]))))) i.2)))) (.seq .no .no))) Tryz.func31 (fun (hpre0 : ∀ k : Nat, k < s.length → Qf (s.getD k default)) => kn s fun _ => kn s fun _ => ai (en31_0 Qf s f (by omega)) (fun (i0 : Nat × Int) (hi0 : Mq s f i0) => (fun (m0 : Nat) (v8 : Int) (hh0 : Qjt s f i0 m0 v8) => have hI0 := hh0.1; have hl0 := hh0.2.1; have _ := hh0.2.2.1; have _ := hh0.2.2.2; ifd (v8 < (s.length : Int)) (fun h2 _ => ai (by omega : ib v8 s) (ai (Eq.refl (Yq Qf f)) (ai (Imp.px (d := .v (.string (s.getD (Int.toNat v8) default))) (hpre0 (Int.toNat v8) (by omega))) (ifb (f (s.getD (Int.toNat v8) default)) (fun h3 => fiI v8 (F31 s f) (finR (Qz hI0 (condT h2 (condT h3 rfl))) rfl)) (fun h3 => ai (iok (v8 + 1) (by omega)) (bk31_0 Qf s f i0 m0 (v8 + 1) hl0 (Qe hI0 (condT h2 (condF h3 rfl))) (by refine ⟨?_, ?_⟩ <;> omega))))))) (fun h2 _ => have hD0_4 : Qpp s f = Lp.done v8 := Qn hI0 (condF h2 rfl); fiI (-1) (F31 s f) (finD hD0_4 rfl))) (i0.1 - 1) i0.2 (un31_0 s f i0 hi0))) (by kernel_rfl)
theorem as31 (s : List ByteArray) (f : ByteArray → Bool) : F31 s f = (idxI f s) := by
 exact Lj f s (Gh s f) (fun i => rfl)
theorem oa31 (s : List ByteArray) (f : ByteArray → Bool) (Qf : ByteArray → Prop) : (S31 (idxI f s) s f Qf).ok Tryz.prog 31 false := by
 intro hp; have h := ok31 s f Qf hp; rw [as31 s f] at h; exact h
theorem g31_0 (s : List ByteArray) (f : ByteArray → Bool) : (idxI f s) < (s.length : Int) := by
 exact Qgs f s
theorem g31_1 (s : List ByteArray) (f : ByteArray → Bool) : -1 ≤ (idxI f s) := by
 (show -1 ≤ idxI f s; unfold idxI; cases first (fun k => f (s.getD k default)) s.length <;> simp only [oix] <;> omega)
theorem kc31a (s : List ByteArray) (f : ByteArray → Bool) (Qf : ByteArray → Prop) {K_ : Prop} (p0_ : ∀ k : Nat, k < s.length → Qf (s.getD k default)) (k_ : ((idxI f s) < (s.length : Int)) → (-1 ≤ (idxI f s)) → K_) : (∀ k : Nat, k < s.length → Qf (s.getD k default)) ∧ (Imp (.l 1 eStr s) (.l 1 eStr s)) ∧ (Yq Qf f = Yq Qf f) ∧ K_ := ⟨p0_, Imp.refl _, rfl, k_ (g31_0 s f) (g31_1 s f)⟩
abbrev kh31a (s : List ByteArray) (f : ByteArray → Bool) (Qf : ByteArray → Prop) : Hint false Tryz.prog := .call 31 (S31 (idxI f s) s f Qf) (oa31 s f Qf) none
def Gw (s : List ByteArray) (del : ByteArray → Bool) : (Int × Int × List ByteArray) → Lp (Int × Int × List ByteArray) (List ByteArray) := fun (i41, j1, xs) =>
 bif (decide (j1 < (xs.length : Int))) then (bif (!(del (xs.getD (Int.toNat j1) default))) then (.next ((i41 + 1), (j1 + 1), (xs.set (i41).toNat (xs.getD (Int.toNat j1) default)))) else (.next (i41, (j1 + 1), xs))) else (.done (i41, j1, xs))
def Qae (s : List ByteArray) (del : ByteArray → Bool) : Lp (List ByteArray × Int) (List ByteArray) :=
 (runL (Gw s del) ((Int.toNat ((s.length : Int) - ((idxI del s) + 1))) + 1) ((idxI del s), ((idxI del s) + 1), s)).fin Lp.ret (fun (i41, j1, xs) => .done (xs, i41))
def F66 (s : List ByteArray) (del : ByteArray → Bool) : List ByteArray :=
 bif ((idxI del s) == (-1)) then s else ((Qae s del).fin (fun r => r) (fun (s1, i40) => ((s1.take (Int.toNat i40) ++ List.replicate (s1.drop (Int.toNat i40)).length ((⟨#[]⟩ : ByteArray) : ByteArray) ++ s1.drop ((Int.toNat i40) + (s1.drop (Int.toNat i40)).length)).take (Int.toNat i40))))
abbrev Le (s : List ByteArray) (del : ByteArray → Bool) : Nat × (Int × Int × List ByteArray) := (((Int.toNat ((s.length : Int) - ((idxI del s) + 1))) + 1), ((idxI del s), ((idxI del s) + 1), s))
abbrev Qdq (Qdel : ByteArray → Prop) (s : List ByteArray) (m39 : Nat) (i41 : Int) (j1 : Int) (xs : List ByteArray) : Prop := Int.toNat ((xs.length : Int) - j1) < m39 ∧ (0 ≤ i41 ∧ i41 < j1) ∧ j1 ≤ (xs.length : Int) ∧ xs.length ≤ 1000000000 ∧ (∀ k : Nat, j1 ≤ (k : Int) → k < xs.length → Qdel (xs.getD k default)) ∧ xs.length = s.length
abbrev Qmq (s : List ByteArray) (del : ByteArray → Bool) : Lp (Int × Int × List ByteArray) (List ByteArray) := LpX (Gw s del) (Le s del)
abbrev Nw (Qdel : ByteArray → Prop) (s : List ByteArray) (del : ByteArray → Bool) (i : Nat × (Int × Int × List ByteArray)) : Prop := LpJ (Gw s del) (Le s del) i (Qdq Qdel s i.1 i.2.1 i.2.2.1 i.2.2.2)
abbrev Qlc (Qdel : ByteArray → Prop) (s : List ByteArray) (del : ByteArray → Bool) (i : Nat × (Int × Int × List ByteArray)) (m39 : Nat) (i41 : Int) (j1 : Int) (xs : List ByteArray) : Prop := LpH (Gw s del) (Le s del) i m39 (i41, j1, xs) (Qdq Qdel s (m39 + 1) i41 j1 xs)
abbrev Qmk (Qdel : ByteArray → Prop) (del : ByteArray → Bool) (i41 : Int) (j1 : Int) (xs : List ByteArray) (i41_ : Int) (j1_ : Int) (xs_ : List ByteArray) (K39 : Prop) : Prop := ((.int .i64 i41 : Value) = .int .i64 i41_) ∧ ((.int .i64 j1 : Value) = .int .i64 j1_) ∧ (Imp (.l 1 eStr xs) (.l 1 eStr xs_)) ∧ (Yq Qdel del = Yq Qdel del) ∧ K39
theorem un66_0 (Qdel : ByteArray → Prop) (s : List ByteArray) (del : ByteArray → Bool) (i : Nat × (Int × Int × List ByteArray)) (h : Nw Qdel s del i) : Qlc Qdel s del i (i.1 - 1) i.2.1 i.2.2.1 i.2.2.2 := ⟨hd1 h.1 h.2.1, hd3 h.2.1, hd2 h.2.1, h.2.2⟩
theorem Qmm (Qdel : ByteArray → Prop) (s : List ByteArray) (del : ByteArray → Bool) (i : Nat × (Int × Int × List ByteArray)) (m39 : Nat) (i41 : Int) (j1 : Int) (xs : List ByteArray) (hl : m39 < i.1) (e : runL (Gw s del) m39 (i41, j1, xs) = Qmq s del) (h : Qdq Qdel s m39 i41 j1 xs) : ∃ j : Nat × (Int × Int × List ByteArray), Qmk Qdel del i41 j1 xs j.2.1 j.2.2.1 j.2.2.2 (Nw Qdel s del j ∧ j.1 < i.1) := ⟨(m39, (i41, j1, xs)), rfl, rfl, Imp.refl _, rfl, ⟨e, h⟩, hl⟩
theorem en66_0 (Qdel : ByteArray → Prop) (s : List ByteArray) (del : ByteArray → Bool) (h : (0 ≤ (idxI del s) ∧ (idxI del s) < ((idxI del s) + 1)) ∧ ((idxI del s) + 1) ≤ (s.length : Int) ∧ s.length ≤ 1000000000 ∧ (∀ k : Nat, ((idxI del s) + 1) ≤ (k : Int) → k < s.length → Qdel (s.getD k default)) ∧ s.length = s.length) : Qmk Qdel del (idxI del s) ((idxI del s) + 1) s (idxI del s) ((idxI del s) + 1) s (Nw Qdel s del (Le s del)) := ⟨rfl, rfl, Imp.refl _, rfl, rfl, Nat.lt_succ_self _, h⟩
abbrev Qfj (s : List ByteArray) (del : ByteArray → Bool) (s1 : List ByteArray) (i40 : Int) : Prop := (0 ≤ i40 ∧ i40 ≤ (s1.length : Int)) ∧ True
abbrev Qep (s : List ByteArray) (del : ByteArray → Bool) (j : List ByteArray × Int) : Prop := (Qae s del) = Lp.done j ∧ Qfj s del j.1 j.2
theorem jn66_0 (s : List ByteArray) (del : ByteArray → Bool) (s1 : List ByteArray) (i40 : Int) (e : (Qae s del) = Lp.done (s1, i40)) (h : Qfj s del s1 i40) : ∃ j : List ByteArray × Int, ((.int .i64 i40 : Value) = .int .i64 j.2) ∧ (Imp (.l 1 eStr s1) (.l 1 eStr j.1)) ∧ Qep s del j := ⟨(s1, i40), rfl, Imp.refl _, e, h⟩
theorem fi66 (s : List ByteArray) (del : ByteArray → Bool) (r : List ByteArray) (hF : r = (F66 s del)) : (Imp (.l 1 eStr r) (.l 1 eStr (F66 s del))) ∧ True := by cases hF; exact ⟨Imp.refl _, trivial⟩
def S66 (R : List ByteArray) (s : List ByteArray) (del : ByteArray → Bool) (Qdel : ByteArray → Prop) : Spec := ⟨[.ow (.l 1 eStr s) none, .fn (Yq Qdel del)], .ow (.l 1 eStr R), s.length ≤ 1000000000 ∧ (∀ k : Nat, k < s.length → Qdel (s.getD k default))⟩
theorem ok66 (s : List ByteArray) (del : ByteArray → Bool) (Qdel : ByteArray → Prop) : (S66 (F66 s del) s del Qdel).ok Tryz.prog 66 false :=
 Qk mixed (fn := Tryz.f66) (ct := .seqk [(0, 0)] .no (.seq (.reg [(2, kh31a s del Qdel)]) (.seq (.seq .no (.cond (.seq .no .no) .no)) (.cut (ι := List ByteArray × Int) (fun j => (fun (s1 : List ByteArray) (i40 : Int) => (⟨[(0, some (.h 0 0)), (5, some (.v (vI i40)))], [(0, some (.own 0 (.l 1 eStr s1)))], 1⟩ : St)) j.1 j.2) (Qep s del) (.seqk [(0, 0)] (.reg [(1, .bnd)]) (.blk (.loop (ι := Nat × (Int × Int × List ByteArray)) (fun i => (fun (i41 : Int) (j1 : Int) (xs : List ByteArray) => (⟨[(0, some (.h 0 0)), (1, some (.h 1 0)), (5, some (.v (vI i41))), (6, some (.v (vI j1)))], [(0, some (.own 0 (.l 1 eStr xs))), (1, some (.fn (Yq Qdel del)))], 2⟩ : St)) i.2.1 i.2.2.1 i.2.2.2) (Nw Qdel s del) (fun i => i.1) (Le s del) (fun i => (fun (i41 : Int) (j1 : Int) (xs : List ByteArray) => (.seq (.seq .no (.cond .no .no)) (.seq (.blk (.seq .no (.seq (.reg [(2, .fnv (Yq Qdel del) (xs.getD (Int.toNat j1) default))]) (.cond (.seq (.reg [(4, .dat (.l 1 eStr (xs.set (i41).toNat (xs.getD (Int.toNat j1) default))))]) (.reg [(1, .bnd)])) .no)))) (.reg [(1, .bnd)])))) i.2.1 i.2.2.1 i.2.2.2)))) (fun j => (fun (s1 : List ByteArray) (i40 : Int) => (.seq (.reg [(2, .part), (3, .dat (.l 1 eStr (s1.take (Int.toNat i40) ++ List.replicate (s1.drop (Int.toNat i40)).length (w13_ : ByteArray) ++ s1.drop ((Int.toNat i40) + (s1.drop (Int.toNat i40)).length))))]) (.seq (.reg [(2, .own)]) .no))) j.1 j.2))))) Tryz.func66 (fun (hp : s.length ≤ 1000000000 ∧ (∀ k : Nat, k < s.length → Qdel (s.getD k default))) => have hpre0 := hp.1; have hpre1 := hp.2; kn s fun _ => kc31a s del Qdel (by first | assumption | exact hpre1 _ | exact fun k _ => hpre1 k | (intros; exact trivial) | (intros; exact Nat.zero_le _)) (fun gv1 gv2 => ife (idxI del s) (-1) (fun h3 _ => fi66 s del s (condT h3 rfl)) (fun h3 _ => ai (ai (iok ((idxI del s) + 1) (by first | omega | (simp only [lens, ib] at * <;> omega))) (kn s fun _ => ai (en66_0 Qdel s del (by refine ⟨?_, ?_, ?_, ?_, ?_⟩ <;> first | omega | (simp only [lens, ib] at * <;> omega) | (intro k hk hk2; first | exact (by assumption : ∀ k : Nat, k < s.length → Qdel (s.getD k default)) k hk2 | exact (by assumption : ∀ k : Nat, j1 ≤ (k : Int) → k < xs.length → Qdel (xs.getD k default)) k (by first | omega | (simp only [lens, ib] at * <;> omega)) hk2 | (rw [Qp _ _ _ _ (by first | omega | (simp only [lens, ib] at * <;> omega))]; exact (by assumption : ∀ k : Nat, j1 ≤ (k : Int) → k < xs.length → Qdel (xs.getD k default)) k (by first | omega | (simp only [lens, ib] at * <;> omega)) (by simpa using hk2))))) (fun (i0 : Nat × (Int × Int × List ByteArray)) (hi0 : Nw Qdel s del i0) => (fun (m0 : Nat) (i41 : Int) (j1 : Int) (xs : List ByteArray) (hh0 : Qlc Qdel s del i0 m0 i41 j1 xs) => have hI0 := hh0.1; have hl0 := hh0.2.1; have _ := hh0.2.2.1; have _ := hh0.2.2.2.1; have _ := hh0.2.2.2.2.1; have _ := hh0.2.2.2.2.2.1; have _ := hh0.2.2.2.2.2.2.1; have _ := hh0.2.2.2.2.2.2.2; ifd (j1 < (xs.length : Int)) (fun h5 _ => ai (by first | omega | (simp only [lens, ib] at * <;> omega) : ib j1 xs) (ai (Eq.refl (Yq Qdel del)) (ai (Imp.px (d := .v (.string (xs.getD (Int.toNat j1) default))) ((by assumption : ∀ k : Nat, j1 ≤ (k : Int) → k < xs.length → Qdel (xs.getD k default)) (Int.toNat j1) (by first | omega | (simp only [lens, ib] at * <;> omega)) (by first | omega | (simp only [lens, ib] at * <;> omega)))) (ifb (!(del (xs.getD (Int.toNat j1) default))) (fun h6 => have _ := (Zx h6); ai (by first | omega | (simp only [lens, ib] at * <;> omega) : ib i41 xs) (ai (setr 1 eStr xs (i41).toNat (xs.getD (Int.toNat j1) default)) (ai (iok (i41 + 1) (by first | omega | (simp only [lens, ib] at * <;> omega))) (ai (iok (j1 + 1) (by first | omega | (simp only [lens, ib] at * <;> omega))) (Qmm Qdel s del i0 m0 (i41 + 1) (j1 + 1) (xs.set (i41).toNat (xs.getD (Int.toNat j1) default)) hl0 (Qe hI0 (condT h5 (condT h6 rfl))) (by refine ⟨?_, ?_, ?_, ?_, ?_, ?_⟩ <;> first | omega | (simp only [lens, ib] at * <;> omega) | (intro k hk hk2; first | exact (by assumption : ∀ k : Nat, k < s.length → Qdel (s.getD k default)) k hk2 | exact (by assumption : ∀ k : Nat, j1 ≤ (k : Int) → k < xs.length → Qdel (xs.getD k default)) k (by first | omega | (simp only [lens, ib] at * <;> omega)) hk2 | (rw [Qp _ _ _ _ (by first | omega | (simp only [lens, ib] at * <;> omega))]; exact (by assumption : ∀ k : Nat, j1 ≤ (k : Int) → k < xs.length → Qdel (xs.getD k default)) k (by first | omega | (simp only [lens, ib] at * <;> omega)) (by simpa using hk2))))))))) (fun h6 => have _ := (Uq h6); ai (iok (j1 + 1) (by first | omega | (simp only [lens, ib] at * <;> omega))) (Qmm Qdel s del i0 m0 i41 (j1 + 1) xs hl0 (Qe hI0 (condT h5 (condF h6 rfl))) (by refine ⟨?_, ?_, ?_, ?_, ?_, ?_⟩ <;> first | omega | (simp only [lens, ib] at * <;> omega) | (intro k hk hk2; first | exact (by assumption : ∀ k : Nat, k < s.length → Qdel (s.getD k default)) k hk2 | exact (by assumption : ∀ k : Nat, j1 ≤ (k : Int) → k < xs.length → Qdel (xs.getD k default)) k (by first | omega | (simp only [lens, ib] at * <;> omega)) hk2 | (rw [Qp _ _ _ _ (by first | omega | (simp only [lens, ib] at * <;> omega))]; exact (by assumption : ∀ k : Nat, j1 ≤ (k : Int) → k < xs.length → Qdel (xs.getD k default)) k (by first | omega | (simp only [lens, ib] at * <;> omega)) (by simpa using hk2)))))))))) (fun h5 _ => have hD0_7 : Qmq s del = Lp.done (i41, j1, xs) := Qn hI0 (condF h5 rfl); jn66_0 s del xs i41 (Eq.symm (finD hD0_7 rfl)) (by refine ⟨?_, ?_⟩ <;> first | exact trivial | first | omega | (simp only [lens, ib] at * <;> omega)))) (i0.1 - 1) i0.2.1 i0.2.2.1 i0.2.2.2 (un66_0 Qdel s del i0 hi0)))) (fun (j : List ByteArray × Int) (hj : Qep s del j) => (fun (s1 : List ByteArray) (i40 : Int) (hJ0_8 : (Qae s del) = Lp.done (s1, i40)) (hw : Qfj s del s1 i40) => have _ := hw.1; ai (by first | omega | (simp only [lens, ib] at * <;> omega) : 0 ≤ i40 ∧ i40 ≤ (s1.length : Int) ∧ (s1.length : Int) ≤ (s1.length : Int)) (ai (ClearOK.mk eStr s1 (w13_ : ByteArray) rfl (fun y e he => by simp only [eStr, List.mem_cons, List.not_mem_nil, or_false] at he; rcases he with rfl <;> exact ⟨_, rfl⟩) : ClearOK (.l 1 eStr s1) (Int.toNat i40) (s1.drop (Int.toNat i40)).length 1 [.string w13_] (.l 1 eStr (s1.take (Int.toNat i40) ++ List.replicate (s1.drop (Int.toNat i40)).length (w13_ : ByteArray) ++ s1.drop ((Int.toNat i40) + (s1.drop (Int.toNat i40)).length)))) (ai (by first | omega | (simp only [lens, ib] at * <;> omega) : 0 ≤ (0 : Int) ∧ (0 : Int) ≤ i40 ∧ i40 ≤ ((s1.take (Int.toNat i40) ++ List.replicate (s1.drop (Int.toNat i40)).length (w13_ : ByteArray) ++ s1.drop ((Int.toNat i40) + (s1.drop (Int.toNat i40)).length)).length : Int)) (fi66 s del ((s1.take (Int.toNat i40) ++ List.replicate (s1.drop (Int.toNat i40)).length (w13_ : ByteArray) ++ s1.drop ((Int.toNat i40) + (s1.drop (Int.toNat i40)).length)).take (Int.toNat i40)) (condF h3 (finD hJ0_8 rfl)))))) j.1 j.2 hj.1 hj.2)))) (by kernel_rfl)
theorem as66 (s : List ByteArray) (del : ByteArray → Bool) : F66 s del = (s.filter (fun x => !(del x))) := by
 exact Qay del s _ (Gw s del) (fun i j xs => rfl)
theorem oa66 (s : List ByteArray) (del : ByteArray → Bool) (Qdel : ByteArray → Prop) : (S66 (s.filter (fun x => !(del x))) s del Qdel).ok Tryz.prog 66 false := by
 intro hp; have h := ok66 s del Qdel hp; rw [as66 s del] at h; exact h
def F68 (w1 : ByteArray) : Bool :=
 decide ((w1.size : Int) > 24)
def S68 (w1 : ByteArray) : Spec := ⟨[.r (.c (.v (.string w1)))], .v (.bool (F68 w1)), True⟩
theorem ok68 (w1 : ByteArray) : (S68 w1).ok Tryz.prog 68 :=
 Qk mixed (fn := Tryz.f68) (ct := .seq .no (.seq .no .no)) Tryz.func68 (fun (_ : True) => fiB (decide ((w1.size : Int) > 24)) (F68 w1) rfl) (by kernel_rfl)
def F23 (s : List ByteArray) (f : ByteArray → Bool) : Bool :=
 decide ((idxI f s) ≥ 0)
def S23 (R : Bool) (s : List ByteArray) (f : ByteArray → Bool) (Qf : ByteArray → Prop) : Spec := ⟨[.r (.c (.l 1 eStr s)), .fn (Yq Qf f)], .v (.bool R), (∀ k : Nat, k < s.length → Qf (s.getD k default))⟩
theorem ok23 (s : List ByteArray) (f : ByteArray → Bool) (Qf : ByteArray → Prop) : (S23 (F23 s f) s f Qf).ok Tryz.prog 23 false :=
 Qk mixed (fn := Tryz.f23) (ct := .seqk [(0, 0)] .no (.seq (.reg [(2, kh31a s f Qf)]) .no)) Tryz.func23 (fun (hpre0 : ∀ k : Nat, k < s.length → Qf (s.getD k default)) => kn s fun _ => kc31a s f Qf (by first | assumption | exact hpre0 _ | exact fun k _ => hpre0 k | (intros; exact trivial) | (intros; exact Nat.zero_le _)) (fun gv1 gv2 => fiB (decide ((idxI f s) ≥ 0)) (F23 s f) rfl)) (by kernel_rfl)
theorem as23 (s : List ByteArray) (f : ByteArray → Bool) : F23 s f = (s.any f) := by
 exact Qho f s
theorem oa23 (s : List ByteArray) (f : ByteArray → Bool) (Qf : ByteArray → Prop) : (S23 (s.any f) s f Qf).ok Tryz.prog 23 false := by
 intro hp; have h := ok23 s f Qf hp; rw [as23 s f] at h; exact h
abbrev kh33f (s : ByteArray) (sep : ByteArray) : Hint false Tryz.prog := .call 33 (S33 s sep) ((ok33 s sep).to false) none
abbrev w14_ : ByteArray := ⟨#[35]⟩
abbrev w15_ : ByteArray := ⟨#[32]⟩
def Wl (line : ByteArray) : Int → Lp Int (List ByteArray × Bool) := fun i40 =>
 bif (decide (i40 < (((F64 line (⟨#[35]⟩ : ByteArray)).1).size : Int))) then (bif (!(decide (32 ≤ (IntKind.i64.wrap ((((F64 line (⟨#[35]⟩ : ByteArray)).1).data.getD (Int.toNat i40) 0).toNat : Int)) ∧ (IntKind.i64.wrap ((((F64 line (⟨#[35]⟩ : ByteArray)).1).data.getD (Int.toNat i40) 0).toNat : Int)) ≤ 126))) then (.ret (([] : List ByteArray), false)) else (.next (i40 + 1))) else (.done i40)
def F49 (line : ByteArray) : List ByteArray × Bool :=
 (runL (Wl line) ((Int.toNat ((((F64 line (⟨#[35]⟩ : ByteArray)).1).size : Int) - 0)) + 1) 0).fin (fun r => r) (fun i40 => bif (bif decide ((((F33 ((F64 line (⟨#[35]⟩ : ByteArray)).1) (⟨#[32]⟩ : ByteArray)).filter (fun x => !((fun (x0 : ByteArray) => F67 x0) x))).length : Int) > 8) then true else (((F33 ((F64 line (⟨#[35]⟩ : ByteArray)).1) (⟨#[32]⟩ : ByteArray)).filter (fun x => !((fun (x0 : ByteArray) => F67 x0) x))).any (fun (x0 : ByteArray) => F68 x0))) then (([] : List ByteArray), false) else (((F33 ((F64 line (⟨#[35]⟩ : ByteArray)).1) (⟨#[32]⟩ : ByteArray)).filter (fun x => !((fun (x0 : ByteArray) => F67 x0) x))), true))
abbrev Mv (line : ByteArray) : Nat × Int := (((Int.toNat ((((F64 line w14_).1).size : Int) - 0)) + 1), 0)
abbrev Qeu (line : ByteArray) (m39 : Nat) (i40 : Int) : Prop := Int.toNat ((((F64 line w14_).1).size : Int) - i40) < m39 ∧ (0 : Int) ≤ i40
abbrev Qkm (line : ByteArray) : Lp Int (List ByteArray × Bool) := LpX (Wl line) (Mv line)
abbrev Np (line : ByteArray) (i : Nat × Int) : Prop := LpJ (Wl line) (Mv line) i (Qeu line i.1 i.2)
abbrev Qod (line : ByteArray) (i : Nat × Int) (m39 : Nat) (i40 : Int) : Prop := LpH (Wl line) (Mv line) i m39 i40 (Qeu line (m39 + 1) i40)
abbrev Qnv (line : ByteArray) (i40 : Int) (i40_ : Int) (K39 : Prop) : Prop := (Rf (.string ((F64 line w14_).1))) ∧ ((.int .i64 i40 : Value) = .int .i64 i40_) ∧ K39
theorem un49_0 (line : ByteArray) (i : Nat × Int) (h : Np line i) : Qod line i (i.1 - 1) i.2 := ⟨hd1 h.1 h.2.1, hd3 h.2.1, hd2 h.2.1, h.2.2⟩
theorem bk49_0 (line : ByteArray) (i : Nat × Int) (m39 : Nat) (i40 : Int) (hl : m39 < i.1) (e : runL (Wl line) m39 i40 = Qkm line) (h : Qeu line m39 i40) : ∃ j : Nat × Int, Qnv line i40 j.2 (Np line j ∧ j.1 < i.1) := ⟨(m39, i40), rfl, rfl, ⟨e, h⟩, hl⟩
theorem en49_0 (line : ByteArray) (h : (0 : Int) ≤ 0) : Qnv line 0 0 (Np line (Mv line)) := ⟨rfl, rfl, rfl, Nat.lt_succ_self _, h⟩
theorem fi49 (line : ByteArray) (r : List ByteArray × Bool) (hF : r = (F49 line)) : (Imp (.l 1 eStr r.1) (.l 1 eStr ((F49 line).1))) ∧ ((.bool r.2 : Value) = .bool ((F49 line).2)) ∧ True := by cases hF; exact ⟨Imp.refl _, rfl, trivial⟩
def S49 (line : ByteArray) : Spec := ⟨[.r (.c (.v (.string line)))], .tu [.ow (.l 1 eStr ((F49 line).1)), .v (.bool ((F49 line).2))], line.size ≤ 1048576⟩
theorem ok49 (line : ByteArray) : (S49 line).ok Tryz.prog 49 false :=
 Qk mixed (fn := Tryz.f49) (ct := .seq .no (.seq (.reg [(1, Qot line w14_)]) (.seq (.seq .no (.blk (.loop (ι := Nat × Int) (fun i => (fun (i40 : Int) => (⟨[(0, some (.v (.string ((F64 line w14_).1)))), (4, some (.v (vI i40)))], [], 0⟩ : St)) i.2) (Np line) (fun i => i.1) (Mv line) (fun i => (fun (i40 : Int) => (.seq (.seq .no (.cond .no .no)) (.seq (.blk (.seq (.reg [(4, Qac (IntKind.i64.wrap ((((F64 line w14_).1).data.getD (Int.toNat i40) 0).toNat : Int)) 32 126)]) (.cond (.seq .no .no) .no))) (.reg [(1, .bnd)])))) i.2)))) (.seq (.reg [(1, kh33f ((F64 line w14_).1) w15_), (2, .call 66 (S66 ((F33 ((F64 line w14_).1) w15_).filter (fun x => !((fun (x0 : ByteArray) => F67 x0) x))) (F33 ((F64 line w14_).1) w15_) (fun (x0 : ByteArray) => F67 x0) (fun (x0 : ByteArray) => True)) (oa66 (F33 ((F64 line w14_).1) w15_) (fun (x0 : ByteArray) => F67 x0) (fun (x0 : ByteArray) => True)) (some ⟨true, 67, Yq (fun (x0 : ByteArray) => True) (fun (x0 : ByteArray) => F67 x0), [], rfl, True, fun i => Qoy (ok67 i)⟩))]) (.seq (.seq (.reg [(5, .call 23 (S23 (((F33 ((F64 line w14_).1) w15_).filter (fun x => !((fun (x0 : ByteArray) => F67 x0) x))).any (fun (x0 : ByteArray) => F68 x0)) ((F33 ((F64 line w14_).1) w15_).filter (fun x => !((fun (x0 : ByteArray) => F67 x0) x))) (fun (x0 : ByteArray) => F68 x0) (fun (x0 : ByteArray) => True)) (oa23 ((F33 ((F64 line w14_).1) w15_).filter (fun x => !((fun (x0 : ByteArray) => F67 x0) x))) (fun (x0 : ByteArray) => F68 x0) (fun (x0 : ByteArray) => True)) (some ⟨true, 68, Yq (fun (x0 : ByteArray) => True) (fun (x0 : ByteArray) => F68 x0), [], rfl, True, fun i => Qoy (ok68 i)⟩))]) (.cond (.seq .no .no) .no)) (.seq .no .no)))))) Tryz.func49 (fun (hpre0 : line.size ≤ 1048576) => kc64 line w14_ (by omega) (fun gv1 gv2 => ai (en49_0 line (by omega)) (fun (i0 : Nat × Int) (hi0 : Np line i0) => (fun (m0 : Nat) (i40 : Int) (hh0 : Qod line i0 m0 i40) => have hI0 := hh0.1; have hl0 := hh0.2.1; have _ := hh0.2.2.1; have _ := hh0.2.2.2; ifd (i40 < (((F64 line w14_).1).size : Int)) (fun h4 _ => ai (by omega : 0 ≤ i40 ∧ i40 < (((F64 line w14_).1).size : Int)) (Qhg (IntKind.i64.wrap ((((F64 line w14_).1).data.getD (Int.toNat i40) 0).toNat : Int)) 32 126 (ifb (!(decide (32 ≤ (IntKind.i64.wrap ((((F64 line w14_).1).data.getD (Int.toNat i40) 0).toNat : Int)) ∧ (IntKind.i64.wrap ((((F64 line w14_).1).data.getD (Int.toNat i40) 0).toNat : Int)) ≤ 126))) (fun h5 => have _ : ¬ (32 ≤ (IntKind.i64.wrap ((((F64 line w14_).1).data.getD (Int.toNat i40) 0).toNat : Int)) ∧ (IntKind.i64.wrap ((((F64 line w14_).1).data.getD (Int.toNat i40) 0).toNat : Int)) ≤ 126) := of_decide_eq_false (Zx h5); (fun hF : (([] : List ByteArray), false) = (F49 line) => ai ((Imp.nil 1 eStr).trans (Imp.of_eq (congrArg (fun r : List ByteArray × Bool => Dat.l 1 eStr r.1) hF))) (ai (congrArg (fun r : List ByteArray × Bool => (.bool r.2 : Value)) hF) trivial)) (finR (Qz hI0 (condT h4 (condT h5 rfl))) rfl)) (fun h5 => have _ : 32 ≤ (IntKind.i64.wrap ((((F64 line w14_).1).data.getD (Int.toNat i40) 0).toNat : Int)) ∧ (IntKind.i64.wrap ((((F64 line w14_).1).data.getD (Int.toNat i40) 0).toNat : Int)) ≤ 126 := of_decide_eq_true (Uq h5); ai (iok (i40 + 1) (by omega)) (bk49_0 line i0 m0 (i40 + 1) hl0 (Qe hI0 (condT h4 (condF h5 rfl))) (by refine ⟨?_, ?_⟩ <;> omega)))))) (fun h4 _ => have hD0_6 : Qkm line = Lp.done i40 := Qn hI0 (condF h4 rfl); kc33 ((F64 line w14_).1) w15_ (by omega) (by decide) (by decide) (by decide) (fun gv7 gv8 => ai (ai (by omega : (F33 ((F64 line w14_).1) w15_).length ≤ 1000000000) (by first | assumption | (intros; exact trivial) | (intros; exact Nat.zero_le _) : ∀ k : Nat, k < (F33 ((F64 line w14_).1) w15_).length → (fun (x0 : ByteArray) => True) ((F33 ((F64 line w14_).1) w15_).getD k default))) (ai (Imp.refl (.l 1 eStr (F33 ((F64 line w14_).1) w15_))) (ai (Eq.refl (Yq (fun (x0 : ByteArray) => True) (fun (x0 : ByteArray) => F67 x0))) (ai trivial (ai (fun k9 : (decide ((((F33 ((F64 line w14_).1) w15_).filter (fun x => !((fun (x0 : ByteArray) => F67 x0) x))).length : Int) > 8)) = false => have _ : ¬ (((F33 ((F64 line w14_).1) w15_).filter (fun x => !((fun (x0 : ByteArray) => F67 x0) x))).length : Int) > 8 := of_decide_eq_false k9; (by first | assumption | (intros; exact trivial) | (intros; exact Nat.zero_le _) : ∀ k : Nat, k < ((F33 ((F64 line w14_).1) w15_).filter (fun x => !((fun (x0 : ByteArray) => F67 x0) x))).length → (fun (x0 : ByteArray) => True) (((F33 ((F64 line w14_).1) w15_).filter (fun x => !((fun (x0 : ByteArray) => F67 x0) x))).getD k default))) (ai (fun k10 : (decide ((((F33 ((F64 line w14_).1) w15_).filter (fun x => !((fun (x0 : ByteArray) => F67 x0) x))).length : Int) > 8)) = false => have _ : ¬ (((F33 ((F64 line w14_).1) w15_).filter (fun x => !((fun (x0 : ByteArray) => F67 x0) x))).length : Int) > 8 := of_decide_eq_false k10; (Imp.refl (.l 1 eStr ((F33 ((F64 line w14_).1) w15_).filter (fun x => !((fun (x0 : ByteArray) => F67 x0) x)))))) (ai (fun k11 : (decide ((((F33 ((F64 line w14_).1) w15_).filter (fun x => !((fun (x0 : ByteArray) => F67 x0) x))).length : Int) > 8)) = false => have _ : ¬ (((F33 ((F64 line w14_).1) w15_).filter (fun x => !((fun (x0 : ByteArray) => F67 x0) x))).length : Int) > 8 := of_decide_eq_false k11; (Eq.refl (Yq (fun (x0 : ByteArray) => True) (fun (x0 : ByteArray) => F68 x0)))) (ai (fun k12 : (decide ((((F33 ((F64 line w14_).1) w15_).filter (fun x => !((fun (x0 : ByteArray) => F67 x0) x))).length : Int) > 8)) = false => have _ : ¬ (((F33 ((F64 line w14_).1) w15_).filter (fun x => !((fun (x0 : ByteArray) => F67 x0) x))).length : Int) > 8 := of_decide_eq_false k12; trivial) (ifb (bif decide ((((F33 ((F64 line w14_).1) w15_).filter (fun x => !((fun (x0 : ByteArray) => F67 x0) x))).length : Int) > 8) then true else (((F33 ((F64 line w14_).1) w15_).filter (fun x => !((fun (x0 : ByteArray) => F67 x0) x))).any (fun (x0 : ByteArray) => F68 x0))) (fun h13 => (fun hF : (([] : List ByteArray), false) = (F49 line) => ai ((Imp.nil 1 eStr).trans (Imp.of_eq (congrArg (fun r : List ByteArray × Bool => Dat.l 1 eStr r.1) hF))) (ai (congrArg (fun r : List ByteArray × Bool => (.bool r.2 : Value)) hF) trivial)) (finD hD0_6 (condT h13 rfl))) (fun h13 => have _ : ¬ (((F33 ((F64 line w14_).1) w15_).filter (fun x => !((fun (x0 : ByteArray) => F67 x0) x))).length : Int) > 8 := of_decide_eq_false (orF1 h13); fi49 line (((F33 ((F64 line w14_).1) w15_).filter (fun x => !((fun (x0 : ByteArray) => F67 x0) x))), true) (finD hD0_6 (condF h13 rfl)))))))))))))) (i0.1 - 1) i0.2 (un49_0 line i0 hi0)))) (by kernel_rfl)
end Go.Proofs.YtmoodkjkecjeaacGreatDoor
namespace Go.Proofs.YtmoodkjkecjeaacGreatDoor
open Go.RowKit
set_option maxRecDepth 100000
set_option linter.unusedVariables false
set_option linter.unusedSimpArgs false
def Qv (c : UInt8) : List UInt8 → List (List UInt8)
 | [] => [[]]
 | b :: l => if b = c then [] :: Qv c l else (match Qv c l with | [] => [[b]] | w :: ws => (b :: w) :: ws)
theorem Un {c : UInt8} : ∀ {l : List UInt8}, c ∉ l → Qv c l = [l]
 | [], _ => rfl
 | b :: l, h => by
  have hb : b ≠ c := fun e => h (by rw [e]; exact List.mem_cons_self)
  rw [Qv, if_neg hb, Un (fun hm => h (List.mem_cons_of_mem _ hm))]
theorem Ut {c : UInt8} (b : List UInt8) : ∀ {a : List UInt8}, c ∉ a → Qv c (a ++ c :: b) = a :: Qv c b
 | [], _ => by rw [List.nil_append, Qv, if_pos rfl]
 | x :: a, h => by
  have hb : x ≠ c := fun e => h (by rw [e]; exact List.mem_cons_self)
  rw [List.cons_append, Qv, if_neg hb, Ut b (fun hm => h (List.mem_cons_of_mem _ hm))]
theorem Zt (c : UInt8) : ∀ l : List UInt8, (Lib.index l [c] = -1 ∧ c ∉ l) ∨ ∃ a b, l = a ++ c :: b ∧ c ∉ a ∧ Lib.index l [c] = (a.length : Int)
 | [] => .inl ⟨rfl, by simp⟩
 | x :: l => by
  rw [Lib.index_one, Lib.indexByte]
  by_cases hx : x = c
  ·subst hx
   exact .inr ⟨[], l, rfl, by simp, by simp⟩
  ·have hx' : (x == c) = false := by simpa using hx
   rw [hx']
   rcases Zt c l with ⟨h1, h2⟩ | ⟨a, b, h1, h2, h3⟩
   ·rw [Lib.index_one] at h1
    refine .inl ⟨by rw [h1]; rfl, fun hm => ?_⟩
    rcases List.mem_cons.1 hm with h | h
    ·exact hx h.symm
    ·exact h2 h
   ·rw [Lib.index_one] at h3
    refine .inr ⟨x :: a, b, by rw [h1]; rfl, fun hm => ?_, ?_⟩
    ·rcases List.mem_cons.1 hm with h | h
     ·exact hx h.symm
     ·exact h2 h
    ·rw [h3]
     have : ((a.length : Int) == -1) = false := by
      rw [beq_eq_false_iff_ne]; omega
     simp only [this, Bool.false_eq_true, if_false, List.length_cons]
     omega
theorem Wm {a b : ByteArray} (h : a.data.toList = b.data.toList) : a = b := by
 cases a; cases b
 simp only at h
 congr
 exact Array.ext' h
theorem Vt (s : ByteArray) (c : UInt8) : (c ∉ s.data.toList ∧ cut3 s ⟨#[c]⟩ = (s, ⟨#[]⟩, false)) ∨ ∃ a b, s.data.toList = a ++ c :: b ∧ c ∉ a ∧ cut3 s ⟨#[c]⟩ = (⟨a.toArray⟩, ⟨b.toArray⟩, true) := by
 rcases Zt c s.data.toList with ⟨h1, h2⟩ | ⟨a, b, h1, h2, h3⟩
 ·refine .inl ⟨h2, ?_⟩
  unfold cut3 Lib.cut
  rw [h1]
  rfl
 ·refine .inr ⟨a, b, h1, h2, ?_⟩
  unfold cut3 Lib.cut
  rw [h3, if_pos (by omega), h1]
  simp
theorem Mc (c : UInt8) : ∀ (k : Nat) (s : ByteArray), s.data.toList.count c = k → (Lib.splitB ⟨#[c]⟩ 0 k s).map (·.data.toList) = Qv c s.data.toList
 | 0, s, hk => by
  rw [Un (List.count_eq_zero.1 hk)]
  rfl
 | k + 1, s, hk => by
  rcases Zt c s.data.toList with ⟨h1, h2⟩ | ⟨a, b, h1, h2, h3⟩
  ·rw [List.count_eq_zero.2 h2] at hk; omega
  ·have hi : Lib.indexB s ⟨#[c]⟩ = (a.length : Int) := h3
   unfold Lib.splitB
   rw [hi, if_neg (by rw [beq_iff_eq]; omega), List.map_cons, h1, Ut b h2]
   have hsz : s.size = a.length + (b.length + 1) := by
    have := congrArg List.length h1
    rw [List.length_append, List.length_cons, Array.length_toList] at this
    exact this
   have e1 : (s.extract 0 (((a.length : Int)).toNat + 0)).data.toList = a := by
    rw [ByteArray.data_extract, Array.toList_extract, List.extract_eq_take_drop, h1, Int.toNat_natCast, Nat.add_zero, Nat.sub_zero, List.drop_zero]
    rw [List.take_append_of_le_length (Nat.le_refl _), List.take_length]
   have e2 : (s.extract (((a.length : Int)).toNat + (⟨#[c]⟩ : ByteArray).size) s.size).data.toList = b := by
    have hc1 : (⟨#[c]⟩ : ByteArray).size = 1 := rfl
    rw [hc1]
    simp only [ByteArray.data_extract, Array.toList_extract, List.extract_eq_take_drop, h1, Int.toNat_natCast, hsz]
    rw [List.drop_append, List.drop_of_length_le (by omega), List.nil_append]
    have e3 : a.length + 1 - a.length = 1 := by omega
    rw [e3, List.drop_succ_cons, List.drop_zero, List.take_of_length_le (by omega)]
   rw [e1, Mc c k _ (by rw [e2]; rw [h1] at hk; simp [List.count_eq_zero.2 h2] at hk; omega), e2]
theorem Pf (s : ByteArray) (c : UInt8) : (Qu s ⟨#[c]⟩).map (·.data.toList) = Qv c s.data.toList := by
 have : Lib.countB s ⟨#[c]⟩ = s.data.toList.count c := Lib.count_one c s.data.toList
 unfold Qu
 rw [this]
 exact Mc c _ s rfl
def Jp (line : ByteArray) : Int → Lp Int ByteArray := fun i40 =>
 bif (decide (i40 < (line.size : Int))) then (bif (((line.data.getD (Int.toNat i40) 0).toNat : Int) == 35) then (.ret (line.extract (Int.toNat (0 : Int)) (Int.toNat i40))) else (.next (i40 + 1))) else (.done i40)
def F48 (line : ByteArray) : ByteArray :=
 (runL (Jp line) ((Int.toNat ((line.size : Int) - 0)) + 1) 0).fin (fun r => r) (fun i40 => line)
abbrev Lw (line : ByteArray) : Nat × Int := (((Int.toNat ((line.size : Int) - 0)) + 1), 0)
abbrev Qev (line : ByteArray) (m39 : Nat) (i40 : Int) : Prop := Int.toNat ((line.size : Int) - i40) < m39 ∧ (0 : Int) ≤ i40
abbrev Qlk (line : ByteArray) : Lp Int ByteArray := LpX (Jp line) (Lw line)
abbrev Ln (line : ByteArray) (i : Nat × Int) : Prop := LpJ (Jp line) (Lw line) i (Qev line i.1 i.2)
abbrev Qkn (line : ByteArray) (i : Nat × Int) (m39 : Nat) (i40 : Int) : Prop := LpH (Jp line) (Lw line) i m39 i40 (Qev line (m39 + 1) i40)
abbrev Qmd (line : ByteArray) (i40 : Int) (i40_ : Int) (K39 : Prop) : Prop := (Rf (.string line)) ∧ ((.int .i64 i40 : Value) = .int .i64 i40_) ∧ K39
theorem un48_0 (line : ByteArray) (i : Nat × Int) (h : Ln line i) : Qkn line i (i.1 - 1) i.2 := ⟨hd1 h.1 h.2.1, hd3 h.2.1, hd2 h.2.1, h.2.2⟩
theorem bk48_0 (line : ByteArray) (i : Nat × Int) (m39 : Nat) (i40 : Int) (hl : m39 < i.1) (e : runL (Jp line) m39 i40 = Qlk line) (h : Qev line m39 i40) : ∃ j : Nat × Int, Qmd line i40 j.2 (Ln line j ∧ j.1 < i.1) := ⟨(m39, i40), rfl, rfl, ⟨e, h⟩, hl⟩
theorem en48_0 (line : ByteArray) (h : (0 : Int) ≤ 0) : Qmd line 0 0 (Ln line (Lw line)) := ⟨rfl, rfl, rfl, Nat.lt_succ_self _, h⟩
def S48 (R : ByteArray) (line : ByteArray) : Spec := ⟨[.r (.c (.v (.string line)))], .v (.string R), line.size ≤ 1048576⟩
theorem ok48 (line : ByteArray) : (S48 (F48 line) line).ok Tryz.prog 48 :=
 Qk mixed (fn := Tryz.f48) (ct := .seq .no (.seq (.seq .no (.blk (.loop (ι := Nat × Int) (fun i => (fun (i40 : Int) => (⟨[(0, some (.v (.string line))), (3, some (.v (vI i40)))], [], 0⟩ : St)) i.2) (Ln line) (fun i => i.1) (Lw line) (fun i => (fun (i40 : Int) => (.seq (.seq .no (.cond .no .no)) (.seq (.blk (.seq .no (.cond (.seq .no .no) .no))) (.reg [(1, .bnd)])))) i.2)))) (.seq .no .no))) Tryz.func48 (fun (hpre0 : line.size ≤ 1048576) => ai (en48_0 line (by omega)) (fun (i0 : Nat × Int) (hi0 : Ln line i0) => (fun (m0 : Nat) (i40 : Int) (hh0 : Qkn line i0 m0 i40) => have hI0 := hh0.1; have hl0 := hh0.2.1; have _ := hh0.2.2.1; have _ := hh0.2.2.2; ifd (i40 < (line.size : Int)) (fun h2 _ => ai (by omega : 0 ≤ i40 ∧ i40 < (line.size : Int)) (ife ((line.data.getD (Int.toNat i40) 0).toNat : Int) 35 (fun h3 _ => ai (by omega : 0 ≤ (0 : Int) ∧ (0 : Int) ≤ i40 ∧ i40 ≤ (line.size : Int)) (fiS (line.extract (Int.toNat (0 : Int)) (Int.toNat i40)) (F48 line) (finR (Qz hI0 (condT h2 (condT h3 rfl))) rfl))) (fun h3 _ => ai (iok (i40 + 1) (by omega)) (bk48_0 line i0 m0 (i40 + 1) hl0 (Qe hI0 (condT h2 (condF h3 rfl))) (by refine ⟨?_, ?_⟩ <;> omega))))) (fun h2 _ => have hD0_4 : Qlk line = Lp.done i40 := Qn hI0 (condF h2 rfl); fiS line (F48 line) (finD hD0_4 rfl))) (i0.1 - 1) i0.2 (un48_0 line i0 hi0))) (by kernel_rfl)
theorem Yx (s : ByteArray) (i : Nat) : s.data.getD i 0 = s.data.toList.getD i 0 := by
 simp [Array.getD, List.getD_eq_getElem?_getD]
 split <;> simp_all
theorem cut_at {s : ByteArray} {c : UInt8} {i : Nat} (hi : i < s.size) (h : s.data.toList.getD i 0 = c) (hn : ∀ j, j < i → s.data.toList.getD j 0 ≠ c) : (cut3 s ⟨#[c]⟩).1 = s.extract 0 i := by
 have hl : s.data.toList.length = s.size := Array.length_toList
 rcases Vt s c with ⟨h1, _⟩ | ⟨a, b, h1, h2, h3⟩
 ·exact absurd (by rw [← h, List.getD_eq_getElem?_getD, List.getElem?_eq_getElem (by omega)]; exact List.getElem_mem _) h1
 ·rw [h3]
  have hai : a.length = i := by
   rcases Nat.lt_trichotomy a.length i with hlt | heq | hgt
   ·refine absurd ?_ (hn a.length hlt)
    rw [h1, List.getD_eq_getElem?_getD, List.getElem?_append_right (Nat.le_refl _)]
    simp
   ·exact heq
   ·rw [h1, List.getD_eq_getElem?_getD, List.getElem?_append_left hgt, List.getElem?_eq_getElem hgt] at h
    exact absurd (h ▸ List.getElem_mem hgt) h2
  refine Wm ?_
  rw [ByteArray.data_extract, Array.toList_extract, List.extract_eq_take_drop, h1, List.drop_zero, Nat.sub_zero, ← hai, List.take_append_of_le_length (Nat.le_refl _), List.take_length]
theorem Qra {s : ByteArray} {c : UInt8} (hn : ∀ j, j < s.size → s.data.toList.getD j 0 ≠ c) : (cut3 s ⟨#[c]⟩).1 = s := by
 have hl : s.data.toList.length = s.size := Array.length_toList
 rcases Vt s c with ⟨_, h1⟩ | ⟨a, b, h1, h2, h3⟩
 ·rw [h1]
 ·refine absurd ?_ (hn a.length (by rw [← hl, h1]; simp))
  rw [h1, List.getD_eq_getElem?_getD, List.getElem?_append_right (Nat.le_refl _)]
  simp
theorem Qhx (b : UInt8) (k : UInt8) : ((b.toNat : Int) == (k.toNat : Int)) = decide (b = k) := by
 rw [beqD]
 congr 1
 refine propext ⟨fun h => ?_, fun h => by rw [h]⟩
 exact UInt8.toNat_inj.1 (by omega)
theorem Td (s : ByteArray) : ∀ (m i : Nat), i + m = s.size → (∀ j, j < i → s.data.toList.getD j 0 ≠ 35) → ∀ fuel, m < fuel →
  (runL (Jp s) fuel (i : Int)).fin (fun r => r) (fun _ => s) = (cut3 s ⟨#[35]⟩).1
 | m, i, _, _, 0, hf => absurd hf (Nat.not_lt_zero _)
 | 0, i, h, hn, fuel + 1, _ => by
  have h1 : decide ((i : Int) < (s.size : Int)) = false := decide_eq_false (by omega)
  simp only [runL, Jp, h1, cond_false]
  rw [Qra (fun j hj => hn j (by omega))]
  rfl
 | m + 1, i, h, hn, fuel + 1, hf => by
  have h1 : decide ((i : Int) < (s.size : Int)) = true := decide_eq_true (by omega)
  have h2 := Qhx (s.data.toList.getD i 0) 35
  have h3 : ((35 : UInt8).toNat : Int) = 35 := rfl
  rw [h3] at h2
  simp only [runL, Jp, h1, cond_true, Int.toNat_natCast, Yx, h2]
  by_cases hc : s.data.toList.getD i 0 = 35
  ·rw [decide_eq_true hc, cond_true, cut_at (by omega) hc hn]
   rfl
  ·rw [decide_eq_false hc, cond_false]
   have := Td s m (i + 1) (by omega) (fun j hj => by
    rcases Nat.lt_or_ge j i with h4 | h4
    ·exact hn j h4
    ·obtain rfl : j = i := by omega
     exact hc) fuel (by omega)
   simpa using this
theorem as48 (line : ByteArray) : F48 line = ((cut3 line (⟨#[35]⟩ : ByteArray)).1) := by
 unfold F48
 exact Td line line.size 0 (by omega) (fun j hj => absurd hj (Nat.not_lt_zero _)) _ (by omega)
theorem Qqn (line : ByteArray) : ((cut3 line (⟨#[35]⟩ : ByteArray)).1.size : Int) ≤ line.size := Mu _ _
theorem Qkq (line : ByteArray) (h : line.size ≤ 1048576) : (cut3 line (⟨#[35]⟩ : ByteArray)).1.size ≤ 1048576 := by
 have := Mu line ⟨#[35]⟩
 omega
theorem oa48 (line : ByteArray) : (S48 ((cut3 line (⟨#[35]⟩ : ByteArray)).1) line).ok Tryz.prog 48 := by
 intro hp; have h := ok48 line hp; rw [as48 line] at h; exact h
theorem kc48a (line : ByteArray) {K_ : Prop} (p0_ : line.size ≤ 1048576) (q0_ : line.size ≤ 1048576) (k_ : ((((cut3 line w14_).1).size : Int) ≤ line.size) → (((cut3 line w14_).1).size ≤ 1048576) → K_) : (line.size ≤ 1048576) ∧ (Imp (.v (.string line)) (.v (.string line))) ∧ K_ := ⟨p0_, Imp.refl _, k_ (Qqn line) (Qkq line q0_)⟩
abbrev kh48a (line : ByteArray) : Hint true Tryz.prog := .call 48 (S48 ((cut3 line w14_).1) line) (oa48 line) none
def Kb (line : ByteArray) : (List ByteArray × List Int × Int) → Lp (List ByteArray × List Int × Int) (List ByteArray × Bool) := fun (out, word, i40) =>
 bif (decide (i40 ≤ (((cut3 line (⟨#[35]⟩ : ByteArray)).1).size : Int))) then (bif (bif decide (i40 < (((cut3 line (⟨#[35]⟩ : ByteArray)).1).size : Int)) then (bif decide (((((cut3 line (⟨#[35]⟩ : ByteArray)).1).data.getD (Int.toNat i40) 0).toNat : Int) < 32) then true else decide (((((cut3 line (⟨#[35]⟩ : ByteArray)).1).data.getD (Int.toNat i40) 0).toNat : Int) > 126)) else false) then (.ret (([] : List ByteArray), false)) else (bif (bif decide (i40 < (((cut3 line (⟨#[35]⟩ : ByteArray)).1).size : Int)) then (((((cut3 line (⟨#[35]⟩ : ByteArray)).1).data.getD (Int.toNat i40) 0).toNat : Int) != 32) else false) then (bif (decide (((word ++ [((((cut3 line (⟨#[35]⟩ : ByteArray)).1).data.getD (Int.toNat i40) 0).toNat : Int)]).length : Int) > 24)) then (.ret (([] : List ByteArray), false)) else (.next (out, (word ++ [((((cut3 line (⟨#[35]⟩ : ByteArray)).1).data.getD (Int.toNat i40) 0).toNat : Int)]), (i40 + 1)))) else (bif (decide ((word.length : Int) > 0)) then (bif (decide (((out ++ [(Yh word)]).length : Int) > 8)) then (.ret (([] : List ByteArray), false)) else (.next ((out ++ [(Yh word)]), ([] : List Int), (i40 + 1)))) else (.next (out, word, (i40 + 1)))))) else (.done (out, word, i40))
def F30 (line : ByteArray) : List ByteArray × Bool :=
 (runL (Kb line) ((Int.toNat ((((cut3 line (⟨#[35]⟩ : ByteArray)).1).size : Int) - 0 + 1)) + 1) (([] : List ByteArray), ([] : List Int), 0)).fin (fun r => r) (fun (out, word, i40) => (out, true))
abbrev Mm (line : ByteArray) : Nat × (List ByteArray × List Int × Int) := (((Int.toNat ((((cut3 line w14_).1).size : Int) - 0 + 1)) + 1), (([] : List ByteArray), ([] : List Int), 0))
abbrev Qfm (line : ByteArray) (m39 : Nat) (out : List ByteArray) (word : List Int) (i40 : Int) : Prop := Int.toNat ((((cut3 line w14_).1).size : Int) - i40 + 1) < m39 ∧ word.length ≤ 24 ∧ out.length ≤ 8 ∧ (0 : Int) ≤ i40
abbrev Qjw (line : ByteArray) : Lp (List ByteArray × List Int × Int) (List ByteArray × Bool) := LpX (Kb line) (Mm line)
abbrev Lq (line : ByteArray) (i : Nat × (List ByteArray × List Int × Int)) : Prop := LpJ (Kb line) (Mm line) i (Qfm line i.1 i.2.1 i.2.2.1 i.2.2.2)
abbrev Qlo (line : ByteArray) (i : Nat × (List ByteArray × List Int × Int)) (m39 : Nat) (out : List ByteArray) (word : List Int) (i40 : Int) : Prop := LpH (Kb line) (Mm line) i m39 (out, word, i40) (Qfm line (m39 + 1) out word i40)
abbrev Qke (line : ByteArray) (out : List ByteArray) (word : List Int) (i40 : Int) (out_ : List ByteArray) (word_ : List Int) (i40_ : Int) (K39 : Prop) : Prop := (Rf (.string ((cut3 line w14_).1))) ∧ ((.int .i64 i40 : Value) = .int .i64 i40_) ∧ (Imp (.l 1 eStr out) (.l 1 eStr out_)) ∧ (Imp (.l 1 Zd word) (.l 1 Zd word_)) ∧ K39
theorem un30_0 (line : ByteArray) (i : Nat × (List ByteArray × List Int × Int)) (h : Lq line i) : Qlo line i (i.1 - 1) i.2.1 i.2.2.1 i.2.2.2 := ⟨hd1 h.1 h.2.1, hd3 h.2.1, hd2 h.2.1, h.2.2⟩
theorem Qeb (line : ByteArray) (i : Nat × (List ByteArray × List Int × Int)) (m39 : Nat) (out : List ByteArray) (word : List Int) (i40 : Int) (hl : m39 < i.1) (e : runL (Kb line) m39 (out, word, i40) = Qjw line) (h : Qfm line m39 out word i40) : ∃ j : Nat × (List ByteArray × List Int × Int), Qke line out word i40 j.2.1 j.2.2.1 j.2.2.2 (Lq line j ∧ j.1 < i.1) := ⟨(m39, (out, word, i40)), rfl, rfl, Imp.refl _, Imp.refl _, ⟨e, h⟩, hl⟩
theorem en30_0 (line : ByteArray) (h : ([] : List Int).length ≤ 24 ∧ ([] : List ByteArray).length ≤ 8 ∧ (0 : Int) ≤ 0) : Qke line ([] : List ByteArray) ([] : List Int) 0 ([] : List ByteArray) ([] : List Int) 0 (Lq line (Mm line)) := ⟨rfl, rfl, Imp.refl _, Imp.refl _, rfl, Nat.lt_succ_self _, h⟩
theorem fi30 (line : ByteArray) (r : List ByteArray × Bool) (hF : r = (F30 line)) : (Imp (.l 1 eStr r.1) (.l 1 eStr ((F30 line).1))) ∧ ((.bool r.2 : Value) = .bool ((F30 line).2)) ∧ True := by cases hF; exact ⟨Imp.refl _, rfl, trivial⟩
def S30 (line : ByteArray) : Spec := ⟨[.r (.c (.v (.string line)))], .tu [.ow (.l 1 eStr ((F30 line).1)), .v (.bool ((F30 line).2))], line.size ≤ 1048576⟩
theorem ok30 (line : ByteArray) : (S30 line).ok Tryz.prog 30 :=
 Qk mixed (fn := Tryz.f30) (ct := .seq .no (.seq (.reg [(1, kh48a line)]) (.seq (.reg [(0, .dat (.l 1 eStr ([] : List ByteArray)))]) (.seq (.reg [(0, .dat (.l 1 Zd ([] : List Int)))]) (.seq (.seqk [(5, 0), (6, 0)] .no (.blk (.loop (ι := Nat × (List ByteArray × List Int × Int)) (fun i => (fun (out : List ByteArray) (word : List Int) (i40 : Int) => (⟨[(4, some (.v (.string ((cut3 line w14_).1)))), (5, some (.h 0 0)), (6, some (.h 1 0)), (7, some (.v (vI i40)))], [(0, some (.own 0 (.l 1 eStr out))), (1, some (.own 1 (.l 1 Zd word)))], 2⟩ : St)) i.2.1 i.2.2.1 i.2.2.2) (Lq line) (fun i => i.1) (Mm line) (fun i => (fun (out : List ByteArray) (word : List Int) (i40 : Int) => (.seq (.seq .no (.cond .no .no)) (.seq (.blk (.seq (.seq .no (.cond (.seq (.reg [(0, .dat (.l 1 eStr ([] : List ByteArray)))]) .no) .no)) (.seq (.seq .no (.cond (.seq (.reg [(5, .dat (.l 1 Zd (word ++ [((((cut3 line w14_).1).data.getD (Int.toNat i40) 0).toNat : Int)])))]) (.seq (.seq .no (.cond (.seq (.reg [(0, .dat (.l 1 eStr ([] : List ByteArray)))]) .no) .no)) .no)) .no)) (.seq .no (.cond (.seq (.reg [(2, .str (Yh word)), (4, .dat (.l 1 eStr (out ++ [(Yh word)])))]) (.seq (.reg [(0, .dat (.l 1 Zd ([] : List Int)))]) (.seq .no (.cond (.seq (.reg [(0, .dat (.l 1 eStr ([] : List ByteArray)))]) .no) .no)))) .no))))) (.reg [(1, .bnd)])))) i.2.1 i.2.2.1 i.2.2.2)))) (.seq .no .no)))))) Tryz.func30 (fun (hpre0 : line.size ≤ 1048576) => kc48a line (by first | omega | (simp only [lens, ib] at * <;> omega)) (by first | omega | (simp only [lens, ib] at * <;> omega)) (fun gv1 gv2 => ai (bokr 1 eStr ([] : List ByteArray) fun _ => rfl) (ai (bokr 1 Zd ([] : List Int) fun _ => rfl) (kn ([] : List ByteArray) fun _ => kn ([] : List Int) fun _ => ai (en30_0 line (by refine ⟨?_, ?_, ?_⟩ <;> first | omega | (simp only [lens, ib] at * <;> omega))) (fun (i0 : Nat × (List ByteArray × List Int × Int)) (hi0 : Lq line i0) => (fun (m0 : Nat) (out : List ByteArray) (word : List Int) (i40 : Int) (hh0 : Qlo line i0 m0 out word i40) => have hI0 := hh0.1; have hl0 := hh0.2.1; have _ := hh0.2.2.1; have _ := hh0.2.2.2; ifd (i40 ≤ (((cut3 line w14_).1).size : Int)) (fun h4 _ => ai (fun k5 : (decide (i40 < (((cut3 line w14_).1).size : Int))) = true => have _ : i40 < (((cut3 line w14_).1).size : Int) := of_decide_eq_true k5; (by first | omega | (simp only [lens, ib] at * <;> omega) : 0 ≤ i40 ∧ i40 < (((cut3 line w14_).1).size : Int))) (ai (fun k7 : (decide (((((cut3 line w14_).1).data.getD (Int.toNat i40) 0).toNat : Int) < 32)) = false => have _ : ¬ ((((cut3 line w14_).1).data.getD (Int.toNat i40) 0).toNat : Int) < 32 := of_decide_eq_false k7; (fun k6 : (decide (i40 < (((cut3 line w14_).1).size : Int))) = true => have _ : i40 < (((cut3 line w14_).1).size : Int) := of_decide_eq_true k6; (by first | omega | (simp only [lens, ib] at * <;> omega) : 0 ≤ i40 ∧ i40 < (((cut3 line w14_).1).size : Int)))) (ifb (bif decide (i40 < (((cut3 line w14_).1).size : Int)) then (bif decide (((((cut3 line w14_).1).data.getD (Int.toNat i40) 0).toNat : Int) < 32) then true else decide (((((cut3 line w14_).1).data.getD (Int.toNat i40) 0).toNat : Int) > 126)) else false) (fun h8 => have _ : i40 < (((cut3 line w14_).1).size : Int) := of_decide_eq_true (Qj h8); ai (bokr 1 eStr ([] : List ByteArray) fun _ => rfl) (fi30 line (([] : List ByteArray), false) (finR (Qz hI0 (condT h4 (condT h8 rfl))) rfl))) (fun h8 => ai (fun k9 : (decide (i40 < (((cut3 line w14_).1).size : Int))) = true => have _ : i40 < (((cut3 line w14_).1).size : Int) := of_decide_eq_true k9; (by first | omega | (simp only [lens, ib] at * <;> omega) : 0 ≤ i40 ∧ i40 < (((cut3 line w14_).1).size : Int))) (ifb (bif decide (i40 < (((cut3 line w14_).1).size : Int)) then (((((cut3 line w14_).1).data.getD (Int.toNat i40) 0).toNat : Int) != 32) else false) (fun h10 => have _ : i40 < (((cut3 line w14_).1).size : Int) := of_decide_eq_true (Qj h10); have _ : ¬ ((((cut3 line w14_).1).data.getD (Int.toNat i40) 0).toNat : Int) = 32 := bneT (Ud h10); ai (by first | omega | (simp only [lens, ib] at * <;> omega) : 0 ≤ i40 ∧ i40 < (((cut3 line w14_).1).size : Int)) (ai (AppA.mk Zd word [((((cut3 line w14_).1).data.getD (Int.toNat i40) 0).toNat : Int)] (Imp.refl (.l 1 Zd word)) rfl (by exact ai (Imp.u8 (by first | exact u8a _ | exact u8m _ | exact u8w _)) trivial) (fun _ => rfl) : AppA (.l 1 Zd word) 1 1 [.v (.int .u8 ((((cut3 line w14_).1).data.getD (Int.toNat i40) 0).toNat : Int))] (.l 1 Zd (word ++ [((((cut3 line w14_).1).data.getD (Int.toNat i40) 0).toNat : Int)]))) (ai (by (try simp only [lens]); omega : (word ++ [((((cut3 line w14_).1).data.getD (Int.toNat i40) 0).toNat : Int)]).length * 1 ≤ 140737488355328) (ifd (((word ++ [((((cut3 line w14_).1).data.getD (Int.toNat i40) 0).toNat : Int)]).length : Int) > 24) (fun h11 _ => ai (bokr 1 eStr ([] : List ByteArray) fun _ => rfl) (fi30 line (([] : List ByteArray), false) (finR (Qz hI0 (condT h4 (condF h8 (condT h10 (condT h11 rfl))))) rfl))) (fun h11 _ => ai (iok (i40 + 1) (by first | omega | (simp only [lens, ib] at * <;> omega))) (Qeb line i0 m0 out (word ++ [((((cut3 line w14_).1).data.getD (Int.toNat i40) 0).toNat : Int)]) (i40 + 1) hl0 (Qe hI0 (condT h4 (condF h8 (condT h10 (condF h11 rfl))))) (by refine ⟨?_, ?_, ?_, ?_⟩ <;> first | omega | (simp only [lens, ib] at * <;> omega)))))))) (fun h10 => ifd ((word.length : Int) > 0) (fun h12 _ => ai (ConvOK.mk Zd word (fun x => x % 256) (fun _ => rfl) : ConvOK (.l 1 Zd word) (Yh word)) (ai (appr 1 eStr out [(Yh word)] fun _ => rfl) (ai (by (try simp only [lens]); omega : (out ++ [(Yh word)]).length * 16 ≤ 140737488355328) (ai (bokr 1 Zd ([] : List Int) fun _ => rfl) (ifd (((out ++ [(Yh word)]).length : Int) > 8) (fun h13 _ => ai (bokr 1 eStr ([] : List ByteArray) fun _ => rfl) (fi30 line (([] : List ByteArray), false) (finR (Qz hI0 (condT h4 (condF h8 (condF h10 (condT h12 (condT h13 rfl)))))) rfl))) (fun h13 _ => ai (iok (i40 + 1) (by first | omega | (simp only [lens, ib] at * <;> omega))) (Qeb line i0 m0 (out ++ [(Yh word)]) ([] : List Int) (i40 + 1) hl0 (Qe hI0 (condT h4 (condF h8 (condF h10 (condT h12 (condF h13 rfl)))))) (by refine ⟨?_, ?_, ?_, ?_⟩ <;> first | omega | (simp only [lens, ib] at * <;> omega))))))))) (fun h12 _ => ai (iok (i40 + 1) (by first | omega | (simp only [lens, ib] at * <;> omega))) (Qeb line i0 m0 out word (i40 + 1) hl0 (Qe hI0 (condT h4 (condF h8 (condF h10 (condF h12 rfl))))) (by refine ⟨?_, ?_, ?_, ?_⟩ <;> first | omega | (simp only [lens, ib] at * <;> omega)))))))))) (fun h4 _ => have hD0_14 : Qjw line = Lp.done (out, word, i40) := Qn hI0 (condF h4 rfl); fi30 line (out, true) (finD hD0_14 rfl))) (i0.1 - 1) i0.2.1 i0.2.2.1 i0.2.2.2 (un30_0 line i0 hi0)))))) (by kernel_rfl)
abbrev w16_ : ByteArray := ⟨#[109, 48]⟩
abbrev w17_ : ByteArray := ⟨#[109]⟩
def Lr (k : Int) : (Int × ByteArray) → Lp (Int × ByteArray) ByteArray := fun (k400, out) =>
 bif (decide (k400 > 0)) then (.next ((k400.tdiv 10), ((Yh ([(IntKind.u8.wrap (IntKind.i64.wrap (48 + (k400.tmod 10))))] : List Int)) ++ out))) else (.done (k400, out))
def F15 (k : Int) : ByteArray :=
 bif (decide (k ≤ 0)) then (⟨#[109, 48]⟩ : ByteArray) else ((runL (Lr k) ((Int.toNat k) + 1) (k, (⟨#[]⟩ : ByteArray))).fin (fun r => r) (fun (k400, out) => ((⟨#[109]⟩ : ByteArray) ++ out)))
abbrev Mz (k : Int) : Nat × (Int × ByteArray) := (((Int.toNat k) + 1), (k, w13_))
abbrev Qfl (m39 : Nat) (k400 : Int) (out : ByteArray) : Prop := Int.toNat k400 < m39 ∧ 0 ≤ k400 ∧ (out.size : Int) + k400 ≤ 1000000000
abbrev Qnw (k : Int) : Lp (Int × ByteArray) ByteArray := LpX (Lr k) (Mz k)
abbrev Pe (k : Int) (i : Nat × (Int × ByteArray)) : Prop := LpJ (Lr k) (Mz k) i (Qfl i.1 i.2.1 i.2.2)
abbrev Qlu (k : Int) (i : Nat × (Int × ByteArray)) (m39 : Nat) (k400 : Int) (out : ByteArray) : Prop := LpH (Lr k) (Mz k) i m39 (k400, out) (Qfl (m39 + 1) k400 out)
abbrev Qls (k400 : Int) (out : ByteArray) (k400_ : Int) (out_ : ByteArray) (K39 : Prop) : Prop := ((.int .i64 k400 : Value) = .int .i64 k400_) ∧ ((.string out : Value) = .string out_) ∧ K39
theorem un15_0 (k : Int) (i : Nat × (Int × ByteArray)) (h : Pe k i) : Qlu k i (i.1 - 1) i.2.1 i.2.2 := ⟨hd1 h.1 h.2.1, hd3 h.2.1, hd2 h.2.1, h.2.2⟩
theorem bk15_0 (k : Int) (i : Nat × (Int × ByteArray)) (m39 : Nat) (k400 : Int) (out : ByteArray) (hl : m39 < i.1) (e : runL (Lr k) m39 (k400, out) = Qnw k) (h : Qfl m39 k400 out) : ∃ j : Nat × (Int × ByteArray), Qls k400 out j.2.1 j.2.2 (Pe k j ∧ j.1 < i.1) := ⟨(m39, (k400, out)), rfl, rfl, ⟨e, h⟩, hl⟩
theorem en15_0 (k : Int) (h : 0 ≤ k ∧ (w13_.size : Int) + k ≤ 1000000000) : Qls k w13_ k w13_ (Pe k (Mz k)) := ⟨rfl, rfl, rfl, Nat.lt_succ_self _, h⟩
def S15 (k : Int) : Spec := ⟨[.r (.c (.v (vI k)))], .v (.string (F15 k)), k ≤ 1000000000⟩
theorem ok15 (k : Int) : (S15 k).ok Tryz.prog 15 :=
 Qk mixed (fn := Tryz.f15) (ct := .seq .no (.seq (.seq .no (.cond (.seq .no .no) .no)) (.seq .no (.seq (.blk (.loop (ι := Nat × (Int × ByteArray)) (fun i => (fun (k400 : Int) (out : ByteArray) => (⟨[(0, some (.v (vI k400))), (3, some (.v (.string out)))], [], 0⟩ : St)) i.2.1 i.2.2) (Pe k) (fun i => i.1) (Mz k) (fun i => (fun (k400 : Int) (out : ByteArray) => (.seq (.seq .no (.cond .no .no)) (.blk (.seq (.reg [(4, .dat (.l 1 Zd ([(IntKind.u8.wrap (IntKind.i64.wrap (48 + (k400.tmod 10))))] : List Int))), (5, .str (Yh ([(IntKind.u8.wrap (IntKind.i64.wrap (48 + (k400.tmod 10))))] : List Int)))]) (.reg [(1, .bnd)]))))) i.2.1 i.2.2))) (.seq .no .no))))) Tryz.func15 (fun (hpre0 : k ≤ 1000000000) => ifd (k ≤ 0) (fun h1 _ => fiS w16_ (F15 k) (condT h1 rfl)) (fun h1 _ => ai (en15_0 k (by refine ⟨?_, ?_⟩ <;> first | omega | (simp only [lens, ib] at * <;> omega) | ((try simp only [Qc, Yu, sz0, List.length_cons, List.length_nil] at *); omega) | (have hq := Int.tdiv_eq_ediv_of_nonneg (a := k400) (b := 10) (by first | omega | (simp only [lens, ib] at * <;> omega)); (try simp only [Qc, Yu, sz0, List.length_cons, List.length_nil] at *); rw [hq]; omega))) (fun (i0 : Nat × (Int × ByteArray)) (hi0 : Pe k i0) => (fun (m0 : Nat) (k400 : Int) (out : ByteArray) (hh0 : Qlu k i0 m0 k400 out) => have hI0 := hh0.1; have hl0 := hh0.2.1; have _ := hh0.2.2.1; have _ := hh0.2.2.2; ifd (k400 > 0) (fun h3 _ => ai (by first | omega | (simp only [lens, ib] at * <;> omega) : ¬ (10 : Int) = 0) (ai (BuildOK.mk Zd ([(IntKind.u8.wrap (IntKind.i64.wrap (48 + (k400.tmod 10))))] : List Int) rfl (by exact ai (Imp.u8 (by first | exact u8a _ | exact u8m _ | exact u8w _)) trivial) (fun _ => rfl) : BuildOK 1 1 [.v (.int .u8 (IntKind.u8.wrap (IntKind.i64.wrap (48 + (k400.tmod 10)))))] (.l 1 Zd ([(IntKind.u8.wrap (IntKind.i64.wrap (48 + (k400.tmod 10))))] : List Int))) (ai (ConvOK.mk Zd ([(IntKind.u8.wrap (IntKind.i64.wrap (48 + (k400.tmod 10))))] : List Int) (fun x => x % 256) (fun _ => rfl) : ConvOK (.l 1 Zd ([(IntKind.u8.wrap (IntKind.i64.wrap (48 + (k400.tmod 10))))] : List Int)) (Yh ([(IntKind.u8.wrap (IntKind.i64.wrap (48 + (k400.tmod 10))))] : List Int))) (ai (by have hs1 : w17_.size = 1 := rfl; (try simp only [Qc, Yu, sz0, List.length_cons, List.length_nil] at *); omega : (((Yh ([(IntKind.u8.wrap (IntKind.i64.wrap (48 + (k400.tmod 10))))] : List Int)).size + out.size : Nat) : Int) ≤ 9223372036854775807) (ai (by first | omega | (simp only [lens, ib] at * <;> omega) : ¬ (10 : Int) = 0) (ai (iok (k400.tdiv 10) (by first | omega | (have hq := Int.tdiv_eq_ediv_of_nonneg (a := k400) (b := 10) (by first | omega | (simp only [lens, ib] at * <;> omega)); rw [hq]; omega))) (bk15_0 k i0 m0 (k400.tdiv 10) ((Yh ([(IntKind.u8.wrap (IntKind.i64.wrap (48 + (k400.tmod 10))))] : List Int)) ++ out) hl0 (Qe hI0 (condT h3 rfl)) (by refine ⟨?_, ?_, ?_⟩ <;> first | omega | (simp only [lens, ib] at * <;> omega) | ((try simp only [Qc, Yu, sz0, List.length_cons, List.length_nil] at *); omega) | (have hq := Int.tdiv_eq_ediv_of_nonneg (a := k400) (b := 10) (by first | omega | (simp only [lens, ib] at * <;> omega)); (try simp only [Qc, Yu, sz0, List.length_cons, List.length_nil] at *); rw [hq]; omega))))))))) (fun h3 _ => have hD0_4 : Qnw k = Lp.done (k400, out) := Qn hI0 (condF h3 rfl); ai (by have hs1 : w17_.size = 1 := rfl; (try simp only [Qc, Yu, sz0, List.length_cons, List.length_nil] at *); omega : ((w17_.size + out.size : Nat) : Int) ≤ 9223372036854775807) (fiS (w17_ ++ out) (F15 k) (condF h1 (finD hD0_4 rfl))))) (i0.1 - 1) i0.2.1 i0.2.2 (un15_0 k i0 hi0)))) (by kernel_rfl)
def Ua (l : List UInt8) : List (List UInt8) := (Qv 32 l).filter fun w => !w.isEmpty
def okB (b : UInt8) : Bool := decide (32 ≤ b.toNat ∧ b.toNat ≤ 126)
def mkB (l : List UInt8) : ByteArray := ⟨l.toArray⟩
theorem Pg (l : List UInt8) : (mkB l).data.toList = l := rfl
theorem Lz (s : ByteArray) : mkB s.data.toList = s := Wm rfl
def fitW (ws : List (List UInt8)) : Bool := decide (ws.length ≤ 8) && ws.all fun w => decide (w.length ≤ 24)
def Wd (l : List UInt8) : List ByteArray × Bool := bif l.all okB && fitW (Ua l) then ((Ua l).map mkB, true) else ([], false)
def Kh (w : List UInt8) : List Int := w.map fun b => (b.toNat : Int)
theorem Gk (w : List UInt8) : (Kh w).length = w.length := by simp [Kh]
theorem Hh (w : List UInt8) : Yh (Kh w) = mkB w := by
 refine Wm ?_
 show ((List.map (fun x => x % 256) (Kh w)).map fun n => UInt8.ofNat n.toNat) = w
 rw [List.map_map, Kh, List.map_map]
 refine (List.map_congr_left (g := id) fun b _ => ?_).trans (List.map_id w)
 have h := b.toNat_lt
 have e : ((b.toNat : Int) % 256).toNat = b.toNat := by omega
 simp only [Function.comp_apply, e, id]
 exact UInt8.ofNat_toNat
def Ba : List UInt8 → List ByteArray → List UInt8 → List ByteArray × Bool
 | [], out, w => if w = [] then (out, true) else if out.length + 1 > 8 then ([], false) else (out ++ [mkB w], true)
 | b :: l, out, w => if okB b = false then ([], false) else if b = 32 then (if w = [] then Ba l out w else if out.length + 1 > 8 then ([], false) else Ba l (out ++ [mkB w]) [])
  else if w.length + 1 > 24 then ([], false) else Ba l out (w ++ [b])
theorem Hs (c : UInt8) : ∀ (l w : List UInt8), c ∉ w → ∃ p ps, Qv c (w ++ l) = (w ++ p) :: ps
 | [], w, h => ⟨[], [], by rw [List.append_nil, Un h]⟩
 | b :: l, w, h => by
  by_cases hb : b = c
  ·subst hb
   exact ⟨[], Qv b l, by rw [Ut l h, List.append_nil]⟩
  ·obtain ⟨p, ps, e⟩ := Hs c l (w ++ [b]) (fun hm => by
    rcases List.mem_append.1 hm with h1 | h1
    ·exact h h1
    ·exact hb (List.mem_singleton.1 h1).symm)
   exact ⟨b :: p, ps, by rw [← List.singleton_append, ← List.append_assoc, e, List.append_assoc]; rfl⟩
theorem Bo : ∀ (l : List UInt8) (out : List ByteArray) (w : List UInt8), (32 : UInt8) ∉ w → w.length ≤ 24 → out.length ≤ 8 →
  Ba l out w = bif l.all okB && (decide (out.length + (Ua (w ++ l)).length ≤ 8) && (Ua (w ++ l)).all fun x => decide (x.length ≤ 24)) then (out ++ (Ua (w ++ l)).map mkB, true) else ([], false)
 | [], out, w, hw, h24, h8 => by
  have e : Ua (w ++ []) = if w = [] then [] else [w] := by
   rw [List.append_nil, Ua, Un hw]
   cases w <;> rfl
  rw [e, Ba]
  by_cases h : w = []
  ·rw [if_pos h, if_pos h]
   have e2 : decide (out.length + ([] : List (List UInt8)).length ≤ 8) = true := decide_eq_true (by simpa using h8)
   rw [e2, List.map_nil, List.append_nil]; rfl
  ·rw [if_neg h, if_neg h]
   by_cases h1 : out.length + 1 > 8
   ·rw [if_pos h1]
    have : decide (out.length + [w].length ≤ 8) = false := decide_eq_false (by simp only [List.length_cons, List.length_nil]; omega)
    rw [this]; rfl
   ·rw [if_neg h1]
    have : decide (out.length + [w].length ≤ 8) = true := decide_eq_true (by simp only [List.length_cons, List.length_nil]; omega)
    rw [this, List.all_cons, decide_eq_true h24]; rfl
 | b :: l, out, w, hw, h24, h8 => by
  rw [Ba, List.all_cons]
  cases hb : okB b with
  | false => rw [if_pos rfl]; rfl
  | true =>
   rw [if_neg (by simp), Bool.true_and]
   by_cases h32 : b = 32
   ·subst h32
    rw [if_pos rfl]
    have e : Ua (w ++ 32 :: l) = if w = [] then Ua l else w :: Ua l := by
     rw [Ua, Ut l hw, List.filter_cons]
     cases w <;> rfl
    rw [e]
    by_cases h : w = []
    ·rw [if_pos h, if_pos h, h, Bo l out [] (by simp) (by simp) h8, List.nil_append]
    ·rw [if_neg h, if_neg h]
     by_cases h1 : out.length + 1 > 8
     ·rw [if_pos h1]
      have : decide (out.length + (w :: Ua l).length ≤ 8) = false := decide_eq_false (by simp only [List.length_cons]; omega)
      rw [this, Bool.false_and, Bool.and_false]; rfl
     ·rw [if_neg h1, Bo l (out ++ [mkB w]) [] (by simp) (by simp) (by simp only [List.length_append, List.length_cons, List.length_nil]; omega), List.nil_append]
      have e1 : (out ++ [mkB w]).length + (Ua l).length = out.length + (w :: Ua l).length := by simp only [List.length_append, List.length_cons, List.length_nil]; omega
      rw [e1, List.all_cons, decide_eq_true h24, Bool.true_and, List.map_cons, List.append_assoc]
      rfl
   ·rw [if_neg h32]
    have hw' : (32 : UInt8) ∉ w ++ [b] := fun hm => by
     rcases List.mem_append.1 hm with h1 | h1
     ·exact hw h1
     ·exact h32 (List.mem_singleton.1 h1).symm
    have e2 : w ++ b :: l = (w ++ [b]) ++ l := by rw [List.append_assoc]; rfl
    by_cases h1 : w.length + 1 > 24
    ·rw [if_pos h1]
     obtain ⟨p, ps, e⟩ := Hs 32 l (w ++ [b]) hw'
     have e3 : (Ua (w ++ b :: l)).all (fun x => decide (x.length ≤ 24)) = false := by
      rw [e2, Ua, e, List.filter_cons]
      have hne : (!((w ++ [b]) ++ p).isEmpty) = true := by cases w <;> rfl
      rw [if_pos hne, List.all_cons, decide_eq_false (by simp only [List.length_append, List.length_cons, List.length_nil]; omega)]
      rfl
     rw [e3, Bool.and_false, Bool.and_false]; rfl
    ·rw [if_neg h1, Bo l out (w ++ [b]) hw' (by simp only [List.length_append, List.length_cons, List.length_nil]; omega) h8, e2]
theorem Ur {σ ρ : Type} {step : σ → Lp σ ρ} {s s' : σ} (m : Nat) (h : step s = .next s') : runL step (m + 1) s = runL step m s' := by
 rw [runL, h]
theorem Kd {σ ρ : Type} {step : σ → Lp σ ρ} {s s' : σ} (m : Nat) (h : step s = .done s') : runL step (m + 1) s = .done s' := by
 rw [runL, h]
theorem Wn {σ ρ : Type} {step : σ → Lp σ ρ} {s : σ} {r : ρ} (m : Nat) (h : step s = .ret r) : runL step (m + 1) s = .ret r := by
 rw [runL, h]
theorem Qgx {w : List UInt8} (hw : ¬ w = []) : decide ((w.length : Int) > 0) = true := by
 cases w with
 | nil => exact absurd rfl hw
 | cons a w => exact decide_eq_true (by simp only [List.length_cons]; omega)
theorem Qok (line s : ByteArray) (hs : (cut3 line (⟨#[35]⟩ : ByteArray)).1 = s) (out : List ByteArray) (w : List UInt8) : Kb line (out, Kh w, (s.size : Int)) =
  if w = [] then .next (out, Kh [], (s.size : Int) + 1) else if out.length + 1 > 8 then .ret ([], false) else .next (out ++ [mkB w], Kh [], (s.size : Int) + 1) := by
 have h0 : decide ((s.size : Int) ≤ (s.size : Int)) = true := decide_eq_true (by omega)
 have h1 : decide ((s.size : Int) < (s.size : Int)) = false := decide_eq_false (by omega)
 simp only [Kb, hs, h0, h1, cond_true, cond_false, Hh, Gk, List.length_append, List.length_cons, List.length_nil]
 by_cases hw : w = []
 ·subst hw; rfl
 ·rw [Qgx hw, if_neg hw, cond_true]
  by_cases h8 : out.length + 1 > 8
  ·have : decide (((out.length + (0 + 1) : Nat) : Int) > 8) = true := decide_eq_true (by omega)
   rw [this, if_pos h8]; rfl
  ·have : decide (((out.length + (0 + 1) : Nat) : Int) > 8) = false := decide_eq_false (by omega)
   rw [this, if_neg h8]; rfl
theorem Qar (line s : ByteArray) (hs : (cut3 line (⟨#[35]⟩ : ByteArray)).1 = s) (out : List ByteArray) (w : List Int) : Kb line (out, w, (s.size : Int) + 1) = .done (out, w, (s.size : Int) + 1) := by
 have h0 : decide ((s.size : Int) + 1 ≤ (s.size : Int)) = false := decide_eq_false (by omega)
 simp only [Kb, hs, h0, cond_false]
theorem Qnd (line s : ByteArray) (hs : (cut3 line (⟨#[35]⟩ : ByteArray)).1 = s) (out : List ByteArray) (w : List UInt8) (i : Nat) (hi : i < s.size) (b : UInt8) (hb : s.data.toList.getD i 0 = b) : Kb line (out, Kh w, (i : Int)) =
  if okB b = false then .ret ([], false) else if b = 32 then (if w = [] then .next (out, Kh [], (i : Int) + 1) else if out.length + 1 > 8 then .ret ([], false) else .next (out ++ [mkB w], Kh [], (i : Int) + 1))
  else if w.length + 1 > 24 then .ret ([], false) else .next (out, Kh (w ++ [b]), (i : Int) + 1) := by
 have h0 : decide ((i : Int) ≤ (s.size : Int)) = true := decide_eq_true (by omega)
 have h1 : decide ((i : Int) < (s.size : Int)) = true := decide_eq_true (by omega)
 simp only [Kb, hs, h0, h1, cond_true, Int.toNat_natCast, Yx, hb]
 have hok : (bif decide ((b.toNat : Int) < 32) then true else decide ((b.toNat : Int) > 126)) = !okB b := by
  unfold okB
  by_cases h3 : (b.toNat : Int) < 32
  ·rw [decide_eq_true h3, cond_true, decide_eq_false (by omega)]; rfl
  ·rw [decide_eq_false h3, cond_false]
   by_cases h4 : (b.toNat : Int) > 126
   ·rw [decide_eq_true h4, decide_eq_false (by omega)]; rfl
   ·rw [decide_eq_false h4, decide_eq_true (by omega)]; rfl
 rw [hok]
 cases okB b with
 | false => rfl
 | true =>
  have h32 := Qhx b 32
  have h33 : ((32 : UInt8).toNat : Int) = 32 := rfl
  rw [h33] at h32
  have h34 : ((b.toNat : Int) != 32) = !decide (b = 32) := by rw [bne, h32]
  rw [h34]
  simp only [Bool.not_true, cond_false, Bool.true_eq_false, if_false]
  by_cases hc : b = 32
  ·rw [decide_eq_true hc, if_pos hc]
   simp only [Bool.not_true, cond_false, Hh, Gk, List.length_append, List.length_cons, List.length_nil]
   by_cases hw : w = []
   ·subst hw; rfl
   ·rw [Qgx hw, if_neg hw, cond_true]
    by_cases h8 : out.length + 1 > 8
    ·have : decide (((out.length + (0 + 1) : Nat) : Int) > 8) = true := decide_eq_true (by omega)
     rw [this, if_pos h8]; rfl
    ·have : decide (((out.length + (0 + 1) : Nat) : Int) > 8) = false := decide_eq_false (by omega)
     rw [this, if_neg h8]; rfl
  ·rw [decide_eq_false hc, if_neg hc]
   simp only [Bool.not_false, cond_true, Gk, List.length_append, List.length_cons, List.length_nil]
   by_cases h24 : w.length + 1 > 24
   ·have : decide (((w.length + (0 + 1) : Nat) : Int) > 24) = true := decide_eq_true (by omega)
    rw [this, if_pos h24]; rfl
   ·have : decide (((w.length + (0 + 1) : Nat) : Int) > 24) = false := decide_eq_false (by omega)
    rw [this, if_neg h24, cond_false]
    have e : Kh (w ++ [b]) = Kh w ++ [(b.toNat : Int)] := by simp [Kh]
    rw [e]
theorem Vq (line s : ByteArray) (hs : (cut3 line (⟨#[35]⟩ : ByteArray)).1 = s) : ∀ (m i : Nat) (out : List ByteArray) (w : List UInt8), i + m = s.size → ∀ fuel, m + 1 < fuel →
  (runL (Kb line) fuel (out, Kh w, (i : Int))).fin (fun r => r) (fun (out, word, i40) => (out, true)) = Ba (s.data.toList.drop i) out w
 | m, i, out, w, _, 0, hf => absurd hf (Nat.not_lt_zero _)
 | 0, i, out, w, h, fuel + 1, hf => by
  have hl : s.data.toList.length = s.size := Array.length_toList
  obtain rfl : i = s.size := by omega
  obtain ⟨fuel, rfl⟩ : ∃ f, fuel = f + 1 := ⟨fuel - 1, by omega⟩
  rw [List.drop_of_length_le (by omega), Ba]
  have h1 := Qok line s hs out w
  by_cases hw : w = []
  ·rw [if_pos hw] at h1 ⊢
   rw [Ur _ h1, Kd _ (Qar line s hs _ _)]; rfl
  ·rw [if_neg hw] at h1 ⊢
   by_cases h8 : out.length + 1 > 8
   ·rw [if_pos h8] at h1 ⊢
    rw [Wn _ h1]; rfl
   ·rw [if_neg h8] at h1 ⊢
    rw [Ur _ h1, Kd _ (Qar line s hs _ _)]; rfl
 | m + 1, i, out, w, h, fuel + 1, hf => by
  have hl : s.data.toList.length = s.size := Array.length_toList
  have hb : s.data.toList.drop i = s.data.toList.getD i 0 :: s.data.toList.drop (i + 1) := by
   rw [List.drop_eq_getElem_cons (by omega), List.getD_eq_getElem?_getD, List.getElem?_eq_getElem (by omega)]; rfl
  rw [hb, Ba]
  have h1 := Qnd line s hs out w i (by omega) _ rfl
  generalize s.data.toList.getD i 0 = b at h1 ⊢
  have ei : ((i : Int) + 1) = ((i + 1 : Nat) : Int) := rfl
  rw [ei] at h1
  by_cases hok : okB b = false
  ·rw [if_pos hok] at h1 ⊢
   rw [Wn _ h1]; rfl
  ·rw [if_neg hok] at h1 ⊢
   by_cases hc : b = 32
   ·rw [if_pos hc] at h1 ⊢
    by_cases hw : w = []
    ·rw [if_pos hw] at h1 ⊢
     rw [Ur _ h1, hw]
     exact Vq line s hs m (i + 1) out [] (by omega) fuel (by omega)
    ·rw [if_neg hw] at h1 ⊢
     by_cases h8 : out.length + 1 > 8
     ·rw [if_pos h8] at h1 ⊢
      rw [Wn _ h1]; rfl
     ·rw [if_neg h8] at h1 ⊢
      rw [Ur _ h1]
      exact Vq line s hs m (i + 1) (out ++ [mkB w]) [] (by omega) fuel (by omega)
   ·rw [if_neg hc] at h1 ⊢
    by_cases h24 : w.length + 1 > 24
    ·rw [if_pos h24] at h1 ⊢
     rw [Wn _ h1]; rfl
    ·rw [if_neg h24] at h1 ⊢
     rw [Ur _ h1]
     exact Vq line s hs m (i + 1) out (w ++ [b]) (by omega) fuel (by omega)
theorem Mg (line : ByteArray) : F30 line = Wd (cut3 line (⟨#[35]⟩ : ByteArray)).1.data.toList := by
 unfold F30
 have := Vq line _ rfl (cut3 line (⟨#[35]⟩ : ByteArray)).1.size 0 [] [] (by omega) (Int.toNat (((cut3 line (⟨#[35]⟩ : ByteArray)).1.size : Int) - 0 + 1) + 1) (by omega)
 rw [List.drop_zero, Bo _ _ _ (by simp) (by simp) (by simp), List.nil_append, List.nil_append, List.length_nil, Nat.zero_add] at this
 exact this
theorem Qao (b : UInt8) : IntKind.i64.wrap ((b.toNat : Int)) = (b.toNat : Int) := by
 have h := b.toNat_lt
 exact Ww (by omega) (by omega)
theorem Rl (line s : ByteArray) (hs : (cut3 line (⟨#[35]⟩ : ByteArray)).1 = s) {τ : Type} (f : List ByteArray × Bool → τ) (g : Int → τ) (y : τ) (hg : ∀ i, g i = y) : ∀ (m i : Nat), i + m = s.size → ∀ fuel, m < fuel →
  (runL (Wl line) fuel (i : Int)).fin f g = bif (s.data.toList.drop i).all okB then y else f ([], false)
 | m, i, _, 0, hf => absurd hf (Nat.not_lt_zero _)
 | 0, i, h, fuel + 1, hf => by
  have hl : s.data.toList.length = s.size := Array.length_toList
  have h1 : decide ((i : Int) < (s.size : Int)) = false := decide_eq_false (by omega)
  have hst : Wl line (i : Int) = .done (i : Int) := by
   simp only [Wl, F64, hs, h1, cond_false]
  rw [List.drop_of_length_le (by omega), Kd _ hst]
  exact hg _
 | m + 1, i, h, fuel + 1, hf => by
  have hl : s.data.toList.length = s.size := Array.length_toList
  have h1 : decide ((i : Int) < (s.size : Int)) = true := decide_eq_true (by omega)
  have hb : s.data.toList.drop i = s.data.toList.getD i 0 :: s.data.toList.drop (i + 1) := by
   rw [List.drop_eq_getElem_cons (by omega), List.getD_eq_getElem?_getD, List.getElem?_eq_getElem (by omega)]; rfl
  have hst : Wl line (i : Int) = if okB (s.data.toList.getD i 0) = false then .ret ([], false) else .next ((i + 1 : Nat) : Int) := by
   simp only [Wl, F64, hs, h1, cond_true, Int.toNat_natCast, Yx, Qao]
   generalize s.data.toList.getD i 0 = b
   have e : decide ((32 : Int) ≤ (b.toNat : Int) ∧ (b.toNat : Int) ≤ 126) = okB b := by
    unfold okB
    congr 1
    exact propext ⟨fun h => by omega, fun h => by omega⟩
   rw [e]
   cases okB b <;> rfl
  rw [hb, List.all_cons]
  generalize s.data.toList.getD i 0 = b at hst ⊢
  by_cases hok : okB b = false
  ·rw [if_pos hok] at hst
   rw [Wn _ hst, hok]; rfl
  ·rw [if_neg hok] at hst
   rw [Ur _ hst, Rl line s hs f g y hg m (i + 1) (by omega) fuel (by omega)]
   cases ho : okB b with
   | false => exact absurd ho hok
   | true => rw [Bool.true_and]
theorem isE (x : ByteArray) : (x.toList == (⟨#[]⟩ : ByteArray).toList) = x.data.toList.isEmpty := by
 rw [Ub, Ub]
 cases x.data.toList <;> rfl
theorem Eo (s : ByteArray) : (Qu s (⟨#[32]⟩ : ByteArray)).filter (fun x => !(x.toList == (⟨#[]⟩ : ByteArray).toList)) = (Ua s.data.toList).map mkB := by
 rw [Ua, ← Pf, List.filter_map, List.map_map]
 have e : (fun x : ByteArray => !(x.toList == (⟨#[]⟩ : ByteArray).toList)) = ((fun w : List UInt8 => !w.isEmpty) ∘ fun x : ByteArray => x.data.toList) := by
  funext x
  rw [isE]; rfl
 rw [e]
 exact ((List.map_congr_left fun x _ => Lz x).trans (List.map_id _)).symm
theorem Qcl : ∀ ws : List (List UInt8), ws.any ((fun x : ByteArray => decide ((x.size : Int) > 24)) ∘ mkB) = !ws.all fun w => decide (w.length ≤ 24)
 | [] => rfl
 | w :: ws => by
  rw [List.any_cons, List.all_cons, Qcl ws, Bool.not_and]
  congr 1
  have : (mkB w).size = w.length := rfl
  show decide (((mkB w).size : Int) > 24) = _
  rw [this]
  by_cases h : w.length ≤ 24
  ·rw [decide_eq_true h, decide_eq_false (by omega)]; rfl
  ·rw [decide_eq_false h, decide_eq_true (by omega)]; rfl
theorem Xi (line : ByteArray) : F49 line = Wd (cut3 line (⟨#[35]⟩ : ByteArray)).1.data.toList := by
 generalize hs : (cut3 line (⟨#[35]⟩ : ByteArray)).1 = s
 unfold F49
 have h1 := Rl line s hs (fun r => r) (fun _ => bif (bif decide ((((Ua s.data.toList).map mkB).length : Int) > 8) then true else ((Ua s.data.toList).map mkB).any fun x => decide ((x.size : Int) > 24)) then (([] : List ByteArray), false) else ((Ua s.data.toList).map mkB, true)) _ (fun _ => rfl) s.size 0 (by omega) (Int.toNat ((s.size : Int) - 0) + 1) (by omega)
 have hf : (Qu s (⟨#[32]⟩ : ByteArray)).filter (fun x => !F67 x) = (Ua s.data.toList).map mkB := Eo s
 simp only [F64, F33, hs, hf]
 refine h1.trans ?_
 rw [List.drop_zero, Wd, fitW, List.length_map, List.any_map]
 have e1 : decide (((Ua s.data.toList).length : Int) > 8) = !decide ((Ua s.data.toList).length ≤ 8) := by
  by_cases h : (Ua s.data.toList).length ≤ 8
  ·rw [decide_eq_true h, decide_eq_false (by omega)]; rfl
  ·rw [decide_eq_false h, decide_eq_true (by omega)]; rfl
 rw [e1, Qcl]
 cases (s.data.toList.all okB) <;> cases decide ((Ua s.data.toList).length ≤ 8) <;> cases ((Ua s.data.toList).all fun w => decide (w.length ≤ 24)) <;> rfl
theorem Xa (line : ByteArray) : F49 line = F30 line := (Xi line).trans (Mg line).symm
theorem Qaw (l : List UInt8) : (Wd l).1.length ≤ 8 := by
 unfold Wd fitW
 by_cases h : (Ua l).length ≤ 8
 ·cases l.all okB <;> cases ((Ua l).all fun w => decide (w.length ≤ 24)) <;> simp [h]
 ·rw [decide_eq_false h, Bool.false_and, Bool.and_false]
  exact Nat.zero_le _
theorem Tv (line : ByteArray) : (F49 line).1.length ≤ 8 := by
 rw [Xi]; exact Qaw _
def Yo (s : ByteArray) (at' : Int) : (List ByteArray × Int × Int) → Lp (List ByteArray × Int × Int) (List ByteArray) := fun (out1, from'1, i40) =>
 bif (decide (i40 < (s.size : Int))) then (bif (((s.data.getD (Int.toNat i40) 0).toNat : Int) == (at' % 256)) then (.next ((out1 ++ [(s.extract (Int.toNat from'1) (Int.toNat i40))]), (i40 + 1), (i40 + 1))) else (.next (out1, from'1, (i40 + 1)))) else (.done (out1, from'1, i40))
def Xx (s : ByteArray) (at' : Int) : Lp (List ByteArray × Int) (List ByteArray) :=
 (runL (Yo s at') ((Int.toNat ((s.size : Int) - 0)) + 1) (([] : List ByteArray), 0, 0)).fin Lp.ret (fun (out1, from'1, i40) => .done (out1, from'1))
def F103 (s : ByteArray) (at' : Int) : List ByteArray :=
 (Xx s at').fin (fun r => r) (fun (out, from') => (out ++ [(s.extract (Int.toNat from') (Int.toNat (s.size : Int)))]))
abbrev Bq (s : ByteArray) : Nat × (List ByteArray × Int × Int) := (((Int.toNat ((s.size : Int) - 0)) + 1), (([] : List ByteArray), 0, 0))
abbrev Qan (s : ByteArray) (m39 : Nat) (out1 : List ByteArray) (from'1 : Int) (i40 : Int) : Prop := Int.toNat ((s.size : Int) - i40) < m39 ∧ (0 : Int) ≤ from'1 ∧ (from'1 : Int) ≤ i40 ∧ (out1.length : Int) ≤ i40 ∧ i40 ≤ (s.size : Int) ∧ (0 : Int) ≤ from'1 ∧ (0 : Int) ≤ i40
abbrev Qhb (s : ByteArray) (at' : Int) : Lp (List ByteArray × Int × Int) (List ByteArray) := LpX (Yo s at') (Bq s)
abbrev Bs (s : ByteArray) (at' : Int) (i : Nat × (List ByteArray × Int × Int)) : Prop := LpJ (Yo s at') (Bq s) i (Qan s i.1 i.2.1 i.2.2.1 i.2.2.2)
abbrev Qgj (s : ByteArray) (at' : Int) (i : Nat × (List ByteArray × Int × Int)) (m39 : Nat) (out1 : List ByteArray) (from'1 : Int) (i40 : Int) : Prop := LpH (Yo s at') (Bq s) i m39 (out1, from'1, i40) (Qan s (m39 + 1) out1 from'1 i40)
abbrev Qia (s : ByteArray) (at' : Int) (out1 : List ByteArray) (from'1 : Int) (i40 : Int) (out1_ : List ByteArray) (from'1_ : Int) (i40_ : Int) (K39 : Prop) : Prop := (Rf (.string s)) ∧ (Rf (.int .u8 (at' % 256))) ∧ ((.int .i64 from'1 : Value) = .int .i64 from'1_) ∧ ((.int .i64 i40 : Value) = .int .i64 i40_) ∧ (Imp (.l 1 eStr out1) (.l 1 eStr out1_)) ∧ K39
theorem Qqd (s : ByteArray) (at' : Int) (i : Nat × (List ByteArray × Int × Int)) (h : Bs s at' i) : Qgj s at' i (i.1 - 1) i.2.1 i.2.2.1 i.2.2.2 := ⟨hd1 h.1 h.2.1, hd3 h.2.1, hd2 h.2.1, h.2.2⟩
theorem Qhm (s : ByteArray) (at' : Int) (i : Nat × (List ByteArray × Int × Int)) (m39 : Nat) (out1 : List ByteArray) (from'1 : Int) (i40 : Int) (hl : m39 < i.1) (e : runL (Yo s at') m39 (out1, from'1, i40) = Qhb s at') (h : Qan s m39 out1 from'1 i40) : ∃ j : Nat × (List ByteArray × Int × Int), Qia s at' out1 from'1 i40 j.2.1 j.2.2.1 j.2.2.2 (Bs s at' j ∧ j.1 < i.1) := ⟨(m39, (out1, from'1, i40)), rfl, rfl, rfl, rfl, Imp.refl _, ⟨e, h⟩, hl⟩
theorem Qrt (s : ByteArray) (at' : Int) (h : (0 : Int) ≤ 0 ∧ (0 : Int) ≤ 0 ∧ (([] : List ByteArray).length : Int) ≤ 0 ∧ 0 ≤ (s.size : Int) ∧ (0 : Int) ≤ 0 ∧ (0 : Int) ≤ 0) : Qia s at' ([] : List ByteArray) 0 0 ([] : List ByteArray) 0 0 (Bs s at' (Bq s)) := ⟨rfl, rfl, rfl, rfl, Imp.refl _, rfl, Nat.lt_succ_self _, h⟩
abbrev Qab (s : ByteArray) (at' : Int) (out : List ByteArray) (from' : Int) : Prop := (0 : Int) ≤ from' ∧ from' ≤ (s.size : Int) ∧ (out.length : Int) ≤ (s.size : Int)
abbrev Qap (s : ByteArray) (at' : Int) (j : List ByteArray × Int) : Prop := (Xx s at') = Lp.done j ∧ Qab s at' j.1 j.2
theorem Qqa (s : ByteArray) (at' : Int) (out : List ByteArray) (from' : Int) (e : (Xx s at') = Lp.done (out, from')) (h : Qab s at' out from') : ∃ j : List ByteArray × Int, ((.string s : Value) = .string s) ∧ ((.int .i64 from' : Value) = .int .i64 j.2) ∧ (Imp (.l 1 eStr out) (.l 1 eStr j.1)) ∧ Qap s at' j := ⟨(out, from'), rfl, rfl, Imp.refl _, e, h⟩
theorem fi103 (s : ByteArray) (at' : Int) (r : List ByteArray) (hF : r = (F103 s at')) : (Imp (.l 1 eStr r) (.l 1 eStr (F103 s at'))) ∧ True := by cases hF; exact ⟨Imp.refl _, trivial⟩
def S103 (s : ByteArray) (at' : Int) : Spec := ⟨[.r (.c (.v (.string s))), .r (.c (.v (.int .u8 (at' % 256))))], .ow (.l 1 eStr (F103 s at')), s.size ≤ 1048576⟩
theorem ok103 (s : ByteArray) (at' : Int) : (S103 s at').ok Tryz.prog 103 :=
 Qk mixed (fn := Tryz.f103) (ct := .seq .no (.seq (.reg [(0, .dat (.l 1 eStr ([] : List ByteArray)))]) (.seq .no (.cut (ι := List ByteArray × Int) (fun j => (fun (out : List ByteArray) (from' : Int) => (⟨[(0, some (.v (.string s))), (5, some (.h 0 0)), (6, some (.v (vI from')))], [(0, some (.own 0 (.l 1 eStr out)))], 1⟩ : St)) j.1 j.2) (Qap s at') (.seqk [(5, 0)] .no (.blk (.loop (ι := Nat × (List ByteArray × Int × Int)) (fun i => (fun (out1 : List ByteArray) (from'1 : Int) (i40 : Int) => (⟨[(0, some (.v (.string s))), (1, some (.v (.int .u8 (at' % 256)))), (5, some (.h 0 0)), (6, some (.v (vI from'1))), (7, some (.v (vI i40)))], [(0, some (.own 0 (.l 1 eStr out1)))], 1⟩ : St)) i.2.1 i.2.2.1 i.2.2.2) (Bs s at') (fun i => i.1) (Bq s) (fun i => (fun (out1 : List ByteArray) (from'1 : Int) (i40 : Int) => (.seq (.seq .no (.cond .no .no)) (.seq (.blk (.seq .no (.cond (.seq (.reg [(6, .dat (.l 1 eStr (out1 ++ [(s.extract (Int.toNat from'1) (Int.toNat i40))])))]) (.reg [(1, .bnd)])) .no))) (.reg [(1, .bnd)])))) i.2.1 i.2.2.1 i.2.2.2)))) (fun j => (fun (out : List ByteArray) (from' : Int) => (.seq (.reg [(5, .dat (.l 1 eStr (out ++ [(s.extract (Int.toNat from') (Int.toNat (s.size : Int)))])))]) .no)) j.1 j.2))))) Tryz.func103 (fun (hpre0 : s.size ≤ 1048576) => ai (bokr 1 eStr ([] : List ByteArray) fun _ => rfl) (ai (kn ([] : List ByteArray) fun _ => ai (Qrt s at' (by refine ⟨?_, ?_, ?_, ?_, ?_, ?_⟩ <;> first | omega | (simp only [lens, ib] at * <;> omega))) (fun (i0 : Nat × (List ByteArray × Int × Int)) (hi0 : Bs s at' i0) => (fun (m0 : Nat) (out1 : List ByteArray) (from'1 : Int) (i40 : Int) (hh0 : Qgj s at' i0 m0 out1 from'1 i40) => have hI0 := hh0.1; have hl0 := hh0.2.1; have _ := hh0.2.2.1; have _ := hh0.2.2.2; ifd (i40 < (s.size : Int)) (fun h2 _ => ai (by first | omega | (simp only [lens, ib] at * <;> omega) : 0 ≤ i40 ∧ i40 < (s.size : Int)) (ife ((s.data.getD (Int.toNat i40) 0).toNat : Int) (at' % 256) (fun h3 _ => ai (by first | omega | (simp only [lens, ib] at * <;> omega) : 0 ≤ from'1 ∧ from'1 ≤ i40 ∧ i40 ≤ (s.size : Int)) (ai (appr 1 eStr out1 [(s.extract (Int.toNat from'1) (Int.toNat i40))] fun _ => rfl) (ai (by (try simp only [lens]); omega : (out1 ++ [(s.extract (Int.toNat from'1) (Int.toNat i40))]).length * 16 ≤ 140737488355328) (ai (iok (i40 + 1) (by first | omega | (simp only [lens, ib] at * <;> omega))) (ai (iok (i40 + 1) (by first | omega | (simp only [lens, ib] at * <;> omega))) (Qhm s at' i0 m0 (out1 ++ [(s.extract (Int.toNat from'1) (Int.toNat i40))]) (i40 + 1) (i40 + 1) hl0 (Qe hI0 (condT h2 (condT h3 rfl))) (by refine ⟨?_, ?_, ?_, ?_, ?_, ?_, ?_⟩ <;> first | omega | (simp only [lens, ib] at * <;> omega)))))))) (fun h3 _ => ai (iok (i40 + 1) (by first | omega | (simp only [lens, ib] at * <;> omega))) (Qhm s at' i0 m0 out1 from'1 (i40 + 1) hl0 (Qe hI0 (condT h2 (condF h3 rfl))) (by refine ⟨?_, ?_, ?_, ?_, ?_, ?_, ?_⟩ <;> first | omega | (simp only [lens, ib] at * <;> omega)))))) (fun h2 _ => have hD0_4 : Qhb s at' = Lp.done (out1, from'1, i40) := Qn hI0 (condF h2 rfl); Qqa s at' out1 from'1 (Eq.symm (finD hD0_4 rfl)) (by refine ⟨?_, ?_, ?_⟩ <;> first | omega | (simp only [lens, ib] at * <;> omega)))) (i0.1 - 1) i0.2.1 i0.2.2.1 i0.2.2.2 (Qqd s at' i0 hi0))) (fun (j : List ByteArray × Int) (hj : Qap s at' j) => (fun (out : List ByteArray) (from' : Int) (hJ0_5 : (Xx s at') = Lp.done (out, from')) (hw : Qab s at' out from') => have _ := hw.1; have _ := hw.2.1; have _ := hw.2.2; ai (by first | omega | (simp only [lens, ib] at * <;> omega) : 0 ≤ from' ∧ from' ≤ (s.size : Int) ∧ (s.size : Int) ≤ (s.size : Int)) (ai (appr 1 eStr out [(s.extract (Int.toNat from') (Int.toNat (s.size : Int)))] fun _ => rfl) (ai (by (try simp only [lens]); omega : (out ++ [(s.extract (Int.toNat from') (Int.toNat (s.size : Int)))]).length * 16 ≤ 140737488355328) (fi103 s at' (out ++ [(s.extract (Int.toNat from') (Int.toNat (s.size : Int)))]) (finD hJ0_5 rfl))))) j.1 j.2 hj.1 hj.2))) (by kernel_rfl)
def F102 (n : Int) (low : Int) (high : Int) : Bool :=
 (bif decide (n ≥ low) then decide (n ≤ high) else false)
def S102 (R : Bool) (n : Int) (low : Int) (high : Int) : Spec := ⟨[.r (.c (.v (vI n))), .r (.c (.v (vI low))), .r (.c (.v (vI high)))], .v (.bool R), True⟩
theorem ok102 (n : Int) (low : Int) (high : Int) : (S102 (F102 n low high) n low high).ok Tryz.prog 102 :=
 Qk mixed (fn := Tryz.f102) (ct := .seq .no (.seq .no .no)) Tryz.func102 (fun (_ : True) => fiB (bif decide (n ≥ low) then decide (n ≤ high) else false) (F102 n low high) rfl) (by kernel_rfl)
theorem as102 (n : Int) (low : Int) (high : Int) : F102 n low high = (decide (low ≤ n ∧ n ≤ high)) := by
 simp only [F102, Bool.decide_and, bandd]
theorem oa102 (n : Int) (low : Int) (high : Int) : (S102 (decide (low ≤ n ∧ n ≤ high)) n low high).ok Tryz.prog 102 := by
 intro hp; have h := ok102 n low high hp; rw [as102 n low high] at h; exact h
theorem Ms (n : Int) (low : Int) (high : Int) {K_ : Prop} (k_ : K_) : (True) ∧ (Imp (.v (vI n)) (.v (vI n))) ∧ (Imp (.v (vI low)) (.v (vI low))) ∧ (Imp (.v (vI high)) (.v (vI high))) ∧ K_ := ⟨trivial, Imp.refl _, Imp.refl _, Imp.refl _, k_⟩
abbrev Gg (n : Int) (low : Int) (high : Int) : Hint true Tryz.prog := .call 102 (S102 (decide (low ≤ n ∧ n ≤ high)) n low high) (oa102 n low high) none
theorem kg102a {K_ : Prop} (c_ b_ : Bool) (n : Int) (low : Int) (high : Int) (k_ : K_) : (c_ = b_ → True) ∧ (c_ = b_ → Imp (.v (vI n)) (.v (vI n))) ∧ (c_ = b_ → Imp (.v (vI low)) (.v (vI low))) ∧ (c_ = b_ → Imp (.v (vI high)) (.v (vI high))) ∧ K_ := ⟨fun _ => trivial, fun _ => Imp.refl _, fun _ => Imp.refl _, fun _ => Imp.refl _, k_⟩
def Jx (s : ByteArray) : Int → Lp Int Bool := fun i40 =>
 bif (decide (i40 < (s.size : Int))) then (bif (bif (bif (!(decide (97 ≤ (IntKind.i64.wrap ((s.data.getD (Int.toNat i40) 0).toNat : Int)) ∧ (IntKind.i64.wrap ((s.data.getD (Int.toNat i40) 0).toNat : Int)) ≤ 122))) then (!(decide (48 ≤ (IntKind.i64.wrap ((s.data.getD (Int.toNat i40) 0).toNat : Int)) ∧ (IntKind.i64.wrap ((s.data.getD (Int.toNat i40) 0).toNat : Int)) ≤ 57))) else false) then (((s.data.getD (Int.toNat i40) 0).toNat : Int) != 45) else false) then (.ret false) else (.next (i40 + 1))) else (.done i40)
def F83 (s : ByteArray) : Bool :=
 bif (!(decide (1 ≤ (s.size : Int) ∧ (s.size : Int) ≤ 8))) then false else ((runL (Jx s) ((Int.toNat ((s.size : Int) - 0)) + 1) 0).fin (fun r => r) (fun i40 => true))
abbrev Nx (s : ByteArray) : Nat × Int := (((Int.toNat ((s.size : Int) - 0)) + 1), 0)
abbrev Qem (s : ByteArray) (m39 : Nat) (i40 : Int) : Prop := Int.toNat ((s.size : Int) - i40) < m39 ∧ (0 : Int) ≤ i40
abbrev Qpk (s : ByteArray) : Lp Int Bool := LpX (Jx s) (Nx s)
abbrev Mj (s : ByteArray) (i : Nat × Int) : Prop := LpJ (Jx s) (Nx s) i (Qem s i.1 i.2)
abbrev Qkf (s : ByteArray) (i : Nat × Int) (m39 : Nat) (i40 : Int) : Prop := LpH (Jx s) (Nx s) i m39 i40 (Qem s (m39 + 1) i40)
abbrev Qkj (s : ByteArray) (i40 : Int) (i40_ : Int) (K39 : Prop) : Prop := (Rf (.string s)) ∧ ((.int .i64 i40 : Value) = .int .i64 i40_) ∧ K39
theorem un83_0 (s : ByteArray) (i : Nat × Int) (h : Mj s i) : Qkf s i (i.1 - 1) i.2 := ⟨hd1 h.1 h.2.1, hd3 h.2.1, hd2 h.2.1, h.2.2⟩
theorem bk83_0 (s : ByteArray) (i : Nat × Int) (m39 : Nat) (i40 : Int) (hl : m39 < i.1) (e : runL (Jx s) m39 i40 = Qpk s) (h : Qem s m39 i40) : ∃ j : Nat × Int, Qkj s i40 j.2 (Mj s j ∧ j.1 < i.1) := ⟨(m39, i40), rfl, rfl, ⟨e, h⟩, hl⟩
theorem en83_0 (s : ByteArray) (h : (0 : Int) ≤ 0) : Qkj s 0 0 (Mj s (Nx s)) := ⟨rfl, rfl, rfl, Nat.lt_succ_self _, h⟩
def S83 (s : ByteArray) : Spec := ⟨[.r (.c (.v (.string s)))], .v (.bool (F83 s)), s.size ≤ 1048576⟩
theorem ok83 (s : ByteArray) : (S83 s).ok Tryz.prog 83 :=
 Qk mixed (fn := Tryz.f83) (ct := .seq .no (.seq (.seq (.reg [(2, Gg (s.size : Int) 1 8)]) (.cond (.seq .no .no) .no)) (.seq (.seq .no (.blk (.loop (ι := Nat × Int) (fun i => (fun (i40 : Int) => (⟨[(0, some (.v (.string s))), (3, some (.v (vI i40)))], [], 0⟩ : St)) i.2) (Mj s) (fun i => i.1) (Nx s) (fun i => (fun (i40 : Int) => (.seq (.seq .no (.cond .no .no)) (.seq (.blk (.seq (.reg [(4, Gg (IntKind.i64.wrap ((s.data.getD (Int.toNat i40) 0).toNat : Int)) 97 122), (11, Gg (IntKind.i64.wrap ((s.data.getD (Int.toNat i40) 0).toNat : Int)) 48 57)]) (.cond (.seq .no .no) .no))) (.reg [(1, .bnd)])))) i.2)))) (.seq .no .no)))) Tryz.func83 (fun (hpre0 : s.size ≤ 1048576) => Ms (s.size : Int) 1 8 (ifb (!(decide (1 ≤ (s.size : Int) ∧ (s.size : Int) ≤ 8))) (fun h1 => have _ := of_decide_eq_false (Zx h1); fiB false (F83 s) (condT h1 rfl)) (fun h1 => have _ := of_decide_eq_true (Uq h1); ai (en83_0 s (by omega)) (fun (i0 : Nat × Int) (hi0 : Mj s i0) => (fun (m0 : Nat) (i40 : Int) (hh0 : Qkf s i0 m0 i40) => have hI0 := hh0.1; have hl0 := hh0.2.1; have _ := hh0.2.2.1; have _ := hh0.2.2.2; ifd (i40 < (s.size : Int)) (fun h3 _ => ai (by omega : 0 ≤ i40 ∧ i40 < (s.size : Int)) (Ms (IntKind.i64.wrap ((s.data.getD (Int.toNat i40) 0).toNat : Int)) 97 122 (ai (fun k4 : (!(decide (97 ≤ (IntKind.i64.wrap ((s.data.getD (Int.toNat i40) 0).toNat : Int)) ∧ (IntKind.i64.wrap ((s.data.getD (Int.toNat i40) 0).toNat : Int)) ≤ 122))) = true => have _ := of_decide_eq_false (Zx k4); (by omega : 0 ≤ i40 ∧ i40 < (s.size : Int))) (kg102a (!(decide (97 ≤ (IntKind.i64.wrap ((s.data.getD (Int.toNat i40) 0).toNat : Int)) ∧ (IntKind.i64.wrap ((s.data.getD (Int.toNat i40) 0).toNat : Int)) ≤ 122))) true (IntKind.i64.wrap ((s.data.getD (Int.toNat i40) 0).toNat : Int)) 48 57 (ai (fun k6 : (bif (!(decide (97 ≤ (IntKind.i64.wrap ((s.data.getD (Int.toNat i40) 0).toNat : Int)) ∧ (IntKind.i64.wrap ((s.data.getD (Int.toNat i40) 0).toNat : Int)) ≤ 122))) then (!(decide (48 ≤ (IntKind.i64.wrap ((s.data.getD (Int.toNat i40) 0).toNat : Int)) ∧ (IntKind.i64.wrap ((s.data.getD (Int.toNat i40) 0).toNat : Int)) ≤ 57))) else false) = true => have _ := of_decide_eq_false (Zx (Qj k6)); have _ := of_decide_eq_false (Zx (Ud k6)); (by omega : 0 ≤ i40 ∧ i40 < (s.size : Int))) (ifb (bif (bif (!(decide (97 ≤ (IntKind.i64.wrap ((s.data.getD (Int.toNat i40) 0).toNat : Int)) ∧ (IntKind.i64.wrap ((s.data.getD (Int.toNat i40) 0).toNat : Int)) ≤ 122))) then (!(decide (48 ≤ (IntKind.i64.wrap ((s.data.getD (Int.toNat i40) 0).toNat : Int)) ∧ (IntKind.i64.wrap ((s.data.getD (Int.toNat i40) 0).toNat : Int)) ≤ 57))) else false) then (((s.data.getD (Int.toNat i40) 0).toNat : Int) != 45) else false) (fun h7 => have _ := of_decide_eq_false (Zx (Qj (Qj h7))); have _ := of_decide_eq_false (Zx (Ud (Qj h7))); have _ := bneT (Ud h7); fiB false (F83 s) (condF h1 (finR (Qz hI0 (condT h3 (condT h7 rfl))) rfl))) (fun h7 => ai (iok (i40 + 1) (by omega)) (bk83_0 s i0 m0 (i40 + 1) hl0 (Qe hI0 (condT h3 (condF h7 rfl))) (by refine ⟨?_, ?_⟩ <;> omega))))))))) (fun h3 _ => have hD0_8 : Qpk s = Lp.done i40 := Qn hI0 (condF h3 rfl); fiB true (F83 s) (condF h1 (finD hD0_8 rfl)))) (i0.1 - 1) i0.2 (un83_0 s i0 hi0))))) (by kernel_rfl)
def Zq (s : ByteArray) : (Int × Int) → Lp (Int × Int) Int := fun (n, i40) =>
 bif (decide (i40 < (s.size : Int))) then (bif (!(decide (48 ≤ (IntKind.i64.wrap ((s.data.getD (Int.toNat i40) 0).toNat : Int)) ∧ (IntKind.i64.wrap ((s.data.getD (Int.toNat i40) 0).toNat : Int)) ≤ 57))) then (.ret (-1)) else (.next ((IntKind.i64.wrap ((IntKind.i64.wrap (n * 10)) + (IntKind.i64.wrap (IntKind.u8.wrap (((s.data.getD (Int.toNat i40) 0).toNat : Int) - 48))))), (i40 + 1)))) else (.done (n, i40))
def F105 (s : ByteArray) : Int :=
 bif (bif (!(decide (1 ≤ (s.size : Int) ∧ (s.size : Int) ≤ 6))) then true else (bif decide ((s.size : Int) > 1) then (((s.data.getD (Int.toNat 0) 0).toNat : Int) == 48) else false)) then (-1) else ((runL (Zq s) ((Int.toNat ((s.size : Int) - 0)) + 1) (0, 0)).fin (fun r => r) (fun (n, i40) => n))
abbrev Bt (s : ByteArray) : Nat × (Int × Int) := (((Int.toNat ((s.size : Int) - 0)) + 1), (0, 0))
abbrev Ep (s : ByteArray) (m39 : Nat) (n : Int) (i40 : Int) : Prop := Int.toNat ((s.size : Int) - i40) < m39 ∧ (0 : Int) ≤ i40
abbrev Qgm (s : ByteArray) : Lp (Int × Int) Int := LpX (Zq s) (Bt s)
abbrev By (s : ByteArray) (i : Nat × (Int × Int)) : Prop := LpJ (Zq s) (Bt s) i (Ep s i.1 i.2.1 i.2.2)
abbrev Qhs (s : ByteArray) (i : Nat × (Int × Int)) (m39 : Nat) (n : Int) (i40 : Int) : Prop := LpH (Zq s) (Bt s) i m39 (n, i40) (Ep s (m39 + 1) n i40)
abbrev Qhq (s : ByteArray) (n : Int) (i40 : Int) (n_ : Int) (i40_ : Int) (K39 : Prop) : Prop := (Rf (.string s)) ∧ ((.int .i64 n : Value) = .int .i64 n_) ∧ ((.int .i64 i40 : Value) = .int .i64 i40_) ∧ K39
theorem Qqx (s : ByteArray) (i : Nat × (Int × Int)) (h : By s i) : Qhs s i (i.1 - 1) i.2.1 i.2.2 := ⟨hd1 h.1 h.2.1, hd3 h.2.1, hd2 h.2.1, h.2.2⟩
theorem Qro (s : ByteArray) (i : Nat × (Int × Int)) (m39 : Nat) (n : Int) (i40 : Int) (hl : m39 < i.1) (e : runL (Zq s) m39 (n, i40) = Qgm s) (h : Ep s m39 n i40) : ∃ j : Nat × (Int × Int), Qhq s n i40 j.2.1 j.2.2 (By s j ∧ j.1 < i.1) := ⟨(m39, (n, i40)), rfl, rfl, rfl, ⟨e, h⟩, hl⟩
theorem Qqp (s : ByteArray) (h : (0 : Int) ≤ 0) : Qhq s 0 0 0 0 (By s (Bt s)) := ⟨rfl, rfl, rfl, rfl, Nat.lt_succ_self _, h⟩
def S105 (s : ByteArray) : Spec := ⟨[.r (.c (.v (.string s)))], .v (vI (F105 s)), s.size ≤ 1048576⟩
theorem ok105 (s : ByteArray) : (S105 s).ok Tryz.prog 105 :=
 Qk mixed (fn := Tryz.f105) (ct := .seq .no (.seq (.seq (.reg [(2, Gg (s.size : Int) 1 6)]) (.cond (.seq .no .no) .no)) (.seq .no (.seq (.seq .no (.blk (.loop (ι := Nat × (Int × Int)) (fun i => (fun (n : Int) (i40 : Int) => (⟨[(0, some (.v (.string s))), (3, some (.v (vI n))), (4, some (.v (vI i40)))], [], 0⟩ : St)) i.2.1 i.2.2) (By s) (fun i => i.1) (Bt s) (fun i => (fun (n : Int) (i40 : Int) => (.seq (.seq .no (.cond .no .no)) (.seq (.blk (.seq (.seq (.reg [(4, Gg (IntKind.i64.wrap ((s.data.getD (Int.toNat i40) 0).toNat : Int)) 48 57)]) (.cond (.seq .no .no) .no)) .no)) (.reg [(1, .bnd)])))) i.2.1 i.2.2)))) (.seq .no .no))))) Tryz.func105 (fun (hpre0 : s.size ≤ 1048576) => Ms (s.size : Int) 1 6 (ai (fun k2 : (decide ((s.size : Int) > 1)) = true => have _ := of_decide_eq_true k2; (fun k1 : (!(decide (1 ≤ (s.size : Int) ∧ (s.size : Int) ≤ 6))) = false => have _ := of_decide_eq_true (Uq k1); (by omega : 0 ≤ (0 : Int) ∧ (0 : Int) < (s.size : Int)))) (ifb (bif (!(decide (1 ≤ (s.size : Int) ∧ (s.size : Int) ≤ 6))) then true else (bif decide ((s.size : Int) > 1) then (((s.data.getD (Int.toNat 0) 0).toNat : Int) == 48) else false)) (fun h3 => fiI (-1) (F105 s) (condT h3 rfl)) (fun h3 => have _ := of_decide_eq_true (Uq (orF1 h3)); ai (Qqp s (by omega)) (fun (i0 : Nat × (Int × Int)) (hi0 : By s i0) => (fun (m0 : Nat) (n : Int) (i40 : Int) (hh0 : Qhs s i0 m0 n i40) => have hI0 := hh0.1; have hl0 := hh0.2.1; have _ := hh0.2.2.1; have _ := hh0.2.2.2; ifd (i40 < (s.size : Int)) (fun h5 _ => ai (by omega : 0 ≤ i40 ∧ i40 < (s.size : Int)) (Ms (IntKind.i64.wrap ((s.data.getD (Int.toNat i40) 0).toNat : Int)) 48 57 (ifb (!(decide (48 ≤ (IntKind.i64.wrap ((s.data.getD (Int.toNat i40) 0).toNat : Int)) ∧ (IntKind.i64.wrap ((s.data.getD (Int.toNat i40) 0).toNat : Int)) ≤ 57))) (fun h6 => have _ := of_decide_eq_false (Zx h6); fiI (-1) (F105 s) (condF h3 (finR (Qz hI0 (condT h5 (condT h6 rfl))) rfl))) (fun h6 => have _ := of_decide_eq_true (Uq h6); ai (by omega : 0 ≤ i40 ∧ i40 < (s.size : Int)) (ai (iok (i40 + 1) (by omega)) (Qro s i0 m0 (IntKind.i64.wrap ((IntKind.i64.wrap (n * 10)) + (IntKind.i64.wrap (IntKind.u8.wrap (((s.data.getD (Int.toNat i40) 0).toNat : Int) - 48))))) (i40 + 1) hl0 (Qe hI0 (condT h5 (condF h6 rfl))) (by refine ⟨?_, ?_⟩ <;> omega))))))) (fun h5 _ => have hD0_7 : Qgm s = Lp.done (n, i40) := Qn hI0 (condF h5 rfl); fiI n (F105 s) (condF h3 (finD hD0_7 rfl)))) (i0.1 - 1) i0.2.1 i0.2.2 (Qqx s i0 hi0)))))) (by kernel_rfl)
def Bd (n : Int) : (Int × Int) → Lp (Int × Int) Int := fun (out, i40) =>
 bif (decide (i40 < 16)) then (.next ((IntKind.i64.wrap (out * 2)), (i40 + 1))) else (.done (out, i40))
def F114 (n : Int) : Int :=
 (runL (Bd n) ((Int.toNat (16 - n)) + 1) (1, n)).fin (fun r => r) (fun (out, i40) => out)
abbrev Bb (n : Int) : Nat × (Int × Int) := (((Int.toNat (16 - n)) + 1), (1, n))
abbrev Qad (m39 : Nat) (out : Int) (i40 : Int) : Prop := Int.toNat (16 - i40) < m39 ∧ (0 : Int) ≤ i40
abbrev Qgd (n : Int) : Lp (Int × Int) Int := LpX (Bd n) (Bb n)
abbrev Bp (n : Int) (i : Nat × (Int × Int)) : Prop := LpJ (Bd n) (Bb n) i (Qad i.1 i.2.1 i.2.2)
abbrev Qgg (n : Int) (i : Nat × (Int × Int)) (m39 : Nat) (out : Int) (i40 : Int) : Prop := LpH (Bd n) (Bb n) i m39 (out, i40) (Qad (m39 + 1) out i40)
abbrev Qfz (out : Int) (i40 : Int) (out_ : Int) (i40_ : Int) (K39 : Prop) : Prop := ((.int .i64 out : Value) = .int .i64 out_) ∧ ((.int .i64 i40 : Value) = .int .i64 i40_) ∧ K39
theorem Qrr (n : Int) (i : Nat × (Int × Int)) (h : Bp n i) : Qgg n i (i.1 - 1) i.2.1 i.2.2 := ⟨hd1 h.1 h.2.1, hd3 h.2.1, hd2 h.2.1, h.2.2⟩
theorem Qqz (n : Int) (i : Nat × (Int × Int)) (m39 : Nat) (out : Int) (i40 : Int) (hl : m39 < i.1) (e : runL (Bd n) m39 (out, i40) = Qgd n) (h : Qad m39 out i40) : ∃ j : Nat × (Int × Int), Qfz out i40 j.2.1 j.2.2 (Bp n j ∧ j.1 < i.1) := ⟨(m39, (out, i40)), rfl, rfl, ⟨e, h⟩, hl⟩
theorem Qrm (n : Int) (h : (0 : Int) ≤ n) : Qfz 1 n 1 n (Bp n (Bb n)) := ⟨rfl, rfl, rfl, Nat.lt_succ_self _, h⟩
def S114 (n : Int) : Spec := ⟨[.r (.c (.v (vI n)))], .v (vI (F114 n)), 0 ≤ n⟩
theorem ok114 (n : Int) : (S114 n).ok Tryz.prog 114 :=
 Qk mixed (fn := Tryz.f114) (ct := .seq .no (.seq .no (.seq (.seq .no (.blk (.loop (ι := Nat × (Int × Int)) (fun i => (fun (out : Int) (i40 : Int) => (⟨[(3, some (.v (vI out))), (4, some (.v (vI i40)))], [], 0⟩ : St)) i.2.1 i.2.2) (Bp n) (fun i => i.1) (Bb n) (fun i => (fun (out : Int) (i40 : Int) => (.seq (.seq .no (.cond .no .no)) (.seq (.blk .no) (.reg [(1, .bnd)])))) i.2.1 i.2.2)))) (.seq .no .no)))) Tryz.func114 (fun (hpre0 : 0 ≤ n) => ai (Qrm n (by omega)) (fun (i0 : Nat × (Int × Int)) (hi0 : Bp n i0) => (fun (m0 : Nat) (out : Int) (i40 : Int) (hh0 : Qgg n i0 m0 out i40) => have hI0 := hh0.1; have hl0 := hh0.2.1; have _ := hh0.2.2.1; have _ := hh0.2.2.2; ifd (i40 < 16) (fun h2 _ => ai (iok (i40 + 1) (by omega)) (Qqz n i0 m0 (IntKind.i64.wrap (out * 2)) (i40 + 1) hl0 (Qe hI0 (condT h2 rfl)) (by refine ⟨?_, ?_⟩ <;> omega))) (fun h2 _ => have hD0_3 : Qgd n = Lp.done (out, i40) := Qn hI0 (condF h2 rfl); fiI out (F114 n) (finD hD0_3 rfl))) (i0.1 - 1) i0.2.1 i0.2.2 (Qrr n i0 hi0))) (by kernel_rfl)
theorem Qmx (n : Int) : 0 ≤ n → n ≤ 16 → 1 ≤ (F114 n) ∧ (F114 n) ≤ 65536 := by
 intro h1 h2; have h3 : n = 0 ∨ n = 1 ∨ n = 2 ∨ n = 3 ∨ n = 4 ∨ n = 5 ∨ n = 6 ∨ n = 7 ∨ n = 8 ∨ n = 9 ∨ n = 10 ∨ n = 11 ∨ n = 12 ∨ n = 13 ∨ n = 14 ∨ n = 15 ∨ n = 16 := by omega
 rcases h3 with rfl | rfl | rfl | rfl | rfl | rfl | rfl | rfl | rfl | rfl | rfl | rfl | rfl | rfl | rfl | rfl | rfl <;> exact of_decide_eq_true rfl
def Vh (list : List ByteArray) (s : ByteArray) : Int → Lp Int Bool := fun i40 =>
 bif (decide (i40 < (list.length : Int))) then (bif ((list.getD (Int.toNat i40) default).toList == s.toList) then (.ret true) else (.next (i40 + 1))) else (.done i40)
def F17 (list : List ByteArray) (s : ByteArray) : Bool :=
 (runL (Vh list s) ((Int.toNat ((list.length : Int) - 0)) + 1) 0).fin (fun r => r) (fun i40 => false)
abbrev Po (list : List ByteArray) : Nat × Int := (((Int.toNat ((list.length : Int) - 0)) + 1), 0)
abbrev Qdw (list : List ByteArray) (m39 : Nat) (i40 : Int) : Prop := Int.toNat ((list.length : Int) - i40) < m39 ∧ (0 : Int) ≤ i40
abbrev Qmz (list : List ByteArray) (s : ByteArray) : Lp Int Bool := LpX (Vh list s) (Po list)
abbrev Lu (list : List ByteArray) (s : ByteArray) (i : Nat × Int) : Prop := LpJ (Vh list s) (Po list) i (Qdw list i.1 i.2)
abbrev Qpc (list : List ByteArray) (s : ByteArray) (i : Nat × Int) (m39 : Nat) (i40 : Int) : Prop := LpH (Vh list s) (Po list) i m39 i40 (Qdw list (m39 + 1) i40)
abbrev Qjp (list : List ByteArray) (s : ByteArray) (i40 : Int) (i40_ : Int) (K39 : Prop) : Prop := (Rf (.string s)) ∧ ((.int .i64 i40 : Value) = .int .i64 i40_) ∧ (Im (.l 1 eStr list)) ∧ K39
theorem un17_0 (list : List ByteArray) (s : ByteArray) (i : Nat × Int) (h : Lu list s i) : Qpc list s i (i.1 - 1) i.2 := ⟨hd1 h.1 h.2.1, hd3 h.2.1, hd2 h.2.1, h.2.2⟩
theorem bk17_0 (list : List ByteArray) (s : ByteArray) (i : Nat × Int) (m39 : Nat) (i40 : Int) (hl : m39 < i.1) (e : runL (Vh list s) m39 i40 = Qmz list s) (h : Qdw list m39 i40) : ∃ j : Nat × Int, Qjp list s i40 j.2 (Lu list s j ∧ j.1 < i.1) := ⟨(m39, i40), rfl, rfl, Imp.refl _, ⟨e, h⟩, hl⟩
theorem en17_0 (list : List ByteArray) (s : ByteArray) (h : (0 : Int) ≤ 0) : Qjp list s 0 0 (Lu list s (Po list)) := ⟨rfl, rfl, Imp.refl _, rfl, Nat.lt_succ_self _, h⟩
def S17 (list : List ByteArray) (s : ByteArray) : Spec := ⟨[.r (.c (.l 1 eStr list)), .r (.c (.v (.string s)))], .v (.bool (F17 list s)), True⟩
theorem ok17 (list : List ByteArray) (s : ByteArray) : (S17 list s).ok Tryz.prog 17 :=
 Qk mixed (fn := Tryz.f17) (ct := .seqk [(0, 0)] .no (.seq (.seqk [(0, 0)] .no (.blk (.loop (ι := Nat × Int) (fun i => (fun (i40 : Int) => (⟨[(0, some (.h 0 0)), (1, some (.v (.string s))), (5, some (.v (vI i40)))], [(0, some (.shr none (.l 1 eStr list)))], 1⟩ : St)) i.2) (Lu list s) (fun i => i.1) (Po list) (fun i => (fun (i40 : Int) => (.seq (.seq .no (.cond .no .no)) (.seq (.blk (.seq .no (.cond (.seq .no .no) .no))) (.reg [(1, .bnd)])))) i.2)))) (.seq .no .no))) Tryz.func17 (fun (_ : True) => kn list fun _ => kn list fun _ => ai (en17_0 list s (by omega)) (fun (i0 : Nat × Int) (hi0 : Lu list s i0) => (fun (m0 : Nat) (i40 : Int) (hh0 : Qpc list s i0 m0 i40) => have hI0 := hh0.1; have hl0 := hh0.2.1; have _ := hh0.2.2.1; have _ := hh0.2.2.2; ifd (i40 < (list.length : Int)) (fun h2 _ => ai (by omega : ib i40 list) (ifb ((list.getD (Int.toNat i40) default).toList == s.toList) (fun h3 => fiB true (F17 list s) (finR (Qz hI0 (condT h2 (condT h3 rfl))) rfl)) (fun h3 => ai (iok (i40 + 1) (by omega)) (bk17_0 list s i0 m0 (i40 + 1) hl0 (Qe hI0 (condT h2 (condF h3 rfl))) (by refine ⟨?_, ?_⟩ <;> omega))))) (fun h2 _ => have hD0_4 : Qmz list s = Lp.done i40 := Qn hI0 (condF h2 rfl); fiB false (F17 list s) (finD hD0_4 rfl))) (i0.1 - 1) i0.2 (un17_0 list s i0 hi0))) (by kernel_rfl)
def F104 : List ByteArray :=
 ([(⟨#[100, 111, 111, 114]⟩ : ByteArray), (⟨#[104, 111, 115, 116]⟩ : ByteArray), (⟨#[110, 97, 116]⟩ : ByteArray), (⟨#[112, 101, 101, 114]⟩ : ByteArray), (⟨#[112, 111, 114, 116]⟩ : ByteArray), (⟨#[114, 111, 117, 116, 101]⟩ : ByteArray), (⟨#[114, 117, 108, 101]⟩ : ByteArray), (⟨#[117, 115, 101, 114]⟩ : ByteArray)] : List ByteArray)
theorem fi104 (r : List ByteArray) (hF : r = F104) : (Imp (.l 1 eStr r) (.l 1 eStr F104)) ∧ True := by cases hF; exact ⟨Imp.refl _, trivial⟩
def S104 : Spec := ⟨[], .ow (.l 1 eStr F104), True⟩
theorem ok104 : (S104).ok Tryz.prog 104 :=
 Qk mixed (fn := Tryz.f104) (ct := .seq .no (.seq (.reg [(0, .dat (.l 1 eStr ([w3_, w4_, w5_, w6_, w7_, w8_, w9_, w10_] : List ByteArray)))]) .no)) Tryz.func104 (fun (_ : True) => ai (bokr 1 eStr ([w3_, w4_, w5_, w6_, w7_, w8_, w9_, w10_] : List ByteArray) fun _ => rfl) (fi104 ([w3_, w4_, w5_, w6_, w7_, w8_, w9_, w10_] : List ByteArray) rfl)) (by kernel_rfl)
theorem Qgk (s : ByteArray) (a b : Nat) : mkB ((s.data.toList.drop a).take (b - a)) = s.extract a b := by
 refine Wm ?_
 rw [Pg, ByteArray.data_extract, Array.toList_extract, List.extract_eq_take_drop]
theorem Qko (s : ByteArray) (c : UInt8) (out : List ByteArray) (f : Int) : Yo s (c.toNat : Int) (out, f, (s.size : Int)) = .done (out, f, (s.size : Int)) := by
 simp only [Yo, decide_eq_false (show ¬ (s.size : Int) < (s.size : Int) by omega), cond_false]
theorem Qnl (s : ByteArray) (c : UInt8) (out : List ByteArray) (f i : Nat) (hi : i < s.size) (b : UInt8) (hb : s.data.toList.getD i 0 = b) : Yo s (c.toNat : Int) (out, (f : Int), (i : Int)) =
  if b = c then .next (out ++ [s.extract f i], ((i + 1 : Nat) : Int), ((i + 1 : Nat) : Int)) else .next (out, (f : Int), ((i + 1 : Nat) : Int)) := by
 have hc : ((c.toNat : Int) % 256) = (c.toNat : Int) := by have := c.toNat_lt; omega
 simp only [Yo, decide_eq_true (show (i : Int) < (s.size : Int) by omega), cond_true, Int.toNat_natCast, Yx, hb, hc, Qhx]
 by_cases h : b = c
 ·rw [decide_eq_true h, if_pos h]; rfl
 ·rw [decide_eq_false h, if_neg h]; rfl
theorem Gm (s : ByteArray) (c : UInt8) : ∀ (m i f : Nat) (out : List ByteArray), i + m = s.size → f ≤ i → c ∉ (s.data.toList.drop f).take (i - f) → ∀ fuel, m < fuel →
  ((runL (Yo s (c.toNat : Int)) fuel (out, (f : Int), (i : Int))).fin Lp.ret (fun (out1, from'1, i40) => .done (out1, from'1))).fin (fun r => r) (fun (out, from') => out ++ [s.extract (Int.toNat from') (Int.toNat (s.size : Int))]) = out ++ (Qv c (s.data.toList.drop f)).map mkB
 | m, i, f, out, _, _, _, 0, hf => absurd hf (Nat.not_lt_zero _)
 | 0, i, f, out, h, hfi, hc, fuel + 1, hf => by
  have hl : s.data.toList.length = s.size := Array.length_toList
  obtain rfl : i = s.size := by omega
  rw [Kd _ (Qko s c out f)]
  have e : (s.data.toList.drop f).take (s.size - f) = s.data.toList.drop f := List.take_of_length_le (by rw [List.length_drop]; omega)
  rw [e] at hc
  rw [Un hc, List.map_cons, List.map_nil, ← e, Qgk]
  rfl
 | m + 1, i, f, out, h, hfi, hc, fuel + 1, hf => by
  have hl : s.data.toList.length = s.size := Array.length_toList
  have hb : s.data.toList.drop i = s.data.toList.getD i 0 :: s.data.toList.drop (i + 1) := by
   rw [List.drop_eq_getElem_cons (by omega), List.getD_eq_getElem?_getD, List.getElem?_eq_getElem (by omega)]; rfl
  have hw : s.data.toList.drop f = (s.data.toList.drop f).take (i - f) ++ s.data.toList.drop i := by
   have := (List.take_append_drop (i - f) (s.data.toList.drop f)).symm
   rw [List.drop_drop, show f + (i - f) = i by omega] at this
   exact this
  have h1 := Qnl s c out f i (by omega) _ rfl
  generalize hbb : s.data.toList.getD i 0 = b at h1 hb
  by_cases hbc : b = c
  ·rw [if_pos hbc] at h1
   rw [Ur _ h1, Gm s c m (i + 1) (i + 1) _ (by omega) (Nat.le_refl _) (by rw [Nat.sub_self, List.take_zero]; exact List.not_mem_nil) fuel (by omega)]
   rw [hw, hb, hbc, Ut _ hc, List.map_cons, Qgk, List.append_assoc]
   rfl
  ·rw [if_neg hbc] at h1
   have hc' : c ∉ (s.data.toList.drop f).take (i + 1 - f) := by
    have e : (s.data.toList.drop f).take (i + 1 - f) = (s.data.toList.drop f).take (i - f) ++ [b] := by
     have hg : s.data.toList[i]? = some b := by
      rw [List.getD_eq_getElem?_getD, List.getElem?_eq_getElem (by omega)] at hbb
      rw [List.getElem?_eq_getElem (by omega)]
      exact congrArg some hbb
     rw [show i + 1 - f = (i - f) + 1 by omega, List.take_add_one, List.getElem?_drop, show f + (i - f) = i by omega, hg]
     rfl
    rw [e]
    intro hm
    rcases List.mem_append.1 hm with h2 | h2
    ·exact hc h2
    ·exact hbc (List.mem_singleton.1 h2).symm
   rw [Ur _ h1]
   exact Gm s c m (i + 1) f out (by omega) (by omega) hc' fuel (by omega)
theorem Wx (s : ByteArray) (c : UInt8) : F103 s (c.toNat : Int) = (Qv c s.data.toList).map mkB := by
 have := Gm s c s.size 0 0 [] (by omega) (Nat.le_refl _) (by rw [Nat.sub_self, List.take_zero]; exact List.not_mem_nil) (Int.toNat ((s.size : Int) - 0) + 1) (by omega)
 rw [List.drop_zero, List.nil_append] at this
 exact this
theorem Gv (s : ByteArray) (c : UInt8) : Qu s ⟨#[c]⟩ = (Qv c s.data.toList).map mkB := by
 rw [← Pf, List.map_map]
 exact ((List.map_congr_left fun x _ => Lz x).trans (List.map_id _)).symm
theorem Pv (s : ByteArray) (c : UInt8) : F103 s (c.toNat : Int) = Qu s ⟨#[c]⟩ := (Wx s c).trans (Gv s c).symm
theorem Qna (s : ByteArray) (a : Int) : ∃ c : UInt8, F103 s a = (Qv c s.data.toList).map mkB := by
 refine ⟨UInt8.ofNat (a % 256).toNat, ?_⟩
 rw [← Wx]
 have h : ((UInt8.ofNat (a % 256).toNat).toNat : Int) % 256 = a % 256 := by
  rw [UInt8.toNat_ofNat']
  omega
 have e : Yo s a = Yo s ((UInt8.ofNat (a % 256).toNat).toNat : Int) := by
  funext ⟨o, f, i⟩
  simp only [Yo, h]
 unfold F103 Xx
 rw [e]
theorem Gq (c : UInt8) : ∀ (l : List UInt8), ∀ w ∈ Qv c l, w.length ≤ l.length
 | [], w, h => by
  rw [Qv, List.mem_singleton] at h; rw [h]; exact Nat.le_refl _
 | b :: l, w, h => by
  have ih := Gq c l
  rw [Qv] at h
  by_cases hb : b = c
  ·rw [if_pos hb] at h
   rcases List.mem_cons.1 h with rfl | h
   ·exact Nat.zero_le _
   ·exact Nat.le_succ_of_le (ih w h)
  ·rw [if_neg hb] at h
   cases hs : Qv c l with
   | nil =>
    rw [hs] at h
    rw [List.mem_singleton] at h; rw [h]; exact Nat.succ_le_succ (Nat.zero_le _)
   | cons p ps =>
    rw [hs] at h ih
    rcases List.mem_cons.1 h with rfl | h
    ·exact Nat.succ_le_succ (ih p List.mem_cons_self)
    ·exact Nat.le_succ_of_le (ih w (List.mem_cons_of_mem _ h))
theorem Mo (ws : List (List UInt8)) (n : Nat) (h : ∀ w ∈ ws, w.length ≤ n) (k : Nat) : (((ws.map mkB).getD k default : ByteArray)).size ≤ n := by
 by_cases hk : k < ws.length
 ·rw [List.getD_eq_getElem?_getD, List.getElem?_eq_getElem (by simpa using hk), List.getElem_map]
  exact h _ (List.getElem_mem hk)
 ·rw [Qgb _ (by simpa using hk)]
  exact Nat.zero_le _
theorem Kj (s : ByteArray) (a : Int) (h : s.size ≤ 1048576) (k : Nat) : (((F103 s a).getD k default : ByteArray)).size ≤ 1048576 := by
 obtain ⟨c, e⟩ := Qna s a
 rw [e]
 refine Mo _ _ (fun w hw => ?_) k
 have := Gq c _ w hw
 have hl : s.data.toList.length = s.size := Array.length_toList
 omega
theorem Qgw (s : ByteArray) {K_ : Prop} (p0_ : s.size ≤ 1048576) (k_ : K_) : (s.size ≤ 1048576) ∧ (Imp (.v (.string s)) (.v (.string s))) ∧ K_ := ⟨p0_, Imp.refl _, k_⟩
abbrev Qfx (s : ByteArray) : Hint true Tryz.prog := .call 105 (S105 s) (ok105 s) none
def F85 (s : ByteArray) (low : Int) (high : Int) : Bool :=
 (decide (low ≤ (F105 s) ∧ (F105 s) ≤ high))
def S85 (R : Bool) (s : ByteArray) (low : Int) (high : Int) : Spec := ⟨[.r (.c (.v (.string s))), .r (.c (.v (vI low))), .r (.c (.v (vI high)))], .v (.bool R), s.size ≤ 1048576⟩
theorem ok85 (s : ByteArray) (low : Int) (high : Int) : (S85 (F85 s low high) s low high).ok Tryz.prog 85 :=
 Qk mixed (fn := Tryz.f85) (ct := .seq .no (.seq (.reg [(1, Qfx s), (4, Gg (F105 s) low high)]) .no)) Tryz.func85 (fun (hpre0 : s.size ≤ 1048576) => Qgw s (by omega) (Ms (F105 s) low high (fiB (decide (low ≤ (F105 s) ∧ (F105 s) ≤ high)) (F85 s low high) rfl))) (by kernel_rfl)
theorem as85 (s : ByteArray) (low : Int) (high : Int) : F85 s low high = (decide (low ≤ F105 s ∧ F105 s ≤ high)) := by
 rfl
theorem oa85 (s : ByteArray) (low : Int) (high : Int) : (S85 (decide (low ≤ F105 s ∧ F105 s ≤ high)) s low high).ok Tryz.prog 85 := by
 intro hp; have h := ok85 s low high hp; rw [as85 s low high] at h; exact h
theorem Qme (s : ByteArray) (at' : Int) {K_ : Prop} (p0_ : s.size ≤ 1048576) (q0_ : s.size ≤ 1048576) (k_ : (∀ k : Nat, ((F103 s at').getD k default).size ≤ 1048576) → K_) : (s.size ≤ 1048576) ∧ (Imp (.v (.string s)) (.v (.string s))) ∧ (Imp (.v (.int .u8 at')) (.v (.int .u8 at'))) ∧ K_ := ⟨p0_, Imp.refl _, Imp.refl _, k_ (Kj s at' q0_)⟩
abbrev Qlt (s : ByteArray) (at' : Int) : Hint true Tryz.prog := .call 103 (S103 s at') (ok103 s at') none
theorem Ws {K_ : Prop} (c_ b_ : Bool) (s : ByteArray) (low : Int) (high : Int) (p_ : c_ = b_ → s.size ≤ 1048576) (k_ : K_) : (c_ = b_ → s.size ≤ 1048576) ∧ (c_ = b_ → Imp (.v (.string s)) (.v (.string s))) ∧ (c_ = b_ → Imp (.v (vI low)) (.v (vI low))) ∧ (c_ = b_ → Imp (.v (vI high)) (.v (vI high))) ∧ K_ := ⟨p_, fun _ => Imp.refl _, fun _ => Imp.refl _, fun _ => Imp.refl _, k_⟩
abbrev Wq (s : ByteArray) (low : Int) (high : Int) : Hint true Tryz.prog := .call 85 (S85 (decide (low ≤ F105 s ∧ F105 s ≤ high)) s low high) (oa85 s low high) none
def F87 (s : ByteArray) : Int :=
 bif (bif (bif (((F103 s 46).length : Int) != 2) then true else (!(decide (0 ≤ F105 ((F103 s 46).getD (Int.toNat 0) default) ∧ F105 ((F103 s 46).getD (Int.toNat 0) default) ≤ 255)))) then true else (!(decide (0 ≤ F105 ((F103 s 46).getD (Int.toNat 1) default) ∧ F105 ((F103 s 46).getD (Int.toNat 1) default) ≤ 255)))) then (-1) else (IntKind.i64.wrap ((IntKind.i64.wrap (256 * (F105 ((F103 s 46).getD (Int.toNat 0) default)))) + (F105 ((F103 s 46).getD (Int.toNat 1) default))))
def S87 (s : ByteArray) : Spec := ⟨[.r (.c (.v (.string s)))], .v (vI (F87 s)), s.size ≤ 1048576⟩
theorem ok87 (s : ByteArray) : (S87 s).ok Tryz.prog 87 :=
 Qk mixed (fn := Tryz.f87) (ct := .seq .no (.seq (.reg [(1, Qlt s 46)]) (.seq (.seq (.reg [(7, Wq ((F103 s 46).getD (Int.toNat 0) default) 0 255), (14, Wq ((F103 s 46).getD (Int.toNat 1) default) 0 255)]) (.cond (.seq .no .no) .no)) (.seq (.reg [(3, Qfx ((F103 s 46).getD (Int.toNat 0) default)), (8, Qfx ((F103 s 46).getD (Int.toNat 1) default))]) .no)))) Tryz.func87 (fun (hpre0 : s.size ≤ 1048576) => Qme s 46 (by omega) (by omega) (fun gv1 => ai (fun k2 : (((F103 s 46).length : Int) != 2) = false => have _ := bneF k2; (by omega : ib 0 (F103 s 46))) (Ws (((F103 s 46).length : Int) != 2) false ((F103 s 46).getD (Int.toNat 0) default) 0 255 (fun k3 => have _ := bneF k3; (by first | exact Kj _ _ (by omega) _ | omega)) (ai (fun k4 : (bif (((F103 s 46).length : Int) != 2) then true else (!(decide (0 ≤ F105 ((F103 s 46).getD (Int.toNat 0) default) ∧ F105 ((F103 s 46).getD (Int.toNat 0) default) ≤ 255)))) = false => have _ := bneF (orF1 k4); have _ := of_decide_eq_true (Uq (orF2 k4)); (by omega : ib 1 (F103 s 46))) (Ws (bif (((F103 s 46).length : Int) != 2) then true else (!(decide (0 ≤ F105 ((F103 s 46).getD (Int.toNat 0) default) ∧ F105 ((F103 s 46).getD (Int.toNat 0) default) ≤ 255)))) false ((F103 s 46).getD (Int.toNat 1) default) 0 255 (fun k5 => have _ := bneF (orF1 k5); have _ := of_decide_eq_true (Uq (orF2 k5)); (by first | exact Kj _ _ (by omega) _ | omega)) (ifb (bif (bif (((F103 s 46).length : Int) != 2) then true else (!(decide (0 ≤ F105 ((F103 s 46).getD (Int.toNat 0) default) ∧ F105 ((F103 s 46).getD (Int.toNat 0) default) ≤ 255)))) then true else (!(decide (0 ≤ F105 ((F103 s 46).getD (Int.toNat 1) default) ∧ F105 ((F103 s 46).getD (Int.toNat 1) default) ≤ 255)))) (fun h6 => fiI (-1) (F87 s) (condT h6 rfl)) (fun h6 => have _ := bneF (orF1 (orF1 h6)); have _ := of_decide_eq_true (Uq (orF2 (orF1 h6))); have _ := of_decide_eq_true (Uq (orF2 h6)); ai (by omega : ib 0 (F103 s 46)) (Qgw ((F103 s 46).getD (Int.toNat 0) default) (by first | exact Kj _ _ (by omega) _ | omega) (ai (by omega : ib 1 (F103 s 46)) (Qgw ((F103 s 46).getD (Int.toNat 1) default) (by first | exact Kj _ _ (by omega) _ | omega) (fiI (IntKind.i64.wrap ((IntKind.i64.wrap (256 * (F105 ((F103 s 46).getD (Int.toNat 0) default)))) + (F105 ((F103 s 46).getD (Int.toNat 1) default)))) (F87 s) (condF h6 rfl)))))))))))) (by kernel_rfl)
theorem kc104 {K_ : Prop} (k_ : K_) : (True) ∧ K_ := ⟨trivial, k_⟩
abbrev kh104 : Hint true Tryz.prog := .call 104 (S104) (ok104) none
theorem kc17 (list : List ByteArray) (s : ByteArray) {K_ : Prop} (k_ : K_) : (True) ∧ (Imp (.l 1 eStr list) (.l 1 eStr list)) ∧ (Imp (.v (.string s)) (.v (.string s))) ∧ K_ := ⟨trivial, Imp.refl _, Imp.refl _, k_⟩
abbrev kh17 (list : List ByteArray) (s : ByteArray) : Hint true Tryz.prog := .call 17 (S17 list s) (ok17 list s) none
def Vb (s : ByteArray) : Int → Lp Int Bool := fun i40 =>
 bif (decide (i40 < ((F103 s 44).length : Int))) then (bif (bif (!(F17 F104 ((F103 s 44).getD (Int.toNat i40) default))) then true else (bif decide (i40 > 0) then (!(Op.bytesLess ((F103 s 44).getD (Int.toNat (i40 - 1)) default).toList ((F103 s 44).getD (Int.toNat i40) default).toList)) else false)) then (.ret false) else (.next (i40 + 1))) else (.done i40)
def F84 (s : ByteArray) : Bool :=
 bif (bif (s.toList == (⟨#[97, 108, 108]⟩ : ByteArray).toList) then true else (s.toList == (⟨#[110, 111, 110, 101]⟩ : ByteArray).toList)) then true else ((runL (Vb s) ((Int.toNat (((F103 s 44).length : Int) - 0)) + 1) 0).fin (fun r => r) (fun i40 => true))
abbrev Lh (s : ByteArray) : Nat × Int := (((Int.toNat (((F103 s 44).length : Int) - 0)) + 1), 0)
abbrev Qdh (s : ByteArray) (m39 : Nat) (i40 : Int) : Prop := Int.toNat (((F103 s 44).length : Int) - i40) < m39 ∧ (0 : Int) ≤ i40
abbrev Qmf (s : ByteArray) : Lp Int Bool := LpX (Vb s) (Lh s)
abbrev Me (s : ByteArray) (i : Nat × Int) : Prop := LpJ (Vb s) (Lh s) i (Qdh s i.1 i.2)
abbrev Qop (s : ByteArray) (i : Nat × Int) (m39 : Nat) (i40 : Int) : Prop := LpH (Vb s) (Lh s) i m39 i40 (Qdh s (m39 + 1) i40)
abbrev Qpe (s : ByteArray) (i40 : Int) (i40_ : Int) (K39 : Prop) : Prop := ((.int .i64 i40 : Value) = .int .i64 i40_) ∧ (Im (.l 1 eStr (F103 s 44))) ∧ K39
theorem un84_0 (s : ByteArray) (i : Nat × Int) (h : Me s i) : Qop s i (i.1 - 1) i.2 := ⟨hd1 h.1 h.2.1, hd3 h.2.1, hd2 h.2.1, h.2.2⟩
theorem bk84_0 (s : ByteArray) (i : Nat × Int) (m39 : Nat) (i40 : Int) (hl : m39 < i.1) (e : runL (Vb s) m39 i40 = Qmf s) (h : Qdh s m39 i40) : ∃ j : Nat × Int, Qpe s i40 j.2 (Me s j ∧ j.1 < i.1) := ⟨(m39, i40), rfl, Imp.refl _, ⟨e, h⟩, hl⟩
theorem en84_0 (s : ByteArray) (h : (0 : Int) ≤ 0) : Qpe s 0 0 (Me s (Lh s)) := ⟨rfl, Imp.refl _, rfl, Nat.lt_succ_self _, h⟩
def S84 (s : ByteArray) : Spec := ⟨[.r (.c (.v (.string s)))], .v (.bool (F84 s)), s.size ≤ 1048576⟩
theorem ok84 (s : ByteArray) : (S84 s).ok Tryz.prog 84 :=
 Qk mixed (fn := Tryz.f84) (ct := .seq .no (.seq (.seq .no (.cond (.seq .no .no) .no)) (.seq (.reg [(1, Qlt s 44)]) (.seq (.seqk [(3, 0)] .no (.blk (.loop (ι := Nat × Int) (fun i => (fun (i40 : Int) => (⟨[(3, some (.h 0 0)), (4, some (.v (vI i40)))], [(0, some (.own 0 (.l 1 eStr (F103 s 44))))], 1⟩ : St)) i.2) (Me s) (fun i => i.1) (Lh s) (fun i => (fun (i40 : Int) => (.seq (.seq .no (.cond .no .no)) (.seq (.blk (.seq (.reg [(0, kh104), (5, kh17 F104 ((F103 s 44).getD (Int.toNat i40) default)), (13, .bnd)]) (.cond (.seq .no .no) .no))) (.reg [(1, .bnd)])))) i.2)))) (.seq .no .no))))) Tryz.func84 (fun (hpre0 : s.size ≤ 1048576) => ifb (bif (s.toList == w11_.toList) then true else (s.toList == w12_.toList)) (fun h1 => fiB true (F84 s) (condT h1 rfl)) (fun h1 => have _ : (s.toList == w11_.toList) = false := (orF1 h1); have _ : (s.toList == w12_.toList) = false := (orF2 h1); Qme s 44 (by omega) (by omega) (fun gv2 => kn (F103 s 44) fun _ => ai (en84_0 s (by omega)) (fun (i0 : Nat × Int) (hi0 : Me s i0) => (fun (m0 : Nat) (i40 : Int) (hh0 : Qop s i0 m0 i40) => have hI0 := hh0.1; have hl0 := hh0.2.1; have _ := hh0.2.2.1; have _ := hh0.2.2.2; ifd (i40 < ((F103 s 44).length : Int)) (fun h4 _ => kc104 (ai (by omega : ib i40 (F103 s 44)) (kc17 F104 ((F103 s 44).getD (Int.toNat i40) default) (ai (fun k6 : (decide (i40 > 0)) = true => have _ := of_decide_eq_true k6; (fun k5 : (!(F17 F104 ((F103 s 44).getD (Int.toNat i40) default))) = false => iok (i40 - 1) (by omega))) (ai (fun k8 : (decide (i40 > 0)) = true => have _ := of_decide_eq_true k8; (fun k7 : (!(F17 F104 ((F103 s 44).getD (Int.toNat i40) default))) = false => (by omega : ib (i40 - 1) (F103 s 44)))) (ai (fun k10 : (decide (i40 > 0)) = true => have _ := of_decide_eq_true k10; (fun k9 : (!(F17 F104 ((F103 s 44).getD (Int.toNat i40) default))) = false => (by omega : ib i40 (F103 s 44)))) (ifb (bif (!(F17 F104 ((F103 s 44).getD (Int.toNat i40) default))) then true else (bif decide (i40 > 0) then (!(Op.bytesLess ((F103 s 44).getD (Int.toNat (i40 - 1)) default).toList ((F103 s 44).getD (Int.toNat i40) default).toList)) else false)) (fun h11 => fiB false (F84 s) (condF h1 (finR (Qz hI0 (condT h4 (condT h11 rfl))) rfl))) (fun h11 => ai (iok (i40 + 1) (by omega)) (bk84_0 s i0 m0 (i40 + 1) hl0 (Qe hI0 (condT h4 (condF h11 rfl))) (by refine ⟨?_, ?_⟩ <;> omega)))))))))) (fun h4 _ => have hD0_12 : Qmf s = Lp.done i40 := Qn hI0 (condF h4 rfl); fiB true (F84 s) (condF h1 (finD hD0_12 rfl)))) (i0.1 - 1) i0.2 (un84_0 s i0 hi0))))) (by kernel_rfl)
end Go.Proofs.YtmoodkjkecjeaacGreatDoor
