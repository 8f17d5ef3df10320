/- Texts put together: MS, MT, MP, MU, LY, V0, V1, P1, PW1; then what leads to it. -/
import Derived.Shelf.SlSortCmp.NoneTotal
import Derived.Test.YtmiolofjlfnohaaRows
import Derived.Test.YtmiolofjlfnohaaZC23B
namespace Go.Proofs.Ytmiolofjlfnohaa
open Go.RowKit
theorem n0 (n : Nat) : Int.toNat ((n : Int) - 0) = n := by simp
theorem nn (n : Nat) : Int.toNat (n : Int) = n := by simp
theorem ltD {n : Nat} {k : Nat} (h : k < n) : decide ((k : Int) < (n : Int)) = true := by simp; omega
theorem geD {n : Nat} : decide ((n : Int) < (n : Int)) = false := by simp
theorem getD_nil {α : Type} [Inhabited α] (k : Nat) : ([] : List α).getD k default = default := rfl
theorem getD_cons_zero' {α : Type} [Inhabited α] (x : α) (xs : List α) : (x :: xs).getD 0 default = x := rfl
theorem getD_cons_succ' {α : Type} [Inhabited α] (x : α) (xs : List α) (k : Nat) : (x :: xs).getD (k + 1) default = xs.getD k default := rfl
theorem getD_ge {α : Type} [Inhabited α] (xs : List α) {k : Nat} (h : xs.length ≤ k) : xs.getD k default = default := by
  rw [List.getD_eq_getElem?_getD, List.getElem?_eq_none h]; rfl
theorem getD_lt {α : Type} [Inhabited α] (xs : List α) {k : Nat} (h : k < xs.length) : xs.getD k default = xs[k] := by
  rw [List.getD_eq_getElem?_getD, List.getElem?_eq_getElem h]; rfl
theorem getD_mem {α : Type} [Inhabited α] (xs : List α) {k : Nat} (h : k < xs.length) : xs.getD k default ∈ xs := by
  rw [getD_lt xs h]; exact List.getElem_mem h
theorem mem_getD {α : Type} [Inhabited α] {xs : List α} {x : α} (h : x ∈ xs) : ∃ k, k < xs.length ∧ xs.getD k default = x := by
  obtain ⟨k, hk, e⟩ := List.mem_iff_getElem.1 h
  exact ⟨k, hk, by rw [getD_lt xs hk]; exact e⟩
theorem take_set_next {α : Type} [Inhabited α] {s a : List α} {k : Nat} (hl : s.length = a.length) (h : s.take k = a.take k) (hk : k < a.length) : (s.set k (a.getD k default)).take (k + 1) = a.take (k + 1) := by
  rw [List.take_add_one, List.take_add_one, List.take_set_of_le (Nat.le_refl _), h, List.getElem?_set_self (by omega), List.getD_eq_getElem?_getD, List.getElem?_eq_getElem hk]
  rfl
theorem take_next {α : Type} [Inhabited α] {a : List α} {k : Nat} (hk : k < a.length) : a.take (k + 1) = a.take k ++ [a.getD k default] := by
  rw [List.take_add_one, List.getD_eq_getElem?_getD, List.getElem?_eq_getElem hk]
  rfl
theorem list_eq_of_getD {α : Type} [Inhabited α] {a b : List α} (hl : a.length = b.length) (h : ∀ k, k < a.length → a.getD k default = b.getD k default) : a = b := by
  refine List.ext_getElem hl fun k h1 h2 => ?_
  have := h k h1
  rwa [getD_lt a h1, getD_lt b h2] at this
theorem to_loop {α : Type} [Inhabited α] (f : α → α) (hf : ∀ x, f x = x) (a init : List α) (hi : init.length = a.length) (step : Int × List α → Lp (Int × List α) (List α))
    (hs : ∀ i xs, step (i, xs) = bif decide (i < (a.length : Int)) then .next (i + 1, xs.set (Int.toNat i) (f (a.getD (Int.toNat i) default))) else .done (i, xs)) :
    (runL step ((Int.toNat ((a.length : Int) - 0)) + 1) (0, init)).fin (fun r => r) (fun s => s.2) = a := by
  have h := runL_rule (step := step) (fun (k : Nat) (s : List α) => ((k : Int), s)) a.length (fun k s => s.length = a.length ∧ s.take k = a.take k) (fun _ => False)
    (fun k s hk ⟨h1, h2⟩ => .inl ⟨s.set k (a.getD k default), by simp [hs, hf, hk], by simp [h1], take_set_next h1 h2 hk⟩)
    (fun s _ => by simp [hs]) a.length 0 init (by omega) ⟨hi, by simp⟩ (a.length + 1) (Nat.lt_succ_self _)
  rw [n0]
  rcases h with ⟨s', h, h1, h2⟩ | ⟨r, _, h⟩
  · have h : runL step (a.length + 1) (0, init) = .done ((a.length : Int), s') := h
    rw [h]
    show s' = a
    rw [List.take_of_length_le (by omega), List.take_of_length_le (by omega)] at h2
    exact h2
  · exact h.elim
theorem eq_loop {α : Type} [Inhabited α] [DecidableEq α] (e : α → α → Bool) (he : ∀ x y, e x y = decide (x = y)) (a b : List α) (step : Int → Lp Int Bool)
    (hs : ∀ i, step i = bif (decide (i < (a.length : Int))) then (bif (!(e (a.getD (Int.toNat i) default) (b.getD (Int.toNat i) default))) then (.ret false) else (.next (i + 1))) else (.done i)) :
    (bif ((a.length : Int) != (b.length : Int)) then false else ((runL step ((Int.toNat ((a.length : Int) - 0)) + 1) 0).fin (fun r => r) (fun _ => true))) = decide (a = b) := by
  by_cases hl : a.length = b.length
  · have hc : ((a.length : Int) != (b.length : Int)) = false := by simp [hl]
    rw [hc, cond_false]
    have h := runL_rule (step := step) (fun (k : Nat) (_ : Unit) => (k : Int)) a.length (fun k _ => ∀ j, j < k → a.getD j default = b.getD j default) (fun r => r = false ∧ a ≠ b)
      (fun k _ hk hI => by
        have hc := ltD hk
        by_cases hx : a.getD k default = b.getD k default
        · refine .inl ⟨(), ?_, fun j hj => ?_⟩
          · rw [hs, he, Int.toNat_natCast, hc, hx, decide_eq_true rfl]
            rfl
          · rcases Nat.lt_succ_iff_lt_or_eq.1 hj with h | h
            · exact hI j h
            · exact h ▸ hx
        · refine .inr ⟨false, ?_, rfl, fun e => hx (e ▸ rfl)⟩
          rw [hs, he, Int.toNat_natCast, hc, decide_eq_false hx]
          rfl)
      (fun s _ => by rw [hs]; simp) a.length 0 () (by omega) (fun j hj => by omega) (a.length + 1) (Nat.lt_succ_self _)
    rw [n0]
    rcases h with ⟨_, h, hI⟩ | ⟨r, h, rfl, hne⟩
    · have h : runL step (a.length + 1) 0 = .done (a.length : Int) := h
      rw [h]
      have := list_eq_of_getD hl hI
      simp [Lp.fin, this]
    · have h : runL step (a.length + 1) 0 = .ret false := h
      rw [h]
      simp [Lp.fin, hne]
  · have hc : ((a.length : Int) != (b.length : Int)) = true := by simp; omega
    rw [hc, cond_true]
    symm
    simp only [decide_eq_false_iff_not]
    exact fun e => hl (e ▸ rfl)
def Mk {α : Type} (m : α → Int → Int × α) (h : α → Int → Int) (L : α → Nat) : Prop :=
  ∀ x k, 0 ≤ k → k + (L x : Int) < 9223372036854775807 → (m x k).1 = k + L x ∧ h (m x k).2 k = k + L x
def sumL {α : Type} (L : α → Nat) (xs : List α) : Nat := (xs.map L).foldr (· + ·) 0
theorem sumL_nil {α : Type} (L : α → Nat) : sumL L [] = 0 := rfl
theorem sumL_cons {α : Type} (L : α → Nat) (x : α) (xs : List α) : sumL L (x :: xs) = L x + sumL L xs := rfl
theorem sumL_le {α : Type} (L : α → Nat) (c : Nat) : ∀ (xs : List α), (∀ x ∈ xs, L x ≤ c) → sumL L xs ≤ xs.length * c
  | [], _ => Nat.zero_le _
  | x :: xs, h => by
    rw [sumL_cons, List.length_cons, Nat.add_one_mul]
    have h1 := h x List.mem_cons_self
    have h2 := sumL_le L c xs fun y hy => h y (List.mem_cons_of_mem _ hy)
    omega
theorem sumL_take {α : Type} [Inhabited α] (L : α → Nat) (xs : List α) {k : Nat} (hk : k < xs.length) : sumL L xs = sumL L (xs.take k) + L (xs.getD k default) + sumL L (xs.drop (k + 1)) := by
  induction xs generalizing k with
  | nil => simp at hk
  | cons x xs ih =>
    cases k with
    | zero => simp [sumL_cons, sumL_nil]
    | succ k =>
      have := ih (k := k) (by simpa using hk)
      simp only [List.take_succ_cons, sumL_cons, getD_cons_succ', List.drop_succ_cons]
      omega
theorem sumL_take_le {α : Type} [Inhabited α] (L : α → Nat) (xs : List α) (k : Nat) : sumL L (xs.take k) ≤ sumL L xs := by
  induction xs generalizing k with
  | nil => simp
  | cons x xs ih =>
    cases k with
    | zero => simp [sumL_nil]
    | succ k => simp only [List.take_succ_cons, sumL_cons]; have := ih k; omega
theorem sumL_take_next {α : Type} [Inhabited α] (L : α → Nat) (xs : List α) {k : Nat} (hk : k < xs.length) : sumL L (xs.take (k + 1)) = sumL L (xs.take k) + L (xs.getD k default) := by
  induction xs generalizing k with
  | nil => simp at hk
  | cons x xs ih =>
    cases k with
    | zero => simp [sumL_cons, sumL_nil]
    | succ k =>
      have := ih (k := k) (by simpa using hk)
      simp only [List.take_succ_cons, sumL_cons, getD_cons_succ']
      omega
theorem mark_loop {α : Type} [Inhabited α] (m : α → Int → Int × α) (h : α → Int → Int) (L : α → Nat) (hm : Mk m h L) (F : List α → Int → Int × List α) (H : List α → Int → Int) (st : List α → Int → Int × Int × List α → Lp (Int × Int × List α) (Int × List α)) (sh : List α → Int → Int × Int → Lp (Int × Int) Int)
    (hF : ∀ a k, F a k = (runL (st a k) ((Int.toNat ((a.length : Int) - 0)) + 1) (k, 0, a)).fin (fun r => r) (fun s => (s.1, s.2.2)))
    (hst : ∀ a k0 k i xs, st a k0 (k, i, xs) = bif decide (i < (xs.length : Int)) then .next ((m (xs.getD (Int.toNat i) default) k).1, i + 1, xs.set (Int.toNat i) (m (xs.getD (Int.toNat i) default) k).2) else .done (k, i, xs))
    (hH : ∀ a k, H a k = (runL (sh a k) ((Int.toNat ((a.length : Int) - 0)) + 1) (k, 0)).fin (fun r => r) (fun s => s.1))
    (hsh : ∀ a k0 k i, i < (a.length : Int) → 0 ≤ i → 0 ≤ h (a.getD (Int.toNat i) default) k → sh a k0 (k, i) = .next (h (a.getD (Int.toNat i) default) k, i + 1))
    (hsd : ∀ a k0 k, sh a k0 (k, (a.length : Int)) = .done (k, (a.length : Int))) : Mk F H (sumL L) := by
  intro a k hk0 hk
  have hh := runL_rule (step := st a k) (fun (i : Nat) (s : Int × List α) => (s.1, (i : Int), s.2)) a.length
    (fun i s => s.2.length = a.length ∧ s.1 = k + sumL L (a.take i) ∧ (∀ j, i ≤ j → s.2.getD j default = a.getD j default) ∧ ∀ j, j < i → s.2.getD j default = (m (a.getD j default) (k + sumL L (a.take j))).2) (fun _ => False)
    (fun i s hi ⟨h1, h2, h3, h4⟩ => by
      obtain ⟨k1, xs⟩ := s
      simp only at h1 h2 h3 h4
      refine .inl ⟨((m (xs.getD i default) k1).1, xs.set i (m (xs.getD i default) k1).2), ?_, by simp [h1], ?_, fun j hj => ?_, fun j hj => ?_⟩
      · rw [hst, h1, ltD hi, Int.toNat_natCast]; rfl
      · simp only
        rw [h3 i (Nat.le_refl _), h2, sumL_take_next L a hi]
        have hs := sumL_take L a hi
        rw [(hm (a.getD i default) (k + sumL L (a.take i)) (by omega) (by omega)).1]
        omega
      · simp only
        rw [List.getD_eq_getElem?_getD, List.getElem?_set_ne (by omega), ← List.getD_eq_getElem?_getD]
        exact h3 j (by omega)
      · simp only
        rcases Nat.lt_succ_iff_lt_or_eq.1 hj with hj | rfl
        · rw [List.getD_eq_getElem?_getD, List.getElem?_set_ne (by omega), ← List.getD_eq_getElem?_getD]
          exact h4 j hj
        · rw [List.getD_eq_getElem?_getD, List.getElem?_set_self (by omega), h3 j (Nat.le_refl _), h2]; rfl)
    (fun s ⟨h1, _⟩ => by rw [hst, h1, geD]; rfl) a.length 0 (k, a) (by omega) ⟨rfl, by simp [sumL_nil], fun _ _ => rfl, fun j hj => by omega⟩ (a.length + 1) (Nat.lt_succ_self _)
  rcases hh with ⟨⟨k1, xs⟩, hh, h1, h2, h3, h4⟩ | ⟨_, _, hh⟩
  case inr => exact hh.elim
  simp only at h1 h2 h3 h4
  have hh : runL (st a k) (a.length + 1) (k, 0, a) = .done (k1, (a.length : Int), xs) := hh
  have eF : F a k = (k1, xs) := by rw [hF, n0, hh]; rfl
  rw [List.take_of_length_le (Nat.le_refl _)] at h2
  rw [eF]
  refine ⟨h2, ?_⟩
  simp only
  have h5 := runL_rule (step := sh xs k) (fun (i : Nat) (s : Int) => (s, (i : Int))) xs.length (fun i s => s = k + sumL L (a.take i)) (fun _ => False)
    (fun i s hi h2 => by
      have hi' : i < a.length := by omega
      have hs := sumL_take L a hi'
      have hr := (hm (a.getD i default) (k + sumL L (a.take i)) (by omega) (by omega)).2
      rw [← h4 i hi', ← h2] at hr
      refine .inl ⟨h (xs.getD i default) s, ?_, ?_⟩
      · have := hsh xs k s (i : Int) (by omega) (by omega) (by rw [Int.toNat_natCast, hr]; omega)
        rw [Int.toNat_natCast] at this
        exact this
      · rw [hr, sumL_take_next L a hi']; omega)
    (fun s _ => hsd xs k s) xs.length 0 k (by omega) (by simp [sumL_nil]) (xs.length + 1) (Nat.lt_succ_self _)
  rcases h5 with ⟨k2, h5, h6⟩ | ⟨_, _, h5⟩
  case inr => exact h5.elim
  have h5 : runL (sh xs k) (xs.length + 1) (k, 0) = .done (k2, (xs.length : Int)) := h5
  rw [hH, n0, h5]
  show k2 = _
  rw [h6, List.take_of_length_le (by omega)]
theorem sz_loop {α : Type} [Inhabited α] (sz : α → Int → Int) (P : α → Prop) (h : ∀ x l, 0 ≤ l → l ≤ 1048576 → 0 ≤ sz x l → P x ∧ sz x l ≤ l) (a : List α) (step : Int × Int → Lp (Int × Int) Int) (l0 : Int) (h0 : 0 ≤ l0) (h1 : l0 ≤ 1048576)
    (hs : ∀ l i, step (l, i) = bif (decide (i < (a.length : Int))) then (bif (decide (sz (a.getD (Int.toNat i) default) l < 0)) then (.ret (-1)) else (.next (sz (a.getD (Int.toNat i) default) l, i + 1))) else (.done (l, i)))
    (hr : 0 ≤ (runL step ((Int.toNat ((a.length : Int) - 0)) + 1) (l0, 0)).fin (fun r => r) (fun s => s.1)) :
    (∀ k, k < a.length → P (a.getD k default)) ∧ (runL step ((Int.toNat ((a.length : Int) - 0)) + 1) (l0, 0)).fin (fun r => r) (fun s => s.1) ≤ l0 := by
  rw [n0] at hr ⊢
  have hh := runL_rule (step := step) (fun (i : Nat) (l : Int) => (l, (i : Int))) a.length (fun i l => 0 ≤ l ∧ l ≤ l0 ∧ ∀ k, k < i → P (a.getD k default)) (fun r => r = -1)
    (fun i l hi ⟨g1, g2, g3⟩ => by
      by_cases hx : sz (a.getD i default) l < 0
      · refine .inr ⟨-1, ?_, rfl⟩
        rw [hs, ltD hi, Int.toNat_natCast, decide_eq_true hx]; rfl
      · refine .inl ⟨sz (a.getD i default) l, ?_, by omega, ?_, fun k hk => ?_⟩
        · rw [hs, ltD hi, Int.toNat_natCast, decide_eq_false hx]; rfl
        · have := (h (a.getD i default) l g1 (by omega) (by omega)).2; omega
        · rcases Nat.lt_succ_iff_lt_or_eq.1 hk with hk | rfl
          · exact g3 k hk
          · exact (h _ l g1 (by omega) (by omega)).1)
    (fun l _ => by rw [hs, geD]; rfl) a.length 0 l0 (by omega) ⟨h0, Int.le_refl _, fun k hk => by omega⟩ (a.length + 1) (Nat.lt_succ_self _)
  rcases hh with ⟨l, hh, g1, g2, g3⟩ | ⟨r, hh, rfl⟩
  · have hh : runL step (a.length + 1) (l0, 0) = .done (l, (a.length : Int)) := hh
    rw [hh]
    exact ⟨g3, g2⟩
  · have hh : runL step (a.length + 1) (l0, 0) = .ret (-1) := hh
    rw [hh] at hr
    exact absurd hr (by decide)
theorem wrap_of {n : Int} (h1 : -9223372036854775808 ≤ n) (h2 : n ≤ 9223372036854775807) : IntKind.i64.wrap n = n := wrap_in h1 h2
theorem neg_lt {k : Int} (h : 0 ≤ k) : decide (k < 0) = false := by simp; omega
theorem hs_step {c : Bool} {v : Int} (h : 0 ≤ bif c then -1 else v) : c = false ∧ 0 ≤ v := by
  cases c
  · exact ⟨rfl, h⟩
  · have h : (0 : Int) ≤ -1 := h
    omega
theorem neI (a b : Int) : (a != b) = !decide (a = b) := by
  by_cases h : a = b <;> simp [h]
theorem neB (a b : Bool) : (!(a == b)) = !decide (a = b) := by
  cases a <;> cases b <;> rfl
theorem eqstep (p r : Bool) : (bif (!p) then false else r) = (p && r) := by cases p <;> rfl
theorem bandd (p q : Bool) : (bif p then q else false) = (p && q) := by cases p <;> rfl
theorem bord (p q : Bool) : (bif p then true else q) = (p || q) := by cases p <;> rfl
theorem geleD (a b : Int) : decide (a ≥ b) = decide (b ≤ a) := rfl
theorem gtltD (a b : Int) : decide (a > b) = decide (b < a) := rfl
theorem byteToList (a : ByteArray) : a.toList = a.data.toList := ByteArray.toList_eq a
theorem byte_inj {a b : ByteArray} (h : a.toList = b.toList) : a = b := by
  rw [byteToList, byteToList] at h
  cases a; cases b
  simp only [ByteArray.mk.injEq]
  exact Array.ext' h
theorem neS (a b : ByteArray) : (!(a.toList == b.toList)) = !decide (a = b) := by
  by_cases h : a = b
  · simp [h]
  · have : ¬ a.toList = b.toList := fun e => h (byte_inj e)
    simp [h, this]
end Go.Proofs.Ytmiolofjlfnohaa
namespace Go.Proofs.Ytmiolofjlfnohaa
open Go.RowKit
def first (p : Nat → Bool) (n : Nat) : Option Nat := (List.range n).find? p
theorem first_some {p : Nat → Bool} {n k : Nat} : first p n = some k ↔ k < n ∧ p k = true ∧ ∀ j, j < k → p j = false := by
  unfold first
  rw [List.find?_range_eq_some]
  constructor
  · rintro ⟨h1, h2, h3⟩
    exact ⟨by simpa using h2, h1, fun j hj => by simpa using h3 j hj⟩
  · rintro ⟨h1, h2, h3⟩
    exact ⟨h2, by simpa using h1, fun j hj => by simpa using h3 j hj⟩
theorem first_none {p : Nat → Bool} {n : Nat} : first p n = none ↔ ∀ k, k < n → p k = false := by
  unfold first
  rw [List.find?_range_eq_none]
  simp
theorem first_congr {p q : Nat → Bool} {n : Nat} (h : ∀ k, k < n → p k = q k) : first p n = first q n := by
  cases e : first q n with
  | none =>
    rw [first_none] at *
    exact fun k hk => (h k hk).trans (e k hk)
  | some k =>
    rw [first_some] at *
    exact ⟨e.1, (h k e.1).trans e.2.1, fun j hj => (h j (by omega)).trans (e.2.2 j hj)⟩
theorem search {ρ τ : Type} (p : Nat → Bool) (r : Nat → ρ) (n : Nat) (step : Int → Lp Int ρ) (hs : ∀ k : Nat, k < n → step (k : Int) = bif p k then .ret (r k) else .next ((k : Int) + 1)) (he : step (n : Int) = .done (n : Int)) (f : ρ → τ) (g : Int → τ) :
    (runL step ((Int.toNat ((n : Int) - 0)) + 1) 0).fin f g = match first p n with | some k => f (r k) | none => g n := by
  have h := runL_rule (step := step) (fun (k : Nat) (_ : Unit) => (k : Int)) n (fun k _ => ∀ j, j < k → p j = false) (fun x => ∃ k, first p n = some k ∧ x = r k)
    (fun k _ hk hI => by
      cases hp : p k with
      | false =>
        refine .inl ⟨(), by rw [hs k hk, hp]; rfl, fun j hj => ?_⟩
        rcases Nat.lt_succ_iff_lt_or_eq.1 hj with h | rfl
        · exact hI j h
        · exact hp
      | true => exact .inr ⟨r k, by rw [hs k hk, hp]; rfl, k, first_some.2 ⟨hk, hp, hI⟩, rfl⟩)
    (fun _ _ => he) n 0 () (by omega) (fun j hj => by omega) (n + 1) (Nat.lt_succ_self _)
  rw [n0]
  rcases h with ⟨_, h, hI⟩ | ⟨x, h, k, hk, rfl⟩
  · have h : runL step (n + 1) 0 = .done (n : Int) := h
    rw [h, first_none.2 hI]; rfl
  · have h : runL step (n + 1) 0 = .ret (r k) := h
    rw [h, hk]; rfl
theorem allB (p : Nat → Bool) (n : Nat) (step : Int → Lp Int Bool) (hs : ∀ k : Nat, k < n → step (k : Int) = bif p k then .ret false else .next ((k : Int) + 1)) (he : step (n : Int) = .done (n : Int)) (g : Int → Bool) :
    (runL step ((Int.toNat ((n : Int) - 0)) + 1) 0).fin (fun r => r) g = ((first p n).isNone && g n) := by
  rw [search p (fun _ => false) n step hs he]
  all_goals (cases first p n <;> rfl)
theorem allB_iff {p : Nat → Bool} {n : Nat} : (first p n).isNone = true ↔ ∀ k, k < n → p k = false := by
  rw [Option.isNone_iff_eq_none, first_none]
theorem runL_congr {τ ρ : Type} {step step' : τ → Lp τ ρ} (I : τ → Prop) (h1 : ∀ s, I s → step s = step' s) (h2 : ∀ s s', I s → step s = .next s' → I s') : ∀ (m : Nat) (s : τ), I s → runL step m s = runL step' m s
  | 0, _, _ => rfl
  | m + 1, s, hs => by
    simp only [runL]
    rw [← h1 s hs]
    cases e : step s with
    | next s' => exact runL_congr I h1 h2 m s' (h2 s s' hs e)
    | done s' => rfl
    | ret r => rfl
def forS {σ ρ : Type} (body : Nat → σ → Lp σ ρ) : Nat → Nat → σ → Lp σ ρ
  | 0, _, s => .done s
  | m + 1, k, s => match body k s with
    | .next s' => forS body m (k + 1) s'
    | .done s' => .done s'
    | .ret r => .ret r
theorem app_loop {α β ρ : Type} [Inhabited α] (f : α → β) (a : List α) (init : List β) (step : Int × List β → Lp (Int × List β) ρ)
    (hs : ∀ (k : Nat) xs, k < a.length → step ((k : Int), xs) = .next ((k : Int) + 1, xs ++ [f (a.getD k default)])) (he : ∀ xs, step ((a.length : Int), xs) = .done ((a.length : Int), xs)) :
    runL step ((Int.toNat ((a.length : Int) - 0)) + 1) (0, init) = .done ((a.length : Int), init ++ a.map f) := by
  have h := runL_rule (step := step) (fun (k : Nat) (s : List β) => ((k : Int), s)) a.length (fun k s => s = init ++ (a.take k).map f) (fun _ => False)
    (fun k s hk hI => .inl ⟨s ++ [f (a.getD k default)], hs k s hk, by rw [hI, take_next hk, List.map_append, List.append_assoc]; rfl⟩)
    (fun s _ => he s) a.length 0 init (by omega) (by simp) (a.length + 1) (Nat.lt_succ_self _)
  rw [n0]
  rcases h with ⟨s', h, hI⟩ | ⟨_, _, h⟩
  · rw [List.take_length] at hI
    rw [← hI]; exact h
  · exact h.elim
def oix : Option Nat → Int
  | some k => (k : Int)
  | none => -1
theorem oix_lt {p : Nat → Bool} {n : Nat} : oix (first p n) < (n : Int) := by
  cases h : first p n with
  | none => simp only [oix]; omega
  | some k => have := (first_some.1 h).1; simp only [oix]; omega
theorem oix_ge (o : Option Nat) : -1 ≤ oix o := by cases o <;> simp only [oix] <;> omega
theorem oix_neg {o : Option Nat} : oix o < 0 ↔ o = none := by
  cases o with
  | none => simp [oix]
  | some k => simp [oix]
theorem oix_some {o : Option Nat} (h : ¬ oix o < 0) : o = some (oix o).toNat := by
  cases o with
  | none => exact absurd (by decide) h
  | some k => simp [oix]
def idxI {α : Type} [Inhabited α] (p : α → Bool) (xs : List α) : Int := oix (first (fun k => p (xs.getD k default)) xs.length)
theorem idx_loop {α : Type} [Inhabited α] (p : α → Bool) (xs : List α) (step : Int → Lp Int Int)
    (hs : ∀ i, step i = bif decide (i < (xs.length : Int)) then (bif p (xs.getD (Int.toNat i) default) then .ret i else .next (i + 1)) else .done i) :
    (runL step ((Int.toNat ((xs.length : Int) - 0)) + 1) 0).fin (fun r => r) (fun _ => -1) = idxI p xs := by
  rw [search (fun k => p (xs.getD k default)) (fun k => (k : Int)) xs.length step (fun k hk => by rw [hs, ltD hk, nn]; rfl) (by rw [hs, geD]; rfl)]
  unfold idxI
  all_goals (cases first (fun k => p (xs.getD k default)) xs.length <;> rfl)
theorem any_idx {α : Type} [Inhabited α] (p : α → Bool) (xs : List α) : decide (idxI p xs ≥ 0) = xs.any p := by
  rw [Bool.eq_iff_iff, decide_eq_true_eq, List.any_eq_true]
  constructor
  · intro h
    have h' : ¬ idxI p xs < 0 := by omega
    have h2 := first_some.1 (oix_some h')
    exact ⟨_, getD_mem xs h2.1, h2.2.1⟩
  · rintro ⟨x, hx, hp⟩
    obtain ⟨k, hk, rfl⟩ := mem_getD hx
    rcases Int.lt_or_le (idxI p xs) 0 with h | h
    · have := first_none.1 (oix_neg.1 h) k hk
      simp only [hp] at this
      cases this
    · exact h
theorem mem_idx {α : Type} [Inhabited α] [DecidableEq α] (v : α) (xs : List α) : xs.any (fun y => decide (v = y)) = decide (v ∈ xs) := by
  rw [Bool.eq_iff_iff, List.any_eq_true, decide_eq_true_eq]
  constructor
  · rintro ⟨x, hx, h⟩
    rw [of_decide_eq_true h]; exact hx
  · exact fun h => ⟨v, h, by simp⟩
theorem idxI_lt {α : Type} [Inhabited α] (p : α → Bool) (xs : List α) : idxI p xs < (xs.length : Int) := oix_lt
theorem idxI_ge {α : Type} [Inhabited α] (p : α → Bool) (xs : List α) : -1 ≤ idxI p xs := oix_ge _
theorem beqD (a b : Int) : (a == b) = decide (a = b) := by
  by_cases h : a = b <;> simp [h]
theorem toNat_pred (k : Nat) : Int.toNat ((k : Int) - 1) = k - 1 := by omega
theorem pos_cast (k : Nat) : decide ((k : Int) > 0) = decide (0 < k) := by simp
theorem ret_or {ρ : Type} (a b : Bool) (r : ρ) (s : Int) : (bif a then (Lp.ret r : Lp Int ρ) else bif b then .ret r else .next s) = bif (a || b) then .ret r else .next s := by cases a <;> rfl
theorem set_take_next {α : Type} (xs : List α) {i : Nat} (a : α) (h : i < xs.length) : (xs.set i a).take (i + 1) = xs.take i ++ [a] := by
  rw [List.take_add_one, List.take_set_of_le (Nat.le_refl _), List.getElem?_set_self h]; rfl
theorem filter_take_next {α : Type} [Inhabited α] (p : α → Bool) (s : List α) {k : Nat} (h : k < s.length) : (s.take (k + 1)).filter p = (s.take k).filter p ++ (if p (s.getD k default) then [s.getD k default] else []) := by
  rw [take_next h, List.filter_append]
  congr 1
  simp only [List.filter_cons, List.filter_nil]
theorem del_loop {α : Type} [Inhabited α] (del : α → Bool) (s : List α) (z : α) (step : Int × Int × List α → Lp (Int × Int × List α) (List α))
    (hs : ∀ i j xs, step (i, j, xs) = bif decide (j < (xs.length : Int)) then (bif (!(del (xs.getD (Int.toNat j) default))) then .next (i + 1, j + 1, xs.set (Int.toNat i) (xs.getD (Int.toNat j) default)) else .next (i, j + 1, xs)) else .done (i, j, xs)) :
    (bif (idxI del s == (-1)) then s else (((runL step ((Int.toNat ((s.length : Int) - (idxI del s + 1))) + 1) (idxI del s, idxI del s + 1, s)).fin Lp.ret (fun x => (Lp.done (x.2.2, x.1) : Lp (List α × Int) (List α)))).fin (fun r => r) (fun x => ((x.1.take (Int.toNat x.2) ++ List.replicate (x.1.drop (Int.toNat x.2)).length z ++ x.1.drop (Int.toNat x.2 + (x.1.drop (Int.toNat x.2)).length)).take (Int.toNat x.2))))) = s.filter (fun x => !(del x)) := by
  unfold idxI
  cases e : first (fun k => del (s.getD k default)) s.length with
  | none =>
    have hn := first_none.1 e
    have e1 : (oix (none : Option Nat) == (-1 : Int)) = true := rfl
    rw [e1, cond_true]
    symm
    refine List.filter_eq_self.2 fun x hx => ?_
    obtain ⟨k, hk, rfl⟩ := mem_getD hx
    simpa using hn k hk
  | some k0 =>
    obtain ⟨h1, h2, h3⟩ := first_some.1 e
    have e1 : (oix (some k0) == (-1 : Int)) = false := by rw [beqD]; exact decide_eq_false (by simp only [oix]; omega)
    rw [e1, cond_false]
    simp only [oix]
    have hpre : (s.take (k0 + 1)).filter (fun x => !(del x)) = s.take k0 := by
      rw [filter_take_next _ _ h1]
      simp only [h2, Bool.not_true, Bool.false_eq_true, if_false, List.append_nil]
      refine List.filter_eq_self.2 fun x hx => ?_
      obtain ⟨k, hk, rfl⟩ := List.mem_iff_getElem.1 hx
      have hk' : k < k0 := by simp at hk; omega
      have := h3 k hk'
      rw [getD_lt s (by omega)] at this
      simpa using this
    have h := runL_rule (step := step) (fun (k : Nat) (x : Nat × List α) => ((x.1 : Int), (k : Int), x.2)) s.length
      (fun k x => x.1 < k ∧ x.2.length = s.length ∧ x.2.take x.1 = (s.take k).filter (fun x => !(del x)) ∧ ∀ m, k ≤ m → x.2.getD m default = s.getD m default) (fun _ => False)
      (fun k x hk ⟨g1, g2, g3, g4⟩ => by
        obtain ⟨i, xs⟩ := x
        simp only at g1 g2 g3 g4
        have hx := g4 k (Nat.le_refl _)
        cases hd : del (s.getD k default) with
        | false =>
          refine .inl ⟨(i + 1, xs.set i (s.getD k default)), ?_, by simp only; omega, by simp [g2], ?_, fun m hm => ?_⟩
          · rw [hs, g2, ltD hk, nn, hx, hd]
            simp only [cond_true, Bool.not_false, nn]
            rfl
          · simp only
            rw [set_take_next xs _ (by omega), g3, filter_take_next _ _ hk, hd]
            rfl
          · simp only
            rw [List.getD_eq_getElem?_getD, List.getElem?_set_ne (by omega), ← List.getD_eq_getElem?_getD]
            exact g4 m (by omega)
        | true =>
          refine .inl ⟨(i, xs), ?_, by simp only; omega, g2, ?_, fun m hm => g4 m (by omega)⟩
          · rw [hs, g2, ltD hk, nn, hx, hd]
            simp only [cond_true, Bool.not_true, cond_false]
            rfl
          · simp only
            rw [g3, filter_take_next _ _ hk, hd]
            simp)
      (fun x ⟨_, g2, _, _⟩ => by rw [hs, g2, geD]; rfl) (s.length - (k0 + 1)) (k0 + 1) (k0, s) (by omega) ⟨Nat.lt_succ_self _, rfl, hpre.symm, fun _ _ => rfl⟩ (s.length - (k0 + 1) + 1) (Nat.lt_succ_self _)
    have ef : Int.toNat ((s.length : Int) - ((k0 : Int) + 1)) = s.length - (k0 + 1) := by omega
    rw [ef]
    rcases h with ⟨⟨i, xs⟩, h, g1, g2, g3, g4⟩ | ⟨_, _, h⟩
    · have h : runL step (s.length - (k0 + 1) + 1) ((k0 : Int), (k0 : Int) + 1, s) = .done ((i : Int), (s.length : Int), xs) := h
      simp only at g1 g2 g3
      rw [h]
      simp only [Lp.fin, nn]
      rw [List.take_length] at g3
      rw [← g3, List.append_assoc, List.take_append_of_le_length (by simp; omega), List.take_take, Nat.min_self]
    · exact h.elim
end Go.Proofs.Ytmiolofjlfnohaa
namespace Go.Proofs.Ytmiolofjlfnohaa
open Go.RowKit
set_option linter.unusedVariables false
set_option linter.unusedSimpArgs false
def datV : Dat → Value
  | .v x => x
  | _ => default
def Plain {α : Type} (k : Nat) (e : α → List Dat) : Prop := ∀ x, (e x).length = k ∧ ∀ d ∈ e x, ∃ v, d = .v v ∧ v.oneCell' = true
def encV {α : Type} (e : α → List Dat) (x : α) : List Value := (e x).map datV
theorem Plain.len {α : Type} {k : Nat} {e : α → List Dat} (h : Plain k e) (x : α) : (encV e x).length = k := by rw [encV, List.length_map, (h x).1]
theorem Plain.one {α : Type} {k : Nat} {e : α → List Dat} (h : Plain k e) (x : α) : ∀ v ∈ encV e x, v.oneCell' = true := fun v hv => by
  obtain ⟨d, hd, rfl⟩ := List.mem_map.1 hv
  obtain ⟨v, rfl, h1⟩ := (h x).2 d hd
  exact h1
theorem rd_plain {S : Nat → Prop} {w : World} : ∀ {ds : List Dat} {vs : List Value}, (∀ d ∈ ds, ∃ v, d = .v v ∧ v.oneCell' = true) → (RdVs S w ds vs ↔ vs = ds.map datV)
  | [], vs, _ => ⟨fun h => h, fun h => h⟩
  | d :: ds, vs, h => by
    obtain ⟨v, rfl, hv⟩ := h d List.mem_cons_self
    have ih := fun us => rd_plain (S := S) (w := w) (ds := ds) (vs := us) fun d hd => h d (List.mem_cons_of_mem _ hd)
    constructor
    · rintro ⟨u, us, rfl, ⟨rfl, _⟩, h2⟩
      rw [(ih us).1 h2]; rfl
    · rintro rfl
      exact ⟨v, _, rfl, ⟨rfl, hv⟩, (ih _).2 rfl⟩
theorem ow_plain {w : World} : ∀ {ds : List Dat} {vs : List Value} {fp : List Nat}, (∀ d ∈ ds, ∃ v, d = .v v ∧ v.oneCell' = true) → (OwVs w ds vs fp ↔ vs = ds.map datV ∧ fp = [])
  | [], vs, fp, _ => ⟨fun h => h, fun h => h⟩
  | d :: ds, vs, fp, h => by
    obtain ⟨v, rfl, hv⟩ := h d List.mem_cons_self
    have ih := fun us f => ow_plain (w := w) (ds := ds) (vs := us) (fp := f) fun d hd => h d (List.mem_cons_of_mem _ hd)
    constructor
    · rintro ⟨u, us, f, g, rfl, ⟨rfl, _, rfl⟩, h2, rfl, _⟩
      obtain ⟨e1, e2⟩ := (ih us _).1 h2
      rw [e1, e2]; exact ⟨rfl, rfl⟩
    · rintro ⟨rfl, rfl⟩
      exact ⟨v, _, [], [], rfl, ⟨rfl, hv, rfl⟩, (ih _ _).2 ⟨rfl, rfl⟩, rfl, List.nodup_nil⟩
end Go.Proofs.Ytmiolofjlfnohaa
namespace Go.Proofs.Ytmiolofjlfnohaa
open Go.RowKit Go.Shelf Go.Sort
set_option linter.unusedVariables false
set_option linter.unusedSimpArgs false
structure SortPre {α : Type} (cf : α → α → Int) (xs : List α) : Prop where
  irr : ∀ x ∈ xs, ¬ cf x x < 0
  tr : ∀ x ∈ xs, ∀ y ∈ xs, ∀ z ∈ xs, cf x y < 0 → cf y z < 0 → cf x z < 0
  ntr : ∀ x ∈ xs, ∀ y ∈ xs, ∀ z ∈ xs, ¬ cf x y < 0 → ¬ cf y z < 0 → ¬ cf x z < 0
  tot : ∀ x ∈ xs, ∀ y ∈ xs, ¬ cf x y < 0 → ¬ cf y x < 0 → x = y
def sortLe {α : Type} (cf : α → α → Int) (x y : α) : Bool := !decide (cf y x < 0)
def sortL {α : Type} (cf : α → α → Int) (xs : List α) : List α := xs.mergeSort (sortLe cf)
theorem sortL_perm {α : Type} (cf : α → α → Int) (xs : List α) : (sortL cf xs).Perm xs := List.mergeSort_perm _ _
theorem sortL_len {α : Type} (cf : α → α → Int) (xs : List α) : (sortL cf xs).length = xs.length := (sortL_perm cf xs).length_eq
theorem sortL_unique {α : Type} [Inhabited α] {cf : α → α → Int} {xs ys : List α} (h : SortPre cf xs) (hp : ys.Perm xs) (hs : ys.Pairwise fun x y => ¬ cf y x < 0) : ys = sortL cf xs := by
  have hm : (sortL cf xs).Pairwise fun x y => ¬ cf y x < 0 := by
    let β := {x // x ∈ xs}
    let le : β → β → Bool := fun x y => sortLe cf x.1 y.1
    have h1 := List.pairwise_mergeSort (le := le) (fun a b c hab hbc => by
        simp only [le, sortLe, Bool.not_eq_true', decide_eq_false_iff_not] at *
        exact h.ntr _ c.2 _ b.2 _ a.2 hbc hab) (fun a b => by
        simp only [le, sortLe, Bool.or_eq_true, Bool.not_eq_true', decide_eq_false_iff_not]
        by_cases hc : cf b.1 a.1 < 0
        · right
          intro hd
          exact h.irr _ a.2 (h.tr _ a.2 _ b.2 _ a.2 hd hc)
        · exact .inl hc) xs.attach
    have h2 : (xs.attach.mergeSort le).map (·.1) = sortL cf xs := by
      unfold sortL
      rw [List.map_mergeSort (s := sortLe cf) (fun a _ b _ => rfl)]
      congr 1
      exact List.attach_map_subtype_val xs
    rw [← h2, List.pairwise_map]
    refine h1.imp fun {a b} hab => ?_
    simp only [le, sortLe, Bool.not_eq_true', decide_eq_false_iff_not] at hab
    exact hab
  exact List.Perm.eq_of_pairwise (le := fun x y => ¬ cf y x < 0) (fun a b ha hb h1 h2 => h.tot _ (hp.subset ha) _ ((sortL_perm cf xs).subset hb) h2 h1) hs hm (hp.trans (sortL_perm cf xs).symm)
theorem Bel.grow {w w' : World} (h : Bel w.heap.size w w') : ∃ q os, w' = grow (w.drewN q) os := by
  refine ⟨w'.drawn - w.drawn, w'.heap.extract w.heap.size w'.heap.size, ?_⟩
  have hh : w'.heap = w.heap ++ w'.heap.extract w.heap.size w'.heap.size := by
    refine Array.ext_getElem? fun i => ?_
    rw [Array.getElem?_append]
    by_cases hi : i < w.heap.size
    · rw [if_pos hi, h.block i hi]
    · rw [if_neg hi, Array.getElem?_extract]
      by_cases h2 : i < w'.heap.size
      · rw [if_pos (by omega)]; congr 1; omega
      · rw [if_neg (by omega), Array.getElem?_eq_none (by omega)]
  have hd := h.drawn
  cases w with
  | mk heap tape drawn os output =>
    cases w' with
    | mk heap' tape' drawn' os' output' =>
      obtain ⟨⟨h1, h2, h3, _, _⟩, _⟩ := h
      simp only at h1 h2 h3 hh hd
      subst h1 h2 h3
      show _ = World.mk _ _ _ _ _
      simp only [grow, World.drewN]
      rw [← hh]
      congr 1
      omega
theorem sort_ok {P : Program} {ρ : Go.Shelf.Ren} (L : SlLaysF0.n6 P ρ) {k : Nat} (aE : ∀ w, (isAgg (ρ.t 24)).run P w = .ok true w) (zE : ∀ w, (Go.sizeOf (ρ.t 24)).run P w = .ok k w) {α : Type} [Inhabited α] (e : α → List Dat) (he : Plain k e)
    (cf : α → α → Int) (xs : List α) : Spec.ok P (ρ.f 6) ⟨[.ow (.l k e xs) (some (.l k e (sortL cf xs))), .fn ⟨α × α, fun i => [.g (e i.1), .g (e i.2)], fun i => .int .i64 (cf i.1 i.2)⟩], .tu [], SortPre cf xs ∧ xs.length ≤ 4000000000000000000⟩ := by
  intro ⟨hp, hl⟩ S w vs fp hS hA
  obtain ⟨u, us, f, g, rfl, hO, ⟨u2, us2, f2, g2, rfl, ⟨hF, rfl⟩, ⟨rfl, rfl⟩, rfl, _⟩, rfl, hnd⟩ := hA
  simp only [List.append_nil] at hnd hS ⊢
  obtain ⟨a, c, rfl, hc, h63, hO⟩ := hO
  obtain ⟨gf, cap, rfl, hcal, hF⟩ := hF
  by_cases hx : xs = []
  · subst hx
    refine (AnyF.slices_SortFunc_none L a c _ w).mono fun e' w' ⟨h1, h2⟩ => ⟨_, [], f, h1, ⟨[], rfl, rfl, rfl⟩, ⟨_, _, f, [], rfl, ?_, ⟨_, _, [], [], rfl, rfl, rfl, rfl⟩, by simp⟩, by simpa using hnd, fun b hb => ?_, ?_⟩
    · subst h2
      have : sortL cf [] = ([] : List α) := List.eq_nil_of_length_eq_zero (by rw [sortL_len]; rfl)
      show OwV w' (.l k e (sortL cf [])) _ f
      rw [this]; exact ⟨a, c, rfl, hc, h63, hO⟩
    · subst h2
      have hb : b ∈ f := by simpa using hb
      refine ⟨?_, .inl hb⟩
      exact OwV.lt (.l k e ([] : List α)) _ f ⟨a, c, rfl, hc, h63, hO⟩ b hb
    · subst h2; exact Chg.of_below (Bel.refl _ _)
  rcases hO with ⟨_, rfl, _⟩ | ⟨b, o, T, cells, fps, rfl, hbox, hlen, hfl, hel, rfl, hnd'⟩
  · exact absurd rfl hx
  let β := {x // x ∈ xs}
  have : Inhabited β := ⟨⟨xs.head hx, List.head_mem hx⟩⟩
  let d : Array β := xs.attach.toArray
  have hds : d.size = xs.length := by simp only [d, List.size_toArray]; exact List.length_attach
  have hdi : ∀ i (hi : i < xs.length), d[i]!.1 = xs[i] := fun i hi => by
    rw [getElem!_pos d i (by omega)]; simp only [d, List.getElem_toArray]; exact congrArg Subtype.val (List.getElem_attach _)
  let enc' : β → List Value := fun x => encV e x.1
  let cf' : β → β → Int := fun x y => cf x.1 y.1
  have hlen' : ∀ i, i < xs.length → o + i * k + k ≤ cells.length := fun i hi => by
    rw [hlen, Nat.add_assoc, ← Nat.succ_mul]
    exact Nat.add_le_add_left (Nat.mul_le_mul_right _ (by omega)) _
  have hchunk : ∀ i (hi : i < xs.length), (cells.drop (o + i * k)).take k = encV e xs[i] := fun i hi => by
    have := hel i xs[i] (fps[i]'(by omega)) (List.getElem?_eq_getElem hi) (List.getElem?_eq_getElem _)
    exact ((ow_plain (he _).2).1 this.2).1
  have hk0 : 0 < k ∨ k = 0 := by omega
  have hH : HoldsK enc' k w b o d := by
    intro j hj
    rw [size_flatK, hds] at hj
    have kp : 0 < k := by rcases hk0 with h | h; exact h; subst h; simp at hj
    have hq : j / k < xs.length := Nat.div_lt_of_lt_mul (by rw [Nat.mul_comm]; exact hj)
    have hr : j % k < k := Nat.mod_lt _ kp
    have hjk : o + j / k * k + j % k = o + j := by rw [Nat.add_assoc, Nat.div_add_mod' j k]
    have hcell : cells[o + j]? = some ((encV e xs[j / k])[j % k]'(by rw [he.len]; exact hr)) := by
      rw [← hjk]
      have := congrArg (fun l : List Value => l[j % k]?) (hchunk _ hq)
      simp only [List.getElem?_take, hr, if_true, List.getElem?_drop] at this
      rw [this, List.getElem?_eq_getElem]
    refine ⟨?_, ?_⟩
    · rw [get_flatK _ _ _ _ (by rw [hds]; exact hj)]
      have hb' : w.heap[b]? = some (.cells cells.toArray T (0, 0)) := hbox
      simp only [World.cell?, hb', id]
      simp only [Option.isSome_none, Bool.false_eq_true, if_false, List.getElem?_toArray]
      rw [hcell]
      congr 1
      show _ = (encV e d[j / k]!.1)[j % k]!
      rw [hdi _ hq, getElem!_pos (encV e xs[j / k]) _ (by rw [he.len]; exact hr)]
    · have hb' : w.heap[b]? = some (.cells cells.toArray T (0, 0)) := hbox
      simp [World.frozen?, hb']
  have hsort : ∀ m os (dk : Array β), (∀ b', b' < w.heap.size → b' ≠ b → (sortWorldK enc' k w b o m dk os).heap[b']? = w.heap[b']?) ∧ w.heap.size ≤ (sortWorldK enc' k w b o m dk os).heap.size := by
    intro m os dk
    have hsz : ((putRowK enc' k (Sort.ahead w m) b o dk)).heap.size = w.heap.size := by simp [putRowK, putRow, mapBlock, Sort.ahead]
    refine ⟨fun b' hb' hne => ?_, ?_⟩
    · show ((putRowK enc' k (Sort.ahead w m) b o dk).heap ++ os)[b']? = _
      rw [Array.getElem?_append_left (by rw [hsz]; exact hb')]
      simp only [putRowK, putRow, mapBlock, Sort.ahead, Array.getElem?_modify]
      rw [if_neg (Ne.symm hne)]
    · show _ ≤ ((putRowK enc' k (Sort.ahead w m) b o dk).heap ++ os).size
      rw [Array.size_append, hsz]; omega
  have hcmp : CmpLays P gf cap enc' k cf' b o d.size w := by
    intro m os dk _ x y
    obtain ⟨s1, s2⟩ := hsort m os dk
    have := hF (x.1, y.1) (sortWorldK enc' k w b o m dk os) (fun _ => False) [.agg (enc' x).toArray, .agg (enc' y).toArray] (fun b' hb' => s1 b' (hS b' hb').1 fun e => (hS b' hb').2 (by rw [e]; exact List.mem_cons_self)) s2 (fun _ h => h.elim)
      ⟨_, _, rfl, ⟨_, rfl, (rd_plain (he _).2).2 rfl⟩, _, _, rfl, ⟨_, rfl, (rd_plain (he _).2).2 rfl⟩, rfl⟩
    exact this.mono fun e' w' ⟨h1, h2⟩ => ⟨h1, h2.grow⟩
  have hO' : SWO (ltOf cf') := by
    constructor
    · intro x; exact decide_eq_false (hp.irr _ x.2)
    · intro x y z h1 h2
      exact decide_eq_true (hp.tr _ x.2 _ y.2 _ z.2 (of_decide_eq_true h1) (of_decide_eq_true h2))
    · intro x y z h1 h2
      exact decide_eq_false (hp.ntr _ x.2 _ y.2 _ z.2 (of_decide_eq_false h1) (of_decide_eq_false h2))
  have hcall := AnyQ.slices_SortFunc L k aE zE enc' (fun x => he.len x.1) (fun x => he.one x.1) cf' hO' gf cap b o c d w (fun args w => callable_ok hcal args) hcmp hH hbox.lt (by rw [hds]; omega)
  rw [hds] at hcall
  refine hcall.mono fun e' w' ⟨h1, d', n, os, hP, hSo, hw'⟩ => ?_
  obtain ⟨hsz, _, hperm⟩ := hP
  have hsz' : d'.size = xs.length := by rw [hsz, hds]
  have hres : d'.toList.map (·.1) = sortL cf xs := by
    have e1 : d'.extract 0 xs.length = d' := by rw [← hsz']; exact Array.extract_size
    have e2 : d.extract 0 xs.length = d := by rw [← hds]; exact Array.extract_size
    rw [e1, e2] at hperm
    refine sortL_unique hp ?_ ?_
    · have := hperm.map (·.1)
      refine this.trans ?_
      show ((xs.attach.toArray).toList.map (·.1)).Perm xs
      rw [List.toList_toArray, List.attach_map_subtype_val]
    · rw [List.pairwise_map, List.pairwise_iff_getElem]
      intro i j hi hj hij
      have hi' : i < d'.size := by simpa using hi
      have hj' : j < d'.size := by simpa using hj
      have := hSo i j (Nat.zero_le _) hij (by rw [← hsz']; exact hj')
      rw [getElem!_pos d' i hi', getElem!_pos d' j hj'] at this
      simpa using of_decide_eq_false this
  obtain ⟨s1, s2⟩ := hsort n os d'
  rw [← hw'] at s1 s2
  let F' : Array Value := flatK enc' k d'
  let cells' : List Value := (putCells id o F' cells.toArray).toList
  have hcl : cells'.length = cells.length := by simp [cells', putCells]
  have hbox' : Box w' b T cells' := by
    show w'.heap[b]? = _
    rw [hw']
    show ((putRowK enc' k (Sort.ahead w n) b o d').heap ++ os)[b]? = _
    have hb' : w.heap[b]? = some (.cells cells.toArray T (0, 0)) := hbox
    rw [Array.getElem?_append_left (by simp only [putRowK, putRow, mapBlock, Sort.ahead, Array.size_modify]; exact hbox.lt)]
    simp only [putRowK, putRow, mapBlock, Sort.ahead, Array.getElem?_modify, if_true, hb', Option.map_some, onCells]
    simp [cells', F']
  have hchunk' : ∀ i (hi : i < xs.length), ((cells'.drop (o + i * k)).take k) = encV e (sortL cf xs)[i]! := by
    intro i hi
    have hh := hlen' i hi
    refine List.ext_getElem? fun j => ?_
    rw [List.getElem?_take]
    by_cases hj : j < k
    · rw [if_pos hj, List.getElem?_drop]
      have kp : 0 < k := by omega
      have hik : i * k + j < xs.length * k := by
        have := Nat.mul_le_mul_right k (show i + 1 ≤ xs.length from hi)
        rw [Nat.add_mul, Nat.one_mul] at this; omega
      have hc' : cells'[o + i * k + j]? = some (if o ≤ o + i * k + j ∧ o + i * k + j < o + F'.size then F'[o + i * k + j - o]! else cells.toArray[o + i * k + j]'(by simp; omega)) := by
        simp only [cells', putCells, Array.getElem?_toList, Array.getElem?_mapIdx, id]
        rw [Array.getElem?_eq_getElem (by simp; omega)]
        rfl
      rw [hc', if_pos ⟨by omega, by simp only [F', size_flatK]; rw [hsz']; omega⟩]
      have e1 : o + i * k + j - o = i * k + j := by omega
      rw [e1, get_flatK _ _ _ _ (by rw [hsz']; exact hik)]
      have e2 : (i * k + j) / k = i := by rw [Nat.mul_comm, Nat.mul_add_div kp, Nat.div_eq_of_lt hj, Nat.add_zero]
      have e3 : (i * k + j) % k = j := by rw [Nat.mul_comm, Nat.mul_add_mod, Nat.mod_eq_of_lt hj]
      rw [e2, e3]
      have e4 : d'[i]!.1 = (sortL cf xs)[i]! := by
        rw [← hres, getElem!_pos d' i (by omega), getElem!_pos (d'.toList.map (·.1)) i (by simp; omega)]
        simp
      show some ((encV e d'[i]!.1)[j]!) = _
      rw [e4, getElem!_pos (encV e _) j (by rw [he.len]; exact hj), List.getElem?_eq_getElem]
    · rw [if_neg hj, List.getElem?_eq_none (by rw [he.len]; omega)]
  refine ⟨_, [], b :: fps.flatten, h1, ⟨[], rfl, rfl, rfl⟩, ⟨_, _, b :: fps.flatten, [], rfl, ?_, ⟨_, _, [], [], rfl, rfl, rfl, rfl⟩, by simp⟩, by simpa using hnd', fun b' hb' => ?_, ?_⟩
  · have hflat : fps.flatten = [] := by
      rw [List.flatten_eq_nil_iff]
      intro f hf
      obtain ⟨i, hi, rfl⟩ := List.getElem_of_mem hf
      have := hel i (xs[i]'(by omega)) fps[i] (List.getElem?_eq_getElem _) (List.getElem?_eq_getElem hi)
      exact ((ow_plain (he _).2).1 this.2).2
    show OwV w' (.l k e (sortL cf xs)) _ _
    refine ⟨_, c, by rw [sortL_len], by rw [sortL_len]; exact hc, by rw [sortL_len]; exact h63, .inr ⟨b, o, T, cells', List.replicate xs.length [], rfl, hbox', by rw [hcl, hlen], by simp [sortL_len], fun i x f hx hf => ?_, by rw [hflat]; simp, hnd'⟩⟩
    have hi : i < xs.length := by have := (List.getElem?_eq_some_iff.1 hx).1; rwa [sortL_len] at this
    have hf' : f = [] := by
      rw [List.getElem?_replicate, if_pos hi] at hf
      exact (Option.some.inj hf).symm
    have hxe : (sortL cf xs)[i]! = x := by
      obtain ⟨h2, h3⟩ := List.getElem?_eq_some_iff.1 hx
      rw [getElem!_pos _ i h2]; exact h3
    rw [hchunk' i hi, hxe]
    exact ⟨he.len x, (ow_plain (he _).2).2 ⟨rfl, hf'⟩⟩
  · have hb2 : b' ∈ b :: fps.flatten := by simpa using hb'
    refine ⟨Nat.lt_of_lt_of_le ?_ s2, .inl hb2⟩
    rcases List.mem_cons.1 hb2 with rfl | h
    · exact hbox.lt
    · exact OwV.lt (.l k e xs) _ _ ⟨_, c, rfl, hc, h63, .inr ⟨b, o, T, cells, fps, rfl, hbox, hlen, hfl, hel, rfl, hnd'⟩⟩ b' (List.mem_cons_of_mem _ h)
  · refine ⟨by rw [hw']; rfl, by rw [hw']; rfl, by rw [hw']; rfl, s2, fun k' hk' hn => s1 k' hk' fun e => hn (by rw [e]; exact List.mem_cons_self), ?_⟩
    rw [hw']
    show w.drawn ≤ w.drawn + n
    omega
end Go.Proofs.Ytmiolofjlfnohaa
namespace Go.Proofs.Ytmiolofjlfnohaa
open Go.Shelf Go.RowKit
def lay114_ren : Go.Shelf.Ren := ⟨fun | 6 => 114 | 15 => 126 | 14 => 125 | 28 => 137 | 29 => 138 | 20 => 129 | 21 => 130 | 22 => 131 | 23 => 132 | 24 => 133 | 25 => 134 | 26 => 135 | 27 => 136 | 46 => 147 | 47 => 148 | 48 => 149 | 49 => 150 | 50 => 151 | 57 => 155 | n => n, fun | 22 => 51 | 24 => 68 | 25 => 136 | 3 => 3 | 39 => 147 | 0 => 0 | 53 => 159 | 55 => 161 | 4 => 4 | 46 => 152 | 45 => 151 | 50 => 156 | 5 => 5 | 9 => 9 | 66 => 167 | 70 => 171 | 76 => 175 | 77 => 97 | n => n, fun | n => n⟩
theorem lay114 : Go.Proofs.SlLaysF0.n6 Try.prog lay114_ren := {
  mixed := by kernel_rfl
  f6 := ⟨Try.f114.name, by decide, Try.func114.trans (congrArg some (by kernel_rfl))⟩
  f14 := ⟨Try.f125.name, by decide, Try.func125.trans (congrArg some (by kernel_rfl))⟩
  f15 := Try.func126.trans (congrArg some (by kernel_rfl))
  f20 := ⟨Try.f129.name, by decide, Try.func129.trans (congrArg some (by kernel_rfl))⟩
  f21 := ⟨Try.f130.name, by decide, Try.func130.trans (congrArg some (by kernel_rfl))⟩
  f22 := ⟨Try.f131.name, by decide, Try.func131.trans (congrArg some (by kernel_rfl))⟩
  f23 := ⟨Try.f132.name, by decide, Try.func132.trans (congrArg some (by kernel_rfl))⟩
  f24 := ⟨Try.f133.name, by decide, Try.func133.trans (congrArg some (by kernel_rfl))⟩
  f25 := ⟨Try.f134.name, by decide, Try.func134.trans (congrArg some (by kernel_rfl))⟩
  f26 := ⟨Try.f135.name, by decide, Try.func135.trans (congrArg some (by kernel_rfl))⟩
  f27 := ⟨Try.f136.name, by decide, Try.func136.trans (congrArg some (by kernel_rfl))⟩
  f28 := Try.func137.trans (congrArg some (by kernel_rfl))
  f29 := Try.func138.trans (congrArg some (by kernel_rfl))
  f46 := ⟨Try.f147.name, by decide, Try.func147.trans (congrArg some (by kernel_rfl))⟩
  f47 := Try.func148.trans (congrArg some (by kernel_rfl))
  f48 := Try.func149.trans (congrArg some (by kernel_rfl))
  f49 := ⟨Try.f150.name, by decide, Try.func150.trans (congrArg some (by kernel_rfl))⟩
  f50 := ⟨Try.f151.name, by decide, Try.func151.trans (congrArg some (by kernel_rfl))⟩
  f57 := ⟨Try.f155.name, by decide, Try.func155.trans (congrArg some (by kernel_rfl))⟩
  t0 := Try.underlying0
  a0 := Try.isAgg0
  z0 := Try.sizeOf0
  v0 := Try.zeroValue0
  t3 := Try.underlying3
  a3 := Try.isAgg3
  z3 := Try.sizeOf3
  v3 := Try.zeroValue3
  t4 := Try.underlying4
  a4 := Try.isAgg4
  z4 := Try.sizeOf4
  v4 := Try.zeroValue4
  t5 := Try.underlying5
  a5 := Try.isAgg5
  z5 := Try.sizeOf5
  v5 := Try.zeroValue5
  t9 := Try.underlying9
  a9 := Try.isAgg9
  z9 := Try.sizeOf9
  v9 := Try.zeroValue9
  t22 := Try.underlying51
  a22 := Try.isAgg51
  z22 := Try.sizeOf51
  v22 := Try.zeroValue51
  t25 := Try.underlying136
  a25 := Try.isAgg136
  z25 := Try.sizeOf136
  v25 := Try.zeroValue136
  t39 := Try.underlying147
  a39 := Try.isAgg147
  z39 := Try.sizeOf147
  v39 := Try.zeroValue147
  t45 := Try.underlying151
  a45 := Try.isAgg151
  z45 := Try.sizeOf151
  v45 := Try.zeroValue151
  t46 := Try.underlying152
  a46 := Try.isAgg152
  z46 := Try.sizeOf152
  v46 := Try.zeroValue152
  t50 := Try.underlying156
  a50 := Try.isAgg156
  z50 := Try.sizeOf156
  v50 := Try.zeroValue156
  t53 := Try.underlying159
  a53 := Try.isAgg159
  z53 := Try.sizeOf159
  v53 := Try.zeroValue159
  t55 := Try.underlying161
  a55 := Try.isAgg161
  z55 := Try.sizeOf161
  v55 := Try.zeroValue161
  t66 := Try.underlying167
  a66 := Try.isAgg167
  z66 := Try.sizeOf167
  v66 := Try.zeroValue167
  t70 := Try.underlying171
  a70 := Try.isAgg171
  z70 := Try.sizeOf171
  v70 := Try.zeroValue171
  t76 := Try.underlying175
  a76 := Try.isAgg175
  z76 := Try.sizeOf175
  v76 := Try.zeroValue175
  t77 := Try.underlying97
  a77 := Try.isAgg97
  z77 := Try.sizeOf97
  v77 := Try.zeroValue97 }
def lay116_ren : Go.Shelf.Ren := ⟨fun | 6 => 116 | 15 => 126 | 14 => 127 | 28 => 137 | 29 => 138 | 20 => 139 | 21 => 140 | 22 => 141 | 23 => 142 | 24 => 143 | 25 => 144 | 26 => 145 | 27 => 146 | 46 => 152 | 47 => 148 | 48 => 149 | 49 => 153 | 50 => 154 | 57 => 156 | n => n, fun | 22 => 52 | 24 => 95 | 25 => 138 | 3 => 3 | 39 => 147 | 0 => 0 | 53 => 159 | 55 => 161 | 4 => 4 | 46 => 152 | 45 => 151 | 50 => 156 | 5 => 5 | 9 => 9 | 66 => 167 | 70 => 171 | 76 => 175 | 77 => 97 | n => n, fun | n => n⟩
theorem lay116 : Go.Proofs.SlLaysF0.n6 Try.prog lay116_ren := {
  mixed := by kernel_rfl
  f6 := ⟨Try.f116.name, by decide, Try.func116.trans (congrArg some (by kernel_rfl))⟩
  f14 := ⟨Try.f127.name, by decide, Try.func127.trans (congrArg some (by kernel_rfl))⟩
  f15 := Try.func126.trans (congrArg some (by kernel_rfl))
  f20 := ⟨Try.f139.name, by decide, Try.func139.trans (congrArg some (by kernel_rfl))⟩
  f21 := ⟨Try.f140.name, by decide, Try.func140.trans (congrArg some (by kernel_rfl))⟩
  f22 := ⟨Try.f141.name, by decide, Try.func141.trans (congrArg some (by kernel_rfl))⟩
  f23 := ⟨Try.f142.name, by decide, Try.func142.trans (congrArg some (by kernel_rfl))⟩
  f24 := ⟨Try.f143.name, by decide, Try.func143.trans (congrArg some (by kernel_rfl))⟩
  f25 := ⟨Try.f144.name, by decide, Try.func144.trans (congrArg some (by kernel_rfl))⟩
  f26 := ⟨Try.f145.name, by decide, Try.func145.trans (congrArg some (by kernel_rfl))⟩
  f27 := ⟨Try.f146.name, by decide, Try.func146.trans (congrArg some (by kernel_rfl))⟩
  f28 := Try.func137.trans (congrArg some (by kernel_rfl))
  f29 := Try.func138.trans (congrArg some (by kernel_rfl))
  f46 := ⟨Try.f152.name, by decide, Try.func152.trans (congrArg some (by kernel_rfl))⟩
  f47 := Try.func148.trans (congrArg some (by kernel_rfl))
  f48 := Try.func149.trans (congrArg some (by kernel_rfl))
  f49 := ⟨Try.f153.name, by decide, Try.func153.trans (congrArg some (by kernel_rfl))⟩
  f50 := ⟨Try.f154.name, by decide, Try.func154.trans (congrArg some (by kernel_rfl))⟩
  f57 := ⟨Try.f156.name, by decide, Try.func156.trans (congrArg some (by kernel_rfl))⟩
  t0 := Try.underlying0
  a0 := Try.isAgg0
  z0 := Try.sizeOf0
  v0 := Try.zeroValue0
  t3 := Try.underlying3
  a3 := Try.isAgg3
  z3 := Try.sizeOf3
  v3 := Try.zeroValue3
  t4 := Try.underlying4
  a4 := Try.isAgg4
  z4 := Try.sizeOf4
  v4 := Try.zeroValue4
  t5 := Try.underlying5
  a5 := Try.isAgg5
  z5 := Try.sizeOf5
  v5 := Try.zeroValue5
  t9 := Try.underlying9
  a9 := Try.isAgg9
  z9 := Try.sizeOf9
  v9 := Try.zeroValue9
  t22 := Try.underlying52
  a22 := Try.isAgg52
  z22 := Try.sizeOf52
  v22 := Try.zeroValue52
  t25 := Try.underlying138
  a25 := Try.isAgg138
  z25 := Try.sizeOf138
  v25 := Try.zeroValue138
  t39 := Try.underlying147
  a39 := Try.isAgg147
  z39 := Try.sizeOf147
  v39 := Try.zeroValue147
  t45 := Try.underlying151
  a45 := Try.isAgg151
  z45 := Try.sizeOf151
  v45 := Try.zeroValue151
  t46 := Try.underlying152
  a46 := Try.isAgg152
  z46 := Try.sizeOf152
  v46 := Try.zeroValue152
  t50 := Try.underlying156
  a50 := Try.isAgg156
  z50 := Try.sizeOf156
  v50 := Try.zeroValue156
  t53 := Try.underlying159
  a53 := Try.isAgg159
  z53 := Try.sizeOf159
  v53 := Try.zeroValue159
  t55 := Try.underlying161
  a55 := Try.isAgg161
  z55 := Try.sizeOf161
  v55 := Try.zeroValue161
  t66 := Try.underlying167
  a66 := Try.isAgg167
  z66 := Try.sizeOf167
  v66 := Try.zeroValue167
  t70 := Try.underlying171
  a70 := Try.isAgg171
  z70 := Try.sizeOf171
  v70 := Try.zeroValue171
  t76 := Try.underlying175
  a76 := Try.isAgg175
  z76 := Try.sizeOf175
  v76 := Try.zeroValue175
  t77 := Try.underlying97
  a77 := Try.isAgg97
  z77 := Try.sizeOf97
  v77 := Try.zeroValue97 }
theorem lay114a : ∀ w, (isAgg (lay114_ren.t 24)).run Try.prog w = .ok true w := Try.isAgg68
theorem lay114z : ∀ w, (Go.sizeOf (lay114_ren.t 24)).run Try.prog w = .ok 3 w := Try.sizeOf68
theorem lay116a : ∀ w, (isAgg (lay116_ren.t 24)).run Try.prog w = .ok true w := Try.isAgg95
theorem lay116z : ∀ w, (Go.sizeOf (lay116_ren.t 24)).run Try.prog w = .ok 3 w := Try.sizeOf95
end Go.Proofs.Ytmiolofjlfnohaa
namespace Go.Proofs.Ytmiolofjlfnohaa
theorem ai {a b : Prop} (h : a) (k : b) : a ∧ b := ⟨h, k⟩
abbrev vI (x : Int) : Value := .int .i64 x
open Go.RowKit
set_option maxRecDepth 100000
set_option linter.unusedVariables false
set_option linter.unusedSimpArgs false
theorem mixed : Try.prog.follows .mixedOrders = true := Checked.mixed Try.checked
end Go.Proofs.Ytmiolofjlfnohaa
namespace Go.Proofs.Ytmiolofjlfnohaa
open Go.RowKit
set_option maxRecDepth 100000
set_option linter.unusedVariables false
set_option linter.unusedSimpArgs false
def F43 (n : Int) (low : Int) (high : Int) : Bool :=
  (bif decide (n ≥ low) then decide (n ≤ high) else false)
def S43 (R : Bool) (n : Int) (low : Int) (high : Int) : Spec := ⟨[.r (.c (.v (vI n))), .r (.c (.v (vI low))), .r (.c (.v (vI high)))], .v (.bool R), True⟩
theorem ok43 (n : Int) (low : Int) (high : Int) : (S43 (F43 n low high) n low high).ok Try.prog 43 :=
  fnG_ok mixed (fn := Try.f43) (ct := .seq (.no) (.seq (.no) (.no))) Try.func43 (fun (_ : True) => (fun hF : ((bif decide (n ≥ low) then decide (n ≤ high) else false) : Bool) = (F43 n low high) => ai (congrArg (fun r : Bool => (.bool r : Value)) hF) (trivial)) (rfl)) (by kernel_rfl)
theorem as43 (n : Int) (low : Int) (high : Int) : F43 n low high = (decide (low ≤ n ∧ n ≤ high)) := by
  simp only [F43, Bool.decide_and, bandd, geleD]
theorem oa43 (n : Int) (low : Int) (high : Int) : (S43 (decide (low ≤ n ∧ n ≤ high)) n low high).ok Try.prog 43 := by
  intro hp; have h := ok43 n low high hp; rw [as43 n low high] at h; exact h
structure LabLink where
  A : Int
  B : Int
  deriving DecidableEq, Inhabited
def eLabLink (x : LabLink) : List Dat := [.v (vI x.A), .v (vI x.B)]
structure LabRow where
  In : Int
  Next : Int
  Out : Int
  deriving DecidableEq, Inhabited
def eLabRow (x : LabRow) : List Dat := [.v (vI x.In), .v (vI x.Next), .v (vI x.Out)]
structure LabVia where
  To : Int
  Via : Int
  Push : Int
  deriving DecidableEq, Inhabited
def eLabVia (x : LabVia) : List Dat := [.v (vI x.To), .v (vI x.Via), .v (vI x.Push)]
structure LabBox where
  Rows : List LabRow
  Guards : List LabVia
  deriving DecidableEq, Inhabited
def eLabBox (x : LabBox) : List Dat := [.l 3 eLabRow x.Rows, .l 3 eLabVia x.Guards]
structure LabNet where
  Links : List LabLink
  Boxes : List LabBox
  deriving DecidableEq, Inhabited
def eLabNet (x : LabNet) : List Dat := [.l 2 eLabLink x.Links, .l 2 eLabBox x.Boxes]
def F48_s0 (n : LabNet) : Int → Lp Int Bool := fun i40 =>
  bif (decide (i40 < (n.Links.length : Int))) then (bif (bif (bif decide ((n.Links.getD (Int.toNat i40) default).A < 0) then true else decide ((n.Links.getD (Int.toNat i40) default).A ≥ (n.Links.getD (Int.toNat i40) default).B)) then true else decide ((n.Links.getD (Int.toNat i40) default).B ≥ (n.Boxes.length : Int))) then (.ret false) else (bif (bif decide (i40 > 0) then (bif decide ((n.Links.getD (Int.toNat (i40 - 1)) default).A > (n.Links.getD (Int.toNat i40) default).A) then true else (bif ((n.Links.getD (Int.toNat (i40 - 1)) default).A == (n.Links.getD (Int.toNat i40) default).A) then decide ((n.Links.getD (Int.toNat (i40 - 1)) default).B ≥ (n.Links.getD (Int.toNat i40) default).B) else false)) else false) then (.ret false) else (.next (i40 + 1)))) else (.done i40)
def F48 (n : LabNet) : Bool :=
  bif (bif (!(decide (1 ≤ (n.Boxes.length : Int) ∧ (n.Boxes.length : Int) ≤ 8))) then true else decide ((n.Links.length : Int) > 14)) then false else ((runL (F48_s0 n) ((Int.toNat ((n.Links.length : Int) - 0)) + 1) 0).fin (fun r => r) (fun i40 => true))
def S48 (n : LabNet) : Spec := ⟨[.r (.g (eLabNet n))], .v (.bool (F48 n)), True⟩
theorem ok48 (n : LabNet) : (S48 n).ok Try.prog 48 :=
  fnG_ok mixed (fn := Try.f48) (ct := .seq (.no) (.seq (.seq (.reg [(3, .call 43 (S43 (decide (1 ≤ (n.Boxes.length : Int) ∧ (n.Boxes.length : Int) ≤ 8)) (n.Boxes.length : Int) 1 8) (oa43 (n.Boxes.length : Int) 1 8) none)]) (.cond (.seq (.no) (.no)) (.no))) (.seq (.seqk [(1, 0), (1, 1)] (.no) (.blk (.loop (ι := Nat × Int) (fun i => (fun (i40 : Int) => (⟨[(1, some (.p 0 0)), (3, some (.v (vI i40)))], [(0, some (.box 26 [.h 1 0, .h 2 0])), (1, some (.shr none (.l 2 eLabLink n.Links))), (2, some (.shr none (.l 2 eLabBox n.Boxes)))], 3⟩ : St)) i.2) (fun i => runL (F48_s0 n) i.1 i.2 = (runL (F48_s0 n) ((Int.toNat ((n.Links.length : Int) - 0)) + 1) 0) ∧ (fun (i40 : Int) => (Int.toNat ((n.Links.length : Int) - i40) < i.1 ∧ (0 : Int) ≤ i40)) i.2) (fun i => i.1) (((Int.toNat ((n.Links.length : Int) - 0)) + 1), 0) (fun i => (fun (i40 : Int) => (.seq (.seq (.no) (.cond (.no) (.no))) (.seq (.blk (.seq (.no) (.seq (.seq (.no) (.cond (.seq (.no) (.no)) (.no))) (.seq (.reg [(6, .bnd), (17, .bnd), (28, .bnd)]) (.cond (.seq (.no) (.no)) (.no)))))) (.reg [(1, .bnd)])))) i.2)))) (.seq (.no) (.no))))) Try.func48 (fun (_ : True) => ai (trivial) (ai ((Imp.refl (.v (vI (n.Boxes.length : Int))))) (ai ((Imp.refl (.v (vI 1)))) (ai ((Imp.refl (.v (vI 8)))) (ai (fun h1 : (bif (!(decide (1 ≤ (n.Boxes.length : Int) ∧ (n.Boxes.length : Int) ≤ 8))) then true else decide ((n.Links.length : Int) > 14)) = true => (fun hF : (false : Bool) = (F48 n) => ai (congrArg (fun r : Bool => (.bool r : Value)) hF) (trivial)) (condT h1 (rfl))) (fun h1 : (bif (!(decide (1 ≤ (n.Boxes.length : Int) ∧ (n.Boxes.length : Int) ≤ 8))) then true else decide ((n.Links.length : Int) > 14)) = false => (fun _ : ¬ (n.Links.length : Int) > 14 => (fun _ : 1 ≤ (n.Boxes.length : Int) ∧ (n.Boxes.length : Int) ≤ 8 => fun (_ : n.Links.length ≤ 9223372036854775807) => fun (_ : n.Boxes.length ≤ 9223372036854775807) => ai (ai (rfl) (ai ((Imp.refl _)) (ai ((Imp.refl _)) ((ai (rfl : runL (F48_s0 n) ((Int.toNat ((n.Links.length : Int) - 0)) + 1) 0 = (runL (F48_s0 n) ((Int.toNat ((n.Links.length : Int) - 0)) + 1) 0)) (ai ((Nat.lt_succ_self _ : Int.toNat ((n.Links.length : Int) - 0) < ((Int.toNat ((n.Links.length : Int) - 0)) + 1))) ((by omega : (0 : Int) ≤ 0))))))) : ((.int .i64 0 : Value) = .int .i64 0) ∧ (Imp (.l 2 eLabLink n.Links) (.l 2 eLabLink n.Links)) ∧ (Imp (.l 2 eLabBox n.Boxes) (.l 2 eLabBox n.Boxes)) ∧ (runL (F48_s0 n) ((Int.toNat ((n.Links.length : Int) - 0)) + 1) 0 = (runL (F48_s0 n) ((Int.toNat ((n.Links.length : Int) - 0)) + 1) 0) ∧ Int.toNat ((n.Links.length : Int) - 0) < ((Int.toNat ((n.Links.length : Int) - 0)) + 1) ∧ (0 : Int) ≤ 0)) (fun (i0 : Nat × Int) (hi0 : runL (F48_s0 n) i0.1 i0.2 = (runL (F48_s0 n) ((Int.toNat ((n.Links.length : Int) - 0)) + 1) 0) ∧ (fun (i40 : Int) => (Int.toNat ((n.Links.length : Int) - i40) < i0.1 ∧ (0 : Int) ≤ i40)) i0.2) => (fun (m0 : Nat) (i40 : Int) (hI0 : runL (F48_s0 n) (m0 + 1) i40 = (runL (F48_s0 n) ((Int.toNat ((n.Links.length : Int) - 0)) + 1) 0)) (_ : Int.toNat ((n.Links.length : Int) - i40) < m0 + 1) (hl0 : m0 < i0.1) (_ : (0 : Int) ≤ i40) => ai (fun h3 : (decide (i40 < (n.Links.length : Int))) = true => (fun _ : i40 < (n.Links.length : Int) => ai ((by omega : 0 ≤ i40 ∧ i40 < (n.Links.length : Int))) (ai (fun h4 : (bif (bif decide ((n.Links.getD (Int.toNat i40) default).A < 0) then true else decide ((n.Links.getD (Int.toNat i40) default).A ≥ (n.Links.getD (Int.toNat i40) default).B)) then true else decide ((n.Links.getD (Int.toNat i40) default).B ≥ (n.Boxes.length : Int))) = true => (fun hF : (false : Bool) = (F48 n) => ai (congrArg (fun r : Bool => (.bool r : Value)) hF) (trivial)) (condF h1 (finR (runL_ret hI0 (condT h3 (condT h4 (rfl)))) rfl))) (fun h4 : (bif (bif decide ((n.Links.getD (Int.toNat i40) default).A < 0) then true else decide ((n.Links.getD (Int.toNat i40) default).A ≥ (n.Links.getD (Int.toNat i40) default).B)) then true else decide ((n.Links.getD (Int.toNat i40) default).B ≥ (n.Boxes.length : Int))) = false => (fun _ : ¬ (n.Links.getD (Int.toNat i40) default).B ≥ (n.Boxes.length : Int) => (fun _ : ¬ (n.Links.getD (Int.toNat i40) default).A ≥ (n.Links.getD (Int.toNat i40) default).B => (fun _ : ¬ (n.Links.getD (Int.toNat i40) default).A < 0 => ai ((fun k5 : (decide (i40 > 0)) = true => (fun _ : i40 > 0 => (by unfold i64ok; omega : i64ok (i40 - 1))) (of_decide_eq_true k5))) (ai ((fun k6 : (decide (i40 > 0)) = true => (fun _ : i40 > 0 => (by omega : 0 ≤ (i40 - 1) ∧ (i40 - 1) < (n.Links.length : Int))) (of_decide_eq_true k6))) (ai ((fun k8 : (decide ((n.Links.getD (Int.toNat (i40 - 1)) default).A > (n.Links.getD (Int.toNat i40) default).A)) = false => (fun _ : ¬ (n.Links.getD (Int.toNat (i40 - 1)) default).A > (n.Links.getD (Int.toNat i40) default).A => (fun k7 : (decide (i40 > 0)) = true => (fun _ : i40 > 0 => (by unfold i64ok; omega : i64ok (i40 - 1))) (of_decide_eq_true k7))) (of_decide_eq_false k8))) (ai ((fun k10 : (decide ((n.Links.getD (Int.toNat (i40 - 1)) default).A > (n.Links.getD (Int.toNat i40) default).A)) = false => (fun _ : ¬ (n.Links.getD (Int.toNat (i40 - 1)) default).A > (n.Links.getD (Int.toNat i40) default).A => (fun k9 : (decide (i40 > 0)) = true => (fun _ : i40 > 0 => (by omega : 0 ≤ (i40 - 1) ∧ (i40 - 1) < (n.Links.length : Int))) (of_decide_eq_true k9))) (of_decide_eq_false k10))) (ai ((fun k13 : ((n.Links.getD (Int.toNat (i40 - 1)) default).A == (n.Links.getD (Int.toNat i40) default).A) = true => (fun _ : (n.Links.getD (Int.toNat (i40 - 1)) default).A = (n.Links.getD (Int.toNat i40) default).A => (fun k12 : (decide ((n.Links.getD (Int.toNat (i40 - 1)) default).A > (n.Links.getD (Int.toNat i40) default).A)) = false => (fun _ : ¬ (n.Links.getD (Int.toNat (i40 - 1)) default).A > (n.Links.getD (Int.toNat i40) default).A => (fun k11 : (decide (i40 > 0)) = true => (fun _ : i40 > 0 => (by unfold i64ok; omega : i64ok (i40 - 1))) (of_decide_eq_true k11))) (of_decide_eq_false k12))) (eq_of_beq k13))) (ai ((fun k16 : ((n.Links.getD (Int.toNat (i40 - 1)) default).A == (n.Links.getD (Int.toNat i40) default).A) = true => (fun _ : (n.Links.getD (Int.toNat (i40 - 1)) default).A = (n.Links.getD (Int.toNat i40) default).A => (fun k15 : (decide ((n.Links.getD (Int.toNat (i40 - 1)) default).A > (n.Links.getD (Int.toNat i40) default).A)) = false => (fun _ : ¬ (n.Links.getD (Int.toNat (i40 - 1)) default).A > (n.Links.getD (Int.toNat i40) default).A => (fun k14 : (decide (i40 > 0)) = true => (fun _ : i40 > 0 => (by omega : 0 ≤ (i40 - 1) ∧ (i40 - 1) < (n.Links.length : Int))) (of_decide_eq_true k14))) (of_decide_eq_false k15))) (eq_of_beq k16))) (ai (fun h17 : (bif decide (i40 > 0) then (bif decide ((n.Links.getD (Int.toNat (i40 - 1)) default).A > (n.Links.getD (Int.toNat i40) default).A) then true else (bif ((n.Links.getD (Int.toNat (i40 - 1)) default).A == (n.Links.getD (Int.toNat i40) default).A) then decide ((n.Links.getD (Int.toNat (i40 - 1)) default).B ≥ (n.Links.getD (Int.toNat i40) default).B) else false)) else false) = true => (fun _ : i40 > 0 => (fun hF : (false : Bool) = (F48 n) => ai (congrArg (fun r : Bool => (.bool r : Value)) hF) (trivial)) (condF h1 (finR (runL_ret hI0 (condT h3 (condF h4 (condT h17 (rfl))))) rfl))) (of_decide_eq_true (andT1 h17))) (fun h17 : (bif decide (i40 > 0) then (bif decide ((n.Links.getD (Int.toNat (i40 - 1)) default).A > (n.Links.getD (Int.toNat i40) default).A) then true else (bif ((n.Links.getD (Int.toNat (i40 - 1)) default).A == (n.Links.getD (Int.toNat i40) default).A) then decide ((n.Links.getD (Int.toNat (i40 - 1)) default).B ≥ (n.Links.getD (Int.toNat i40) default).B) else false)) else false) = false => ai ((by unfold i64ok; omega : i64ok (i40 + 1))) (Exists.intro (p := fun j : Nat × Int => (fun (i40_ : Int) => (((.int .i64 (i40 + 1) : Value) = .int .i64 i40_) ∧ (Imp (.l 2 eLabLink n.Links) (.l 2 eLabLink n.Links)) ∧ (Imp (.l 2 eLabBox n.Boxes) (.l 2 eLabBox n.Boxes)) ∧ ((runL (F48_s0 n) j.1 j.2 = (runL (F48_s0 n) ((Int.toNat ((n.Links.length : Int) - 0)) + 1) 0) ∧ Int.toNat ((n.Links.length : Int) - i40_) < j.1 ∧ (0 : Int) ≤ i40_) ∧ j.1 < i0.1))) j.2) (m0, (i40 + 1)) (ai (rfl) (ai ((Imp.refl _)) (ai ((Imp.refl _)) (ai (ai (runL_next hI0 (condT h3 (condF h4 (condF h17 (rfl))))) (ai ((by omega : Int.toNat ((n.Links.length : Int) - (i40 + 1)) < m0)) ((by omega : (0 : Int) ≤ (i40 + 1))))) hl0))))))))))))) (of_decide_eq_false (orF1 (orF1 h4)))) (of_decide_eq_false (orF2 (orF1 h4)))) (of_decide_eq_false (orF2 h4))))) (of_decide_eq_true h3)) (fun h3 : (decide (i40 < (n.Links.length : Int))) = false => (fun _ : ¬ i40 < (n.Links.length : Int) => (fun hD0_18 : (runL (F48_s0 n) ((Int.toNat ((n.Links.length : Int) - 0)) + 1) 0) = Lp.done i40 => (fun hF : (true : Bool) = (F48 n) => ai (congrArg (fun r : Bool => (.bool r : Value)) hF) (trivial)) (condF h1 (finD hD0_18 (rfl)))) (runL_done hI0 (condF h3 (rfl)))) (of_decide_eq_false h3))) (i0.1 - 1) i0.2 (hd1 hi0.1 hi0.2.1) (hd2 hi0.2.1) (hd3 hi0.2.1) hi0.2.2)) (of_decide_eq_true (notEF (orF1 h1)))) (of_decide_eq_false (orF2 h1)))))))) (by kernel_rfl)
def F97_s0 (n : LabNet) (a : Int) (b : Int) : Int → Lp Int Int := fun i40 =>
  bif (decide (i40 < (n.Links.length : Int))) then (bif (bif (bif ((n.Links.getD (Int.toNat i40) default).A == a) then ((n.Links.getD (Int.toNat i40) default).B == b) else false) then true else (bif ((n.Links.getD (Int.toNat i40) default).A == b) then ((n.Links.getD (Int.toNat i40) default).B == a) else false)) then (.ret i40) else (.next (i40 + 1))) else (.done i40)
def F97 (n : LabNet) (a : Int) (b : Int) : Int :=
  (runL (F97_s0 n a b) ((Int.toNat ((n.Links.length : Int) - 0)) + 1) 0).fin (fun r => r) (fun i40 => (-1))
def S97 (R : Int) (n : LabNet) (a : Int) (b : Int) : Spec := ⟨[.r (.g (eLabNet n)), .r (.c (.v (vI a))), .r (.c (.v (vI b)))], .v (vI R), True⟩
theorem ok97 (n : LabNet) (a : Int) (b : Int) : (S97 (F97 n a b) n a b).ok Try.prog 97 :=
  fnG_ok mixed (fn := Try.f97) (ct := .seq (.no) (.seq (.seqk [(3, 0), (3, 1)] (.no) (.blk (.loop (ι := Nat × Int) (fun i => (fun (i40 : Int) => (⟨[(1, some (.v (vI a))), (2, some (.v (vI b))), (3, some (.p 0 0)), (7, some (.v (vI i40)))], [(0, some (.box 26 [.h 1 0, .h 2 0])), (1, some (.shr none (.l 2 eLabLink n.Links))), (2, some (.shr none (.l 2 eLabBox n.Boxes)))], 3⟩ : St)) i.2) (fun i => runL (F97_s0 n a b) i.1 i.2 = (runL (F97_s0 n a b) ((Int.toNat ((n.Links.length : Int) - 0)) + 1) 0) ∧ (fun (i40 : Int) => (Int.toNat ((n.Links.length : Int) - i40) < i.1 ∧ (0 : Int) ≤ i40)) i.2) (fun i => i.1) (((Int.toNat ((n.Links.length : Int) - 0)) + 1), 0) (fun i => (fun (i40 : Int) => (.seq (.seq (.no) (.cond (.no) (.no))) (.seq (.blk (.seq (.no) (.seq (.no) (.cond (.seq (.no) (.no)) (.no))))) (.reg [(1, .bnd)])))) i.2)))) (.seq (.no) (.no)))) Try.func97 (fun (_ : True) => fun (_ : n.Links.length ≤ 9223372036854775807) => fun (_ : n.Boxes.length ≤ 9223372036854775807) => ai (ai (rfl) (ai (rfl) (ai (rfl) (ai ((Imp.refl _)) (ai ((Imp.refl _)) ((ai (rfl : runL (F97_s0 n a b) ((Int.toNat ((n.Links.length : Int) - 0)) + 1) 0 = (runL (F97_s0 n a b) ((Int.toNat ((n.Links.length : Int) - 0)) + 1) 0)) (ai ((Nat.lt_succ_self _ : Int.toNat ((n.Links.length : Int) - 0) < ((Int.toNat ((n.Links.length : Int) - 0)) + 1))) ((by omega : (0 : Int) ≤ 0))))))))) : ((.int .i64 a : Value) = .int .i64 a) ∧ ((.int .i64 b : Value) = .int .i64 b) ∧ ((.int .i64 0 : Value) = .int .i64 0) ∧ (Imp (.l 2 eLabLink n.Links) (.l 2 eLabLink n.Links)) ∧ (Imp (.l 2 eLabBox n.Boxes) (.l 2 eLabBox n.Boxes)) ∧ (runL (F97_s0 n a b) ((Int.toNat ((n.Links.length : Int) - 0)) + 1) 0 = (runL (F97_s0 n a b) ((Int.toNat ((n.Links.length : Int) - 0)) + 1) 0) ∧ Int.toNat ((n.Links.length : Int) - 0) < ((Int.toNat ((n.Links.length : Int) - 0)) + 1) ∧ (0 : Int) ≤ 0)) (fun (i0 : Nat × Int) (hi0 : runL (F97_s0 n a b) i0.1 i0.2 = (runL (F97_s0 n a b) ((Int.toNat ((n.Links.length : Int) - 0)) + 1) 0) ∧ (fun (i40 : Int) => (Int.toNat ((n.Links.length : Int) - i40) < i0.1 ∧ (0 : Int) ≤ i40)) i0.2) => (fun (m0 : Nat) (i40 : Int) (hI0 : runL (F97_s0 n a b) (m0 + 1) i40 = (runL (F97_s0 n a b) ((Int.toNat ((n.Links.length : Int) - 0)) + 1) 0)) (_ : Int.toNat ((n.Links.length : Int) - i40) < m0 + 1) (hl0 : m0 < i0.1) (_ : (0 : Int) ≤ i40) => ai (fun h2 : (decide (i40 < (n.Links.length : Int))) = true => (fun _ : i40 < (n.Links.length : Int) => ai ((by omega : 0 ≤ i40 ∧ i40 < (n.Links.length : Int))) (ai (fun h3 : (bif (bif ((n.Links.getD (Int.toNat i40) default).A == a) then ((n.Links.getD (Int.toNat i40) default).B == b) else false) then true else (bif ((n.Links.getD (Int.toNat i40) default).A == b) then ((n.Links.getD (Int.toNat i40) default).B == a) else false)) = true => (fun hF : (i40 : Int) = (F97 n a b) => ai (congrArg (fun r : Int => (.int .i64 r : Value)) hF) (trivial)) (finR (runL_ret hI0 (condT h2 (condT h3 (rfl)))) rfl)) (fun h3 : (bif (bif ((n.Links.getD (Int.toNat i40) default).A == a) then ((n.Links.getD (Int.toNat i40) default).B == b) else false) then true else (bif ((n.Links.getD (Int.toNat i40) default).A == b) then ((n.Links.getD (Int.toNat i40) default).B == a) else false)) = false => ai ((by unfold i64ok; omega : i64ok (i40 + 1))) (Exists.intro (p := fun j : Nat × Int => (fun (i40_ : Int) => (((.int .i64 a : Value) = .int .i64 a) ∧ ((.int .i64 b : Value) = .int .i64 b) ∧ ((.int .i64 (i40 + 1) : Value) = .int .i64 i40_) ∧ (Imp (.l 2 eLabLink n.Links) (.l 2 eLabLink n.Links)) ∧ (Imp (.l 2 eLabBox n.Boxes) (.l 2 eLabBox n.Boxes)) ∧ ((runL (F97_s0 n a b) j.1 j.2 = (runL (F97_s0 n a b) ((Int.toNat ((n.Links.length : Int) - 0)) + 1) 0) ∧ Int.toNat ((n.Links.length : Int) - i40_) < j.1 ∧ (0 : Int) ≤ i40_) ∧ j.1 < i0.1))) j.2) (m0, (i40 + 1)) (ai (rfl) (ai (rfl) (ai (rfl) (ai ((Imp.refl _)) (ai ((Imp.refl _)) (ai (ai (runL_next hI0 (condT h2 (condF h3 (rfl)))) (ai ((by omega : Int.toNat ((n.Links.length : Int) - (i40 + 1)) < m0)) ((by omega : (0 : Int) ≤ (i40 + 1))))) hl0)))))))))) (of_decide_eq_true h2)) (fun h2 : (decide (i40 < (n.Links.length : Int))) = false => (fun _ : ¬ i40 < (n.Links.length : Int) => (fun hD0_4 : (runL (F97_s0 n a b) ((Int.toNat ((n.Links.length : Int) - 0)) + 1) 0) = Lp.done i40 => (fun hF : ((-1) : Int) = (F97 n a b) => ai (congrArg (fun r : Int => (.int .i64 r : Value)) hF) (trivial)) (finD hD0_4 (rfl))) (runL_done hI0 (condF h2 (rfl)))) (of_decide_eq_false h2))) (i0.1 - 1) i0.2 (hd1 hi0.1 hi0.2.1) (hd2 hi0.2.1) (hd3 hi0.2.1) hi0.2.2)) (by kernel_rfl)
def F84 (n : LabNet) (box : Int) (r1 : LabRow) : Bool :=
  bif (!(decide (1 ≤ r1.In ∧ r1.In ≤ 60))) then false else (bif (r1.Next == (-1)) then (r1.Out == 0) else (bif decide ((F97 n box r1.Next) ≥ 0) then (decide (1 ≤ r1.Out ∧ r1.Out ≤ 60)) else false))
def S84 (n : LabNet) (box : Int) (r1 : LabRow) : Spec := ⟨[.r (.g (eLabNet n)), .r (.c (.v (vI box))), .r (.g (eLabRow r1))], .v (.bool (F84 n box r1)), True⟩
theorem ok84 (n : LabNet) (box : Int) (r1 : LabRow) : (S84 n box r1).ok Try.prog 84 :=
  fnG_ok mixed (fn := Try.f84) (ct := .seq (.no) (.seq (.seq (.reg [(2, .call 43 (S43 (decide (1 ≤ r1.In ∧ r1.In ≤ 60)) r1.In 1 60) (oa43 r1.In 1 60) none)]) (.cond (.seq (.no) (.no)) (.no))) (.seq (.seq (.no) (.cond (.seq (.no) (.no)) (.no))) (.seq (.reg [(4, .call 97 (S97 (F97 n box r1.Next) n box r1.Next) (ok97 n box r1.Next) none), (9, .call 43 (S43 (decide (1 ≤ r1.Out ∧ r1.Out ≤ 60)) r1.Out 1 60) (oa43 r1.Out 1 60) none)]) (.no))))) Try.func84 (fun (_ : True) => ai (trivial) (ai ((Imp.refl (.v (vI r1.In)))) (ai ((Imp.refl (.v (vI 1)))) (ai ((Imp.refl (.v (vI 60)))) (ai (fun h1 : (!(decide (1 ≤ r1.In ∧ r1.In ≤ 60))) = true => (fun _ : ¬ (1 ≤ r1.In ∧ r1.In ≤ 60) => (fun hF : (false : Bool) = (F84 n box r1) => ai (congrArg (fun r : Bool => (.bool r : Value)) hF) (trivial)) (condT h1 (rfl))) (of_decide_eq_false (notET h1))) (fun h1 : (!(decide (1 ≤ r1.In ∧ r1.In ≤ 60))) = false => (fun _ : 1 ≤ r1.In ∧ r1.In ≤ 60 => ai (fun h2 : (r1.Next == (-1)) = true => (fun _ : r1.Next = (-1) => (fun hF : ((r1.Out == 0) : Bool) = (F84 n box r1) => ai (congrArg (fun r : Bool => (.bool r : Value)) hF) (trivial)) (condF h1 (condT h2 (rfl)))) (eq_of_beq h2)) (fun h2 : (r1.Next == (-1)) = false => (fun _ : ¬ r1.Next = (-1) => ai (trivial) (ai ((Imps.refl (eLabNet n))) (ai ((Imp.refl (.v (vI box)))) (ai ((Imp.refl (.v (vI r1.Next)))) (ai ((fun k3 : (decide ((F97 n box r1.Next) ≥ 0)) = true => (fun _ : (F97 n box r1.Next) ≥ 0 => trivial) (of_decide_eq_true k3))) (ai ((fun k4 : (decide ((F97 n box r1.Next) ≥ 0)) = true => (fun _ : (F97 n box r1.Next) ≥ 0 => (Imp.refl (.v (vI r1.Out)))) (of_decide_eq_true k4))) (ai ((fun k5 : (decide ((F97 n box r1.Next) ≥ 0)) = true => (fun _ : (F97 n box r1.Next) ≥ 0 => (Imp.refl (.v (vI 1)))) (of_decide_eq_true k5))) (ai ((fun k6 : (decide ((F97 n box r1.Next) ≥ 0)) = true => (fun _ : (F97 n box r1.Next) ≥ 0 => (Imp.refl (.v (vI 60)))) (of_decide_eq_true k6))) ((fun hF : ((bif decide ((F97 n box r1.Next) ≥ 0) then (decide (1 ≤ r1.Out ∧ r1.Out ≤ 60)) else false) : Bool) = (F84 n box r1) => ai (congrArg (fun r : Bool => (.bool r : Value)) hF) (trivial)) (condF h1 (condF h2 (rfl)))))))))))) (beqF h2))) (of_decide_eq_true (notEF h1)))))))) (by kernel_rfl)
def F85 (n : LabNet) (box : Int) (v1 : LabVia) : Bool :=
  (bif (bif (bif decide ((F97 n box v1.To) ≥ 0) then decide ((F97 n box v1.Via) ≥ 0) else false) then (v1.To != v1.Via) else false) then (decide (1 ≤ v1.Push ∧ v1.Push ≤ 60)) else false)
def S85 (n : LabNet) (box : Int) (v1 : LabVia) : Spec := ⟨[.r (.g (eLabNet n)), .r (.c (.v (vI box))), .r (.g (eLabVia v1))], .v (.bool (F85 n box v1)), True⟩
theorem ok85 (n : LabNet) (box : Int) (v1 : LabVia) : (S85 n box v1).ok Try.prog 85 :=
  fnG_ok mixed (fn := Try.f85) (ct := .seq (.no) (.seq (.reg [(4, .call 97 (S97 (F97 n box v1.To) n box v1.To) (ok97 n box v1.To) none), (11, .call 97 (S97 (F97 n box v1.Via) n box v1.Via) (ok97 n box v1.Via) none), (24, .call 43 (S43 (decide (1 ≤ v1.Push ∧ v1.Push ≤ 60)) v1.Push 1 60) (oa43 v1.Push 1 60) none)]) (.no))) Try.func85 (fun (_ : True) => ai (trivial) (ai ((Imps.refl (eLabNet n))) (ai ((Imp.refl (.v (vI box)))) (ai ((Imp.refl (.v (vI v1.To)))) (ai ((fun k1 : (decide ((F97 n box v1.To) ≥ 0)) = true => (fun _ : (F97 n box v1.To) ≥ 0 => trivial) (of_decide_eq_true k1))) (ai ((fun k2 : (decide ((F97 n box v1.To) ≥ 0)) = true => (fun _ : (F97 n box v1.To) ≥ 0 => (Imps.refl (eLabNet n))) (of_decide_eq_true k2))) (ai ((fun k3 : (decide ((F97 n box v1.To) ≥ 0)) = true => (fun _ : (F97 n box v1.To) ≥ 0 => (Imp.refl (.v (vI box)))) (of_decide_eq_true k3))) (ai ((fun k4 : (decide ((F97 n box v1.To) ≥ 0)) = true => (fun _ : (F97 n box v1.To) ≥ 0 => (Imp.refl (.v (vI v1.Via)))) (of_decide_eq_true k4))) (ai ((fun k5 : (bif (bif decide ((F97 n box v1.To) ≥ 0) then decide ((F97 n box v1.Via) ≥ 0) else false) then (v1.To != v1.Via) else false) = true => (fun _ : ¬ v1.To = v1.Via => (fun _ : (F97 n box v1.Via) ≥ 0 => (fun _ : (F97 n box v1.To) ≥ 0 => trivial) (of_decide_eq_true (andT1 (andT1 k5)))) (of_decide_eq_true (andT2 (andT1 k5)))) (bneT (andT2 k5)))) (ai ((fun k6 : (bif (bif decide ((F97 n box v1.To) ≥ 0) then decide ((F97 n box v1.Via) ≥ 0) else false) then (v1.To != v1.Via) else false) = true => (fun _ : ¬ v1.To = v1.Via => (fun _ : (F97 n box v1.Via) ≥ 0 => (fun _ : (F97 n box v1.To) ≥ 0 => (Imp.refl (.v (vI v1.Push)))) (of_decide_eq_true (andT1 (andT1 k6)))) (of_decide_eq_true (andT2 (andT1 k6)))) (bneT (andT2 k6)))) (ai ((fun k7 : (bif (bif decide ((F97 n box v1.To) ≥ 0) then decide ((F97 n box v1.Via) ≥ 0) else false) then (v1.To != v1.Via) else false) = true => (fun _ : ¬ v1.To = v1.Via => (fun _ : (F97 n box v1.Via) ≥ 0 => (fun _ : (F97 n box v1.To) ≥ 0 => (Imp.refl (.v (vI 1)))) (of_decide_eq_true (andT1 (andT1 k7)))) (of_decide_eq_true (andT2 (andT1 k7)))) (bneT (andT2 k7)))) (ai ((fun k8 : (bif (bif decide ((F97 n box v1.To) ≥ 0) then decide ((F97 n box v1.Via) ≥ 0) else false) then (v1.To != v1.Via) else false) = true => (fun _ : ¬ v1.To = v1.Via => (fun _ : (F97 n box v1.Via) ≥ 0 => (fun _ : (F97 n box v1.To) ≥ 0 => (Imp.refl (.v (vI 60)))) (of_decide_eq_true (andT1 (andT1 k8)))) (of_decide_eq_true (andT2 (andT1 k8)))) (bneT (andT2 k8)))) ((fun hF : ((bif (bif (bif decide ((F97 n box v1.To) ≥ 0) then decide ((F97 n box v1.Via) ≥ 0) else false) then (v1.To != v1.Via) else false) then (decide (1 ≤ v1.Push ∧ v1.Push ≤ 60)) else false) : Bool) = (F85 n box v1) => ai (congrArg (fun r : Bool => (.bool r : Value)) hF) (trivial)) (rfl)))))))))))))) (by kernel_rfl)
def F49_s1 (n : LabNet) (box : Int) : Int → Lp Int Bool := fun i41 =>
  bif (decide (i41 < (((n.Boxes.getD (Int.toNat box) default).Guards).length : Int))) then (bif (bif (!(F85 n box (((n.Boxes.getD (Int.toNat box) default).Guards).getD (Int.toNat i41) default))) then true else (bif decide (i41 > 0) then decide ((((n.Boxes.getD (Int.toNat box) default).Guards).getD (Int.toNat (i41 - 1)) default).To ≥ (((n.Boxes.getD (Int.toNat box) default).Guards).getD (Int.toNat i41) default).To) else false)) then (.ret false) else (.next (i41 + 1))) else (.done i41)
def F49_s0 (n : LabNet) (box : Int) : Int → Lp Int Bool := fun i40 =>
  bif (decide (i40 < (((n.Boxes.getD (Int.toNat box) default).Rows).length : Int))) then (bif (bif (!(F84 n box (((n.Boxes.getD (Int.toNat box) default).Rows).getD (Int.toNat i40) default))) then true else (bif decide (i40 > 0) then decide ((((n.Boxes.getD (Int.toNat box) default).Rows).getD (Int.toNat (i40 - 1)) default).In ≥ (((n.Boxes.getD (Int.toNat box) default).Rows).getD (Int.toNat i40) default).In) else false)) then (.ret false) else (.next (i40 + 1))) else (.done i40)
def F49 (n : LabNet) (box : Int) : Bool :=
  (runL (F49_s0 n box) ((Int.toNat ((((n.Boxes.getD (Int.toNat box) default).Rows).length : Int) - 0)) + 1) 0).fin (fun r => r) (fun i40 => (runL (F49_s1 n box) ((Int.toNat ((((n.Boxes.getD (Int.toNat box) default).Guards).length : Int) - 0)) + 1) 0).fin (fun r => r) (fun i41 => true))
def S49 (n : LabNet) (box : Int) : Spec := ⟨[.r (.g (eLabNet n)), .r (.c (.v (vI box)))], .v (.bool (F49 n box)), 0 ≤ box ∧ box < (n.Boxes.length : Int)⟩
theorem ok49 (n : LabNet) (box : Int) : (S49 n box).ok Try.prog 49 :=
  fnG_ok mixed (fn := Try.f49) (ct := .seq (.no) (.seq (.no) (.seq (.seqk [(2, 0), (2, 1), (5, 0), (5, 1)] (.no) (.blk (.loop (ι := Nat × Int) (fun i => (fun (i40 : Int) => (⟨[(1, some (.v (vI box))), (2, some (.p 0 0)), (5, some (.p 3 0)), (6, some (.v (vI i40)))], [(0, some (.box 26 [.h 1 0, .h 2 0])), (1, some (.shr none (.l 2 eLabLink n.Links))), (2, some (.shr none (.l 2 eLabBox n.Boxes))), (3, some (.box 54 [.h 4 1, .h 4 2])), (4, some (.mem none none (eLabBox (n.Boxes.getD (Int.toNat box) default))))], 5⟩ : St)) i.2) (fun i => runL (F49_s0 n box) i.1 i.2 = (runL (F49_s0 n box) ((Int.toNat ((((n.Boxes.getD (Int.toNat box) default).Rows).length : Int) - 0)) + 1) 0) ∧ (fun (i40 : Int) => (Int.toNat ((((n.Boxes.getD (Int.toNat box) default).Rows).length : Int) - i40) < i.1 ∧ (0 : Int) ≤ i40)) i.2) (fun i => i.1) (((Int.toNat ((((n.Boxes.getD (Int.toNat box) default).Rows).length : Int) - 0)) + 1), 0) (fun i => (fun (i40 : Int) => (.seq (.seq (.no) (.cond (.no) (.no))) (.seq (.blk (.seq (.reg [(7, .call 84 (S84 n box (((n.Boxes.getD (Int.toNat box) default).Rows).getD (Int.toNat i40) default)) (ok84 n box (((n.Boxes.getD (Int.toNat box) default).Rows).getD (Int.toNat i40) default)) none), (16, .bnd)]) (.cond (.seq (.no) (.no)) (.no)))) (.reg [(1, .bnd)])))) i.2)))) (.seq (.seqk [(2, 0), (2, 1), (5, 0), (5, 1)] (.no) (.blk (.loop (ι := Nat × Int) (fun i => (fun (i41 : Int) => (⟨[(1, some (.v (vI box))), (2, some (.p 0 0)), (5, some (.p 3 0)), (7, some (.v (vI i41)))], [(0, some (.box 26 [.h 1 0, .h 2 0])), (1, some (.shr none (.l 2 eLabLink n.Links))), (2, some (.shr none (.l 2 eLabBox n.Boxes))), (3, some (.box 54 [.h 4 1, .h 4 2])), (4, some (.mem none none (eLabBox (n.Boxes.getD (Int.toNat box) default))))], 5⟩ : St)) i.2) (fun i => runL (F49_s1 n box) i.1 i.2 = (runL (F49_s1 n box) ((Int.toNat ((((n.Boxes.getD (Int.toNat box) default).Guards).length : Int) - 0)) + 1) 0) ∧ (fun (i41 : Int) => (Int.toNat ((((n.Boxes.getD (Int.toNat box) default).Guards).length : Int) - i41) < i.1 ∧ (0 : Int) ≤ i41)) i.2) (fun i => i.1) (((Int.toNat ((((n.Boxes.getD (Int.toNat box) default).Guards).length : Int) - 0)) + 1), 0) (fun i => (fun (i41 : Int) => (.seq (.seq (.no) (.cond (.no) (.no))) (.seq (.blk (.seq (.reg [(7, .call 85 (S85 n box (((n.Boxes.getD (Int.toNat box) default).Guards).getD (Int.toNat i41) default)) (ok85 n box (((n.Boxes.getD (Int.toNat box) default).Guards).getD (Int.toNat i41) default)) none), (16, .bnd)]) (.cond (.seq (.no) (.no)) (.no)))) (.reg [(1, .bnd)])))) i.2)))) (.seq (.no) (.no)))))) Try.func49 (fun (hp : 0 ≤ box ∧ box < (n.Boxes.length : Int)) => (fun (hpre0 : 0 ≤ box) (hpre1 : box < (n.Boxes.length : Int)) => ai ((by omega : 0 ≤ box ∧ box < (n.Boxes.length : Int))) (fun (_ : n.Links.length ≤ 9223372036854775807) => fun (_ : n.Boxes.length ≤ 9223372036854775807) => fun (_ : ((n.Boxes.getD (Int.toNat box) default).Rows).length ≤ 9223372036854775807) => fun (_ : ((n.Boxes.getD (Int.toNat box) default).Guards).length ≤ 9223372036854775807) => ai (ai (rfl) (ai (rfl) (ai ((Imp.refl _)) (ai ((Imp.refl _)) (ai ((Imps.refl _)) ((ai (rfl : runL (F49_s0 n box) ((Int.toNat ((((n.Boxes.getD (Int.toNat box) default).Rows).length : Int) - 0)) + 1) 0 = (runL (F49_s0 n box) ((Int.toNat ((((n.Boxes.getD (Int.toNat box) default).Rows).length : Int) - 0)) + 1) 0)) (ai ((Nat.lt_succ_self _ : Int.toNat ((((n.Boxes.getD (Int.toNat box) default).Rows).length : Int) - 0) < ((Int.toNat ((((n.Boxes.getD (Int.toNat box) default).Rows).length : Int) - 0)) + 1))) ((by omega : (0 : Int) ≤ 0))))))))) : ((.int .i64 box : Value) = .int .i64 box) ∧ ((.int .i64 0 : Value) = .int .i64 0) ∧ (Imp (.l 2 eLabLink n.Links) (.l 2 eLabLink n.Links)) ∧ (Imp (.l 2 eLabBox n.Boxes) (.l 2 eLabBox n.Boxes)) ∧ (Imps (eLabBox (n.Boxes.getD (Int.toNat box) default)) (eLabBox (n.Boxes.getD (Int.toNat box) default))) ∧ (runL (F49_s0 n box) ((Int.toNat ((((n.Boxes.getD (Int.toNat box) default).Rows).length : Int) - 0)) + 1) 0 = (runL (F49_s0 n box) ((Int.toNat ((((n.Boxes.getD (Int.toNat box) default).Rows).length : Int) - 0)) + 1) 0) ∧ Int.toNat ((((n.Boxes.getD (Int.toNat box) default).Rows).length : Int) - 0) < ((Int.toNat ((((n.Boxes.getD (Int.toNat box) default).Rows).length : Int) - 0)) + 1) ∧ (0 : Int) ≤ 0)) (fun (i0 : Nat × Int) (hi0 : runL (F49_s0 n box) i0.1 i0.2 = (runL (F49_s0 n box) ((Int.toNat ((((n.Boxes.getD (Int.toNat box) default).Rows).length : Int) - 0)) + 1) 0) ∧ (fun (i40 : Int) => (Int.toNat ((((n.Boxes.getD (Int.toNat box) default).Rows).length : Int) - i40) < i0.1 ∧ (0 : Int) ≤ i40)) i0.2) => (fun (m0 : Nat) (i40 : Int) (hI0 : runL (F49_s0 n box) (m0 + 1) i40 = (runL (F49_s0 n box) ((Int.toNat ((((n.Boxes.getD (Int.toNat box) default).Rows).length : Int) - 0)) + 1) 0)) (_ : Int.toNat ((((n.Boxes.getD (Int.toNat box) default).Rows).length : Int) - i40) < m0 + 1) (hl0 : m0 < i0.1) (_ : (0 : Int) ≤ i40) => ai (fun h2 : (decide (i40 < (((n.Boxes.getD (Int.toNat box) default).Rows).length : Int))) = true => (fun _ : i40 < (((n.Boxes.getD (Int.toNat box) default).Rows).length : Int) => ai ((by omega : 0 ≤ i40 ∧ i40 < (((n.Boxes.getD (Int.toNat box) default).Rows).length : Int))) (ai (trivial) (ai ((Imps.refl (eLabNet n))) (ai ((Imp.refl (.v (vI box)))) (ai ((Imps.refl (eLabRow (((n.Boxes.getD (Int.toNat box) default).Rows).getD (Int.toNat i40) default)))) (ai ((fun k4 : (decide (i40 > 0)) = true => (fun _ : i40 > 0 => (fun k3 : (!(F84 n box (((n.Boxes.getD (Int.toNat box) default).Rows).getD (Int.toNat i40) default))) = false => (by unfold i64ok; omega : i64ok (i40 - 1)))) (of_decide_eq_true k4))) (ai ((fun k6 : (decide (i40 > 0)) = true => (fun _ : i40 > 0 => (fun k5 : (!(F84 n box (((n.Boxes.getD (Int.toNat box) default).Rows).getD (Int.toNat i40) default))) = false => (by omega : 0 ≤ (i40 - 1) ∧ (i40 - 1) < (((n.Boxes.getD (Int.toNat box) default).Rows).length : Int)))) (of_decide_eq_true k6))) (ai ((fun k8 : (decide (i40 > 0)) = true => (fun _ : i40 > 0 => (fun k7 : (!(F84 n box (((n.Boxes.getD (Int.toNat box) default).Rows).getD (Int.toNat i40) default))) = false => (by omega : 0 ≤ i40 ∧ i40 < (((n.Boxes.getD (Int.toNat box) default).Rows).length : Int)))) (of_decide_eq_true k8))) (ai (fun h9 : (bif (!(F84 n box (((n.Boxes.getD (Int.toNat box) default).Rows).getD (Int.toNat i40) default))) then true else (bif decide (i40 > 0) then decide ((((n.Boxes.getD (Int.toNat box) default).Rows).getD (Int.toNat (i40 - 1)) default).In ≥ (((n.Boxes.getD (Int.toNat box) default).Rows).getD (Int.toNat i40) default).In) else false)) = true => (fun hF : (false : Bool) = (F49 n box) => ai (congrArg (fun r : Bool => (.bool r : Value)) hF) (trivial)) (finR (runL_ret hI0 (condT h2 (condT h9 (rfl)))) rfl)) (fun h9 : (bif (!(F84 n box (((n.Boxes.getD (Int.toNat box) default).Rows).getD (Int.toNat i40) default))) then true else (bif decide (i40 > 0) then decide ((((n.Boxes.getD (Int.toNat box) default).Rows).getD (Int.toNat (i40 - 1)) default).In ≥ (((n.Boxes.getD (Int.toNat box) default).Rows).getD (Int.toNat i40) default).In) else false)) = false => ai ((by unfold i64ok; omega : i64ok (i40 + 1))) (Exists.intro (p := fun j : Nat × Int => (fun (i40_ : Int) => (((.int .i64 box : Value) = .int .i64 box) ∧ ((.int .i64 (i40 + 1) : Value) = .int .i64 i40_) ∧ (Imp (.l 2 eLabLink n.Links) (.l 2 eLabLink n.Links)) ∧ (Imp (.l 2 eLabBox n.Boxes) (.l 2 eLabBox n.Boxes)) ∧ (Imps (eLabBox (n.Boxes.getD (Int.toNat box) default)) (eLabBox (n.Boxes.getD (Int.toNat box) default))) ∧ ((runL (F49_s0 n box) j.1 j.2 = (runL (F49_s0 n box) ((Int.toNat ((((n.Boxes.getD (Int.toNat box) default).Rows).length : Int) - 0)) + 1) 0) ∧ Int.toNat ((((n.Boxes.getD (Int.toNat box) default).Rows).length : Int) - i40_) < j.1 ∧ (0 : Int) ≤ i40_) ∧ j.1 < i0.1))) j.2) (m0, (i40 + 1)) (ai (rfl) (ai (rfl) (ai ((Imp.refl _)) (ai ((Imp.refl _)) (ai ((Imps.refl _)) (ai (ai (runL_next hI0 (condT h2 (condF h9 (rfl)))) (ai ((by omega : Int.toNat ((((n.Boxes.getD (Int.toNat box) default).Rows).length : Int) - (i40 + 1)) < m0)) ((by omega : (0 : Int) ≤ (i40 + 1))))) hl0))))))))))))))))) (of_decide_eq_true h2)) (fun h2 : (decide (i40 < (((n.Boxes.getD (Int.toNat box) default).Rows).length : Int))) = false => (fun _ : ¬ i40 < (((n.Boxes.getD (Int.toNat box) default).Rows).length : Int) => (fun hD0_10 : (runL (F49_s0 n box) ((Int.toNat ((((n.Boxes.getD (Int.toNat box) default).Rows).length : Int) - 0)) + 1) 0) = Lp.done i40 => fun (_ : n.Links.length ≤ 9223372036854775807) => fun (_ : n.Boxes.length ≤ 9223372036854775807) => fun (_ : ((n.Boxes.getD (Int.toNat box) default).Rows).length ≤ 9223372036854775807) => fun (_ : ((n.Boxes.getD (Int.toNat box) default).Guards).length ≤ 9223372036854775807) => ai (ai (rfl) (ai (rfl) (ai ((Imp.refl _)) (ai ((Imp.refl _)) (ai ((Imps.refl _)) ((ai (rfl : runL (F49_s1 n box) ((Int.toNat ((((n.Boxes.getD (Int.toNat box) default).Guards).length : Int) - 0)) + 1) 0 = (runL (F49_s1 n box) ((Int.toNat ((((n.Boxes.getD (Int.toNat box) default).Guards).length : Int) - 0)) + 1) 0)) (ai ((Nat.lt_succ_self _ : Int.toNat ((((n.Boxes.getD (Int.toNat box) default).Guards).length : Int) - 0) < ((Int.toNat ((((n.Boxes.getD (Int.toNat box) default).Guards).length : Int) - 0)) + 1))) ((by omega : (0 : Int) ≤ 0))))))))) : ((.int .i64 box : Value) = .int .i64 box) ∧ ((.int .i64 0 : Value) = .int .i64 0) ∧ (Imp (.l 2 eLabLink n.Links) (.l 2 eLabLink n.Links)) ∧ (Imp (.l 2 eLabBox n.Boxes) (.l 2 eLabBox n.Boxes)) ∧ (Imps (eLabBox (n.Boxes.getD (Int.toNat box) default)) (eLabBox (n.Boxes.getD (Int.toNat box) default))) ∧ (runL (F49_s1 n box) ((Int.toNat ((((n.Boxes.getD (Int.toNat box) default).Guards).length : Int) - 0)) + 1) 0 = (runL (F49_s1 n box) ((Int.toNat ((((n.Boxes.getD (Int.toNat box) default).Guards).length : Int) - 0)) + 1) 0) ∧ Int.toNat ((((n.Boxes.getD (Int.toNat box) default).Guards).length : Int) - 0) < ((Int.toNat ((((n.Boxes.getD (Int.toNat box) default).Guards).length : Int) - 0)) + 1) ∧ (0 : Int) ≤ 0)) (fun (i1 : Nat × Int) (hi1 : runL (F49_s1 n box) i1.1 i1.2 = (runL (F49_s1 n box) ((Int.toNat ((((n.Boxes.getD (Int.toNat box) default).Guards).length : Int) - 0)) + 1) 0) ∧ (fun (i41 : Int) => (Int.toNat ((((n.Boxes.getD (Int.toNat box) default).Guards).length : Int) - i41) < i1.1 ∧ (0 : Int) ≤ i41)) i1.2) => (fun (m1 : Nat) (i41 : Int) (hI1 : runL (F49_s1 n box) (m1 + 1) i41 = (runL (F49_s1 n box) ((Int.toNat ((((n.Boxes.getD (Int.toNat box) default).Guards).length : Int) - 0)) + 1) 0)) (_ : Int.toNat ((((n.Boxes.getD (Int.toNat box) default).Guards).length : Int) - i41) < m1 + 1) (hl1 : m1 < i1.1) (_ : (0 : Int) ≤ i41) => ai (fun h12 : (decide (i41 < (((n.Boxes.getD (Int.toNat box) default).Guards).length : Int))) = true => (fun _ : i41 < (((n.Boxes.getD (Int.toNat box) default).Guards).length : Int) => ai ((by omega : 0 ≤ i41 ∧ i41 < (((n.Boxes.getD (Int.toNat box) default).Guards).length : Int))) (ai (trivial) (ai ((Imps.refl (eLabNet n))) (ai ((Imp.refl (.v (vI box)))) (ai ((Imps.refl (eLabVia (((n.Boxes.getD (Int.toNat box) default).Guards).getD (Int.toNat i41) default)))) (ai ((fun k14 : (decide (i41 > 0)) = true => (fun _ : i41 > 0 => (fun k13 : (!(F85 n box (((n.Boxes.getD (Int.toNat box) default).Guards).getD (Int.toNat i41) default))) = false => (by unfold i64ok; omega : i64ok (i41 - 1)))) (of_decide_eq_true k14))) (ai ((fun k16 : (decide (i41 > 0)) = true => (fun _ : i41 > 0 => (fun k15 : (!(F85 n box (((n.Boxes.getD (Int.toNat box) default).Guards).getD (Int.toNat i41) default))) = false => (by omega : 0 ≤ (i41 - 1) ∧ (i41 - 1) < (((n.Boxes.getD (Int.toNat box) default).Guards).length : Int)))) (of_decide_eq_true k16))) (ai ((fun k18 : (decide (i41 > 0)) = true => (fun _ : i41 > 0 => (fun k17 : (!(F85 n box (((n.Boxes.getD (Int.toNat box) default).Guards).getD (Int.toNat i41) default))) = false => (by omega : 0 ≤ i41 ∧ i41 < (((n.Boxes.getD (Int.toNat box) default).Guards).length : Int)))) (of_decide_eq_true k18))) (ai (fun h19 : (bif (!(F85 n box (((n.Boxes.getD (Int.toNat box) default).Guards).getD (Int.toNat i41) default))) then true else (bif decide (i41 > 0) then decide ((((n.Boxes.getD (Int.toNat box) default).Guards).getD (Int.toNat (i41 - 1)) default).To ≥ (((n.Boxes.getD (Int.toNat box) default).Guards).getD (Int.toNat i41) default).To) else false)) = true => (fun hF : (false : Bool) = (F49 n box) => ai (congrArg (fun r : Bool => (.bool r : Value)) hF) (trivial)) (finD hD0_10 (finR (runL_ret hI1 (condT h12 (condT h19 (rfl)))) rfl))) (fun h19 : (bif (!(F85 n box (((n.Boxes.getD (Int.toNat box) default).Guards).getD (Int.toNat i41) default))) then true else (bif decide (i41 > 0) then decide ((((n.Boxes.getD (Int.toNat box) default).Guards).getD (Int.toNat (i41 - 1)) default).To ≥ (((n.Boxes.getD (Int.toNat box) default).Guards).getD (Int.toNat i41) default).To) else false)) = false => ai ((by unfold i64ok; omega : i64ok (i41 + 1))) (Exists.intro (p := fun j : Nat × Int => (fun (i41_ : Int) => (((.int .i64 box : Value) = .int .i64 box) ∧ ((.int .i64 (i41 + 1) : Value) = .int .i64 i41_) ∧ (Imp (.l 2 eLabLink n.Links) (.l 2 eLabLink n.Links)) ∧ (Imp (.l 2 eLabBox n.Boxes) (.l 2 eLabBox n.Boxes)) ∧ (Imps (eLabBox (n.Boxes.getD (Int.toNat box) default)) (eLabBox (n.Boxes.getD (Int.toNat box) default))) ∧ ((runL (F49_s1 n box) j.1 j.2 = (runL (F49_s1 n box) ((Int.toNat ((((n.Boxes.getD (Int.toNat box) default).Guards).length : Int) - 0)) + 1) 0) ∧ Int.toNat ((((n.Boxes.getD (Int.toNat box) default).Guards).length : Int) - i41_) < j.1 ∧ (0 : Int) ≤ i41_) ∧ j.1 < i1.1))) j.2) (m1, (i41 + 1)) (ai (rfl) (ai (rfl) (ai ((Imp.refl _)) (ai ((Imp.refl _)) (ai ((Imps.refl _)) (ai (ai (runL_next hI1 (condT h12 (condF h19 (rfl)))) (ai ((by omega : Int.toNat ((((n.Boxes.getD (Int.toNat box) default).Guards).length : Int) - (i41 + 1)) < m1)) ((by omega : (0 : Int) ≤ (i41 + 1))))) hl1))))))))))))))))) (of_decide_eq_true h12)) (fun h12 : (decide (i41 < (((n.Boxes.getD (Int.toNat box) default).Guards).length : Int))) = false => (fun _ : ¬ i41 < (((n.Boxes.getD (Int.toNat box) default).Guards).length : Int) => (fun hD1_20 : (runL (F49_s1 n box) ((Int.toNat ((((n.Boxes.getD (Int.toNat box) default).Guards).length : Int) - 0)) + 1) 0) = Lp.done i41 => (fun hF : (true : Bool) = (F49 n box) => ai (congrArg (fun r : Bool => (.bool r : Value)) hF) (trivial)) (finD hD0_10 (finD hD1_20 (rfl)))) (runL_done hI1 (condF h12 (rfl)))) (of_decide_eq_false h12))) (i1.1 - 1) i1.2 (hd1 hi1.1 hi1.2.1) (hd2 hi1.2.1) (hd3 hi1.2.1) hi1.2.2)) (runL_done hI0 (condF h2 (rfl)))) (of_decide_eq_false h2))) (i0.1 - 1) i0.2 (hd1 hi0.1 hi0.2.1) (hd2 hi0.2.1) (hd3 hi0.2.1) hi0.2.2))) hp.1 hp.2) (by kernel_rfl)
def F14_s0 (n : LabNet) : Int → Lp Int Bool := fun i40 =>
  bif (decide (i40 < (n.Boxes.length : Int))) then (bif (!(F49 n i40)) then (.ret false) else (.next (i40 + 1))) else (.done i40)
def F14 (n : LabNet) : Bool :=
  bif (!(F48 n)) then false else ((runL (F14_s0 n) ((Int.toNat ((n.Boxes.length : Int) - 0)) + 1) 0).fin (fun r => r) (fun i40 => true))
def S14 (R : Bool) (n : LabNet) : Spec := ⟨[.r (.g (eLabNet n))], .v (.bool R), True⟩
theorem ok14 (n : LabNet) : (S14 (F14 n) n).ok Try.prog 14 :=
  fnG_ok mixed (fn := Try.f14) (ct := .seq (.no) (.seq (.seq (.reg [(1, .call 48 (S48 n) (ok48 n) none)]) (.cond (.seq (.no) (.no)) (.no))) (.seq (.seqk [(1, 0), (1, 1)] (.no) (.blk (.loop (ι := Nat × Int) (fun i => (fun (i40 : Int) => (⟨[(1, some (.p 0 0)), (3, some (.v (vI i40)))], [(0, some (.box 26 [.h 1 0, .h 2 0])), (1, some (.shr none (.l 2 eLabLink n.Links))), (2, some (.shr none (.l 2 eLabBox n.Boxes)))], 3⟩ : St)) i.2) (fun i => runL (F14_s0 n) i.1 i.2 = (runL (F14_s0 n) ((Int.toNat ((n.Boxes.length : Int) - 0)) + 1) 0) ∧ (fun (i40 : Int) => (Int.toNat ((n.Boxes.length : Int) - i40) < i.1 ∧ (0 : Int) ≤ i40)) i.2) (fun i => i.1) (((Int.toNat ((n.Boxes.length : Int) - 0)) + 1), 0) (fun i => (fun (i40 : Int) => (.seq (.seq (.no) (.cond (.no) (.no))) (.seq (.blk (.seq (.reg [(2, .call 49 (S49 n i40) (ok49 n i40) none)]) (.cond (.seq (.no) (.no)) (.no)))) (.reg [(1, .bnd)])))) i.2)))) (.seq (.no) (.no))))) Try.func14 (fun (_ : True) => ai (trivial) (ai ((Imps.refl (eLabNet n))) (ai (fun h1 : (!(F48 n)) = true => (fun hF : (false : Bool) = (F14 n) => ai (congrArg (fun r : Bool => (.bool r : Value)) hF) (trivial)) (condT h1 (rfl))) (fun h1 : (!(F48 n)) = false => fun (_ : n.Links.length ≤ 9223372036854775807) => fun (_ : n.Boxes.length ≤ 9223372036854775807) => ai (ai (rfl) (ai ((Imp.refl _)) (ai ((Imp.refl _)) ((ai (rfl : runL (F14_s0 n) ((Int.toNat ((n.Boxes.length : Int) - 0)) + 1) 0 = (runL (F14_s0 n) ((Int.toNat ((n.Boxes.length : Int) - 0)) + 1) 0)) (ai ((Nat.lt_succ_self _ : Int.toNat ((n.Boxes.length : Int) - 0) < ((Int.toNat ((n.Boxes.length : Int) - 0)) + 1))) ((by omega : (0 : Int) ≤ 0))))))) : ((.int .i64 0 : Value) = .int .i64 0) ∧ (Imp (.l 2 eLabLink n.Links) (.l 2 eLabLink n.Links)) ∧ (Imp (.l 2 eLabBox n.Boxes) (.l 2 eLabBox n.Boxes)) ∧ (runL (F14_s0 n) ((Int.toNat ((n.Boxes.length : Int) - 0)) + 1) 0 = (runL (F14_s0 n) ((Int.toNat ((n.Boxes.length : Int) - 0)) + 1) 0) ∧ Int.toNat ((n.Boxes.length : Int) - 0) < ((Int.toNat ((n.Boxes.length : Int) - 0)) + 1) ∧ (0 : Int) ≤ 0)) (fun (i0 : Nat × Int) (hi0 : runL (F14_s0 n) i0.1 i0.2 = (runL (F14_s0 n) ((Int.toNat ((n.Boxes.length : Int) - 0)) + 1) 0) ∧ (fun (i40 : Int) => (Int.toNat ((n.Boxes.length : Int) - i40) < i0.1 ∧ (0 : Int) ≤ i40)) i0.2) => (fun (m0 : Nat) (i40 : Int) (hI0 : runL (F14_s0 n) (m0 + 1) i40 = (runL (F14_s0 n) ((Int.toNat ((n.Boxes.length : Int) - 0)) + 1) 0)) (_ : Int.toNat ((n.Boxes.length : Int) - i40) < m0 + 1) (hl0 : m0 < i0.1) (_ : (0 : Int) ≤ i40) => ai (fun h3 : (decide (i40 < (n.Boxes.length : Int))) = true => (fun _ : i40 < (n.Boxes.length : Int) => ai ((ai ((by omega : 0 ≤ i40)) ((by omega : i40 < (n.Boxes.length : Int))))) (ai ((Imps.refl (eLabNet n))) (ai ((Imp.refl (.v (vI i40)))) (ai (fun h4 : (!(F49 n i40)) = true => (fun hF : (false : Bool) = (F14 n) => ai (congrArg (fun r : Bool => (.bool r : Value)) hF) (trivial)) (condF h1 (finR (runL_ret hI0 (condT h3 (condT h4 (rfl)))) rfl))) (fun h4 : (!(F49 n i40)) = false => ai ((by unfold i64ok; omega : i64ok (i40 + 1))) (Exists.intro (p := fun j : Nat × Int => (fun (i40_ : Int) => (((.int .i64 (i40 + 1) : Value) = .int .i64 i40_) ∧ (Imp (.l 2 eLabLink n.Links) (.l 2 eLabLink n.Links)) ∧ (Imp (.l 2 eLabBox n.Boxes) (.l 2 eLabBox n.Boxes)) ∧ ((runL (F14_s0 n) j.1 j.2 = (runL (F14_s0 n) ((Int.toNat ((n.Boxes.length : Int) - 0)) + 1) 0) ∧ Int.toNat ((n.Boxes.length : Int) - i40_) < j.1 ∧ (0 : Int) ≤ i40_) ∧ j.1 < i0.1))) j.2) (m0, (i40 + 1)) (ai (rfl) (ai ((Imp.refl _)) (ai ((Imp.refl _)) (ai (ai (runL_next hI0 (condT h3 (condF h4 (rfl)))) (ai ((by omega : Int.toNat ((n.Boxes.length : Int) - (i40 + 1)) < m0)) ((by omega : (0 : Int) ≤ (i40 + 1))))) hl0)))))))))) (of_decide_eq_true h3)) (fun h3 : (decide (i40 < (n.Boxes.length : Int))) = false => (fun _ : ¬ i40 < (n.Boxes.length : Int) => (fun hD0_5 : (runL (F14_s0 n) ((Int.toNat ((n.Boxes.length : Int) - 0)) + 1) 0) = Lp.done i40 => (fun hF : (true : Bool) = (F14 n) => ai (congrArg (fun r : Bool => (.bool r : Value)) hF) (trivial)) (condF h1 (finD hD0_5 (rfl)))) (runL_done hI0 (condF h3 (rfl)))) (of_decide_eq_false h3))) (i0.1 - 1) i0.2 (hd1 hi0.1 hi0.2.1) (hd2 hi0.2.1) (hd3 hi0.2.1) hi0.2.2))))) (by kernel_rfl)
def F45 (n : Int) (low : Int) (high : Int) : Bool :=
  (bif decide (low ≤ n) then decide (n ≤ high) else false)
def S45 (R : Bool) (n : Int) (low : Int) (high : Int) : Spec := ⟨[.r (.c (.v (vI n))), .r (.c (.v (vI low))), .r (.c (.v (vI high)))], .v (.bool R), True⟩
theorem ok45 (n : Int) (low : Int) (high : Int) : (S45 (F45 n low high) n low high).ok Try.prog 45 :=
  fnG_ok mixed (fn := Try.f45) (ct := .seq (.no) (.seq (.no) (.no))) Try.func45 (fun (_ : True) => (fun hF : ((bif decide (low ≤ n) then decide (n ≤ high) else false) : Bool) = (F45 n low high) => ai (congrArg (fun r : Bool => (.bool r : Value)) hF) (trivial)) (rfl)) (by kernel_rfl)
theorem as45 (n : Int) (low : Int) (high : Int) : F45 n low high = (decide (low ≤ n ∧ n ≤ high)) := by
  simp only [F45, Bool.decide_and, bandd]
theorem oa45 (n : Int) (low : Int) (high : Int) : (S45 (decide (low ≤ n ∧ n ≤ high)) n low high).ok Try.prog 45 := by
  intro hp; have h := ok45 n low high hp; rw [as45 n low high] at h; exact h
def F82 (addr : Int) (length : Int) (otherAddr : Int) (otherLen : Int) : Bool :=
  (bif decide (addr < otherAddr) then true else (bif (addr == otherAddr) then decide (length < otherLen) else false))
def S82 (addr : Int) (length : Int) (otherAddr : Int) (otherLen : Int) : Spec := ⟨[.r (.c (.v (vI addr))), .r (.c (.v (vI length))), .r (.c (.v (vI otherAddr))), .r (.c (.v (vI otherLen)))], .v (.bool (F82 addr length otherAddr otherLen)), True⟩
theorem ok82 (addr : Int) (length : Int) (otherAddr : Int) (otherLen : Int) : (S82 addr length otherAddr otherLen).ok Try.prog 82 :=
  fnG_ok mixed (fn := Try.f82) (ct := .seq (.no) (.seq (.no) (.no))) Try.func82 (fun (_ : True) => (fun hF : ((bif decide (addr < otherAddr) then true else (bif (addr == otherAddr) then decide (length < otherLen) else false)) : Bool) = (F82 addr length otherAddr otherLen) => ai (congrArg (fun r : Bool => (.bool r : Value)) hF) (trivial)) (rfl)) (by kernel_rfl)
def F46_s0 (n : LabNet) : Int → Lp Int Bool := fun v8 =>
  bif (decide (v8 < (n.Links.length : Int))) then (bif (bif (bif decide ((n.Links.getD (Int.toNat v8) default).A < 0) then true else decide ((n.Links.getD (Int.toNat v8) default).A ≥ (n.Links.getD (Int.toNat v8) default).B)) then true else decide ((n.Links.getD (Int.toNat v8) default).B ≥ (n.Boxes.length : Int))) then (.ret false) else (bif (bif decide (v8 > 0) then (!(F82 ((n.Links.getD (Int.toNat (v8 - 1)) default).A) ((n.Links.getD (Int.toNat (v8 - 1)) default).B) ((n.Links.getD (Int.toNat v8) default).A) ((n.Links.getD (Int.toNat v8) default).B))) else false) then (.ret false) else (.next (v8 + 1)))) else (.done v8)
def F46 (n : LabNet) : Bool :=
  (runL (F46_s0 n) ((Int.toNat ((n.Links.length : Int) - 0)) + 1) 0).fin (fun r => r) (fun v8 => decide ((n.Links.length : Int) ≤ 14))
def S46 (n : LabNet) : Spec := ⟨[.r (.g (eLabNet n))], .v (.bool (F46 n)), True⟩
theorem ok46 (n : LabNet) : (S46 n).ok Try.prog 46 :=
  fnG_ok mixed (fn := Try.f46) (ct := .seq (.no) (.seq (.seqk [(1, 0), (1, 1), (6, 0)] (.no) (.blk (.loop (ι := Nat × Int) (fun i => (fun (v8 : Int) => (⟨[(1, some (.p 0 0)), (6, some (.h 1 0)), (7, some (.v (vI (n.Links.length : Int)))), (8, some (.v (vI v8)))], [(0, some (.box 26 [.h 1 0, .h 2 0])), (1, some (.shr none (.l 2 eLabLink n.Links))), (2, some (.shr none (.l 2 eLabBox n.Boxes)))], 3⟩ : St)) i.2) (fun i => runL (F46_s0 n) i.1 i.2 = (runL (F46_s0 n) ((Int.toNat ((n.Links.length : Int) - 0)) + 1) 0) ∧ (fun (v8 : Int) => (Int.toNat ((n.Links.length : Int) - v8) < i.1 ∧ (0 : Int) ≤ v8)) i.2) (fun i => i.1) (((Int.toNat ((n.Links.length : Int) - 0)) + 1), 0) (fun i => (fun (v8 : Int) => (.seq (.no) (.seq (.cond (.no) (.no)) (.seq (.blk (.seq (.no) (.seq (.seq (.no) (.cond (.seq (.no) (.no)) (.no))) (.seq (.reg [(6, .bnd), (13, .bnd), (21, .call 82 (S82 ((n.Links.getD (Int.toNat (v8 - 1)) default).A) ((n.Links.getD (Int.toNat (v8 - 1)) default).B) ((n.Links.getD (Int.toNat v8) default).A) ((n.Links.getD (Int.toNat v8) default).B)) (ok82 ((n.Links.getD (Int.toNat (v8 - 1)) default).A) ((n.Links.getD (Int.toNat (v8 - 1)) default).B) ((n.Links.getD (Int.toNat v8) default).A) ((n.Links.getD (Int.toNat v8) default).B)) none)]) (.cond (.seq (.no) (.no)) (.no)))))) (.reg [(0, .bnd)]))))) i.2)))) (.seq (.no) (.no)))) Try.func46 (fun (_ : True) => fun (_ : n.Links.length ≤ 9223372036854775807) => fun (_ : n.Boxes.length ≤ 9223372036854775807) => fun (_ : n.Links.length ≤ 9223372036854775807) => ai (ai (rfl) (ai (rfl) (ai ((Imp.refl _)) (ai ((Imp.refl _)) ((ai (rfl : runL (F46_s0 n) ((Int.toNat ((n.Links.length : Int) - 0)) + 1) 0 = (runL (F46_s0 n) ((Int.toNat ((n.Links.length : Int) - 0)) + 1) 0)) (ai ((Nat.lt_succ_self _ : Int.toNat ((n.Links.length : Int) - 0) < ((Int.toNat ((n.Links.length : Int) - 0)) + 1))) ((by omega : (0 : Int) ≤ 0)))))))) : ((.int .i64 (n.Links.length : Int) : Value) = .int .i64 (n.Links.length : Int)) ∧ ((.int .i64 0 : Value) = .int .i64 0) ∧ (Imp (.l 2 eLabLink n.Links) (.l 2 eLabLink n.Links)) ∧ (Imp (.l 2 eLabBox n.Boxes) (.l 2 eLabBox n.Boxes)) ∧ (runL (F46_s0 n) ((Int.toNat ((n.Links.length : Int) - 0)) + 1) 0 = (runL (F46_s0 n) ((Int.toNat ((n.Links.length : Int) - 0)) + 1) 0) ∧ Int.toNat ((n.Links.length : Int) - 0) < ((Int.toNat ((n.Links.length : Int) - 0)) + 1) ∧ (0 : Int) ≤ 0)) (fun (i0 : Nat × Int) (hi0 : runL (F46_s0 n) i0.1 i0.2 = (runL (F46_s0 n) ((Int.toNat ((n.Links.length : Int) - 0)) + 1) 0) ∧ (fun (v8 : Int) => (Int.toNat ((n.Links.length : Int) - v8) < i0.1 ∧ (0 : Int) ≤ v8)) i0.2) => (fun (m0 : Nat) (v8 : Int) (hI0 : runL (F46_s0 n) (m0 + 1) v8 = (runL (F46_s0 n) ((Int.toNat ((n.Links.length : Int) - 0)) + 1) 0)) (_ : Int.toNat ((n.Links.length : Int) - v8) < m0 + 1) (hl0 : m0 < i0.1) (_ : (0 : Int) ≤ v8) => ai (fun h2 : (decide (v8 < (n.Links.length : Int))) = true => (fun _ : v8 < (n.Links.length : Int) => ai ((by omega : 0 ≤ v8 ∧ v8 < (n.Links.length : Int))) (ai (fun h3 : (bif (bif decide ((n.Links.getD (Int.toNat v8) default).A < 0) then true else decide ((n.Links.getD (Int.toNat v8) default).A ≥ (n.Links.getD (Int.toNat v8) default).B)) then true else decide ((n.Links.getD (Int.toNat v8) default).B ≥ (n.Boxes.length : Int))) = true => (fun hF : (false : Bool) = (F46 n) => ai (congrArg (fun r : Bool => (.bool r : Value)) hF) (trivial)) (finR (runL_ret hI0 (condT h2 (condT h3 (rfl)))) rfl)) (fun h3 : (bif (bif decide ((n.Links.getD (Int.toNat v8) default).A < 0) then true else decide ((n.Links.getD (Int.toNat v8) default).A ≥ (n.Links.getD (Int.toNat v8) default).B)) then true else decide ((n.Links.getD (Int.toNat v8) default).B ≥ (n.Boxes.length : Int))) = false => (fun _ : ¬ (n.Links.getD (Int.toNat v8) default).B ≥ (n.Boxes.length : Int) => (fun _ : ¬ (n.Links.getD (Int.toNat v8) default).A ≥ (n.Links.getD (Int.toNat v8) default).B => (fun _ : ¬ (n.Links.getD (Int.toNat v8) default).A < 0 => ai ((fun k4 : (decide (v8 > 0)) = true => (fun _ : v8 > 0 => (by unfold i64ok; omega : i64ok (v8 - 1))) (of_decide_eq_true k4))) (ai ((fun k5 : (decide (v8 > 0)) = true => (fun _ : v8 > 0 => (by omega : 0 ≤ (v8 - 1) ∧ (v8 - 1) < (n.Links.length : Int))) (of_decide_eq_true k5))) (ai ((fun k6 : (decide (v8 > 0)) = true => (fun _ : v8 > 0 => (by unfold i64ok; omega : i64ok (v8 - 1))) (of_decide_eq_true k6))) (ai ((fun k7 : (decide (v8 > 0)) = true => (fun _ : v8 > 0 => (by omega : 0 ≤ (v8 - 1) ∧ (v8 - 1) < (n.Links.length : Int))) (of_decide_eq_true k7))) (ai ((fun k8 : (decide (v8 > 0)) = true => (fun _ : v8 > 0 => trivial) (of_decide_eq_true k8))) (ai ((fun k9 : (decide (v8 > 0)) = true => (fun _ : v8 > 0 => (Imp.refl (.v (vI ((n.Links.getD (Int.toNat (v8 - 1)) default).A))))) (of_decide_eq_true k9))) (ai ((fun k10 : (decide (v8 > 0)) = true => (fun _ : v8 > 0 => (Imp.refl (.v (vI ((n.Links.getD (Int.toNat (v8 - 1)) default).B))))) (of_decide_eq_true k10))) (ai ((fun k11 : (decide (v8 > 0)) = true => (fun _ : v8 > 0 => (Imp.refl (.v (vI ((n.Links.getD (Int.toNat v8) default).A))))) (of_decide_eq_true k11))) (ai ((fun k12 : (decide (v8 > 0)) = true => (fun _ : v8 > 0 => (Imp.refl (.v (vI ((n.Links.getD (Int.toNat v8) default).B))))) (of_decide_eq_true k12))) (ai (fun h13 : (bif decide (v8 > 0) then (!(F82 ((n.Links.getD (Int.toNat (v8 - 1)) default).A) ((n.Links.getD (Int.toNat (v8 - 1)) default).B) ((n.Links.getD (Int.toNat v8) default).A) ((n.Links.getD (Int.toNat v8) default).B))) else false) = true => (fun _ : v8 > 0 => (fun hF : (false : Bool) = (F46 n) => ai (congrArg (fun r : Bool => (.bool r : Value)) hF) (trivial)) (finR (runL_ret hI0 (condT h2 (condF h3 (condT h13 (rfl))))) rfl)) (of_decide_eq_true (andT1 h13))) (fun h13 : (bif decide (v8 > 0) then (!(F82 ((n.Links.getD (Int.toNat (v8 - 1)) default).A) ((n.Links.getD (Int.toNat (v8 - 1)) default).B) ((n.Links.getD (Int.toNat v8) default).A) ((n.Links.getD (Int.toNat v8) default).B))) else false) = false => ai ((by unfold i64ok; omega : i64ok (v8 + 1))) (Exists.intro (p := fun j : Nat × Int => (fun (v8_ : Int) => (((.int .i64 (n.Links.length : Int) : Value) = .int .i64 (n.Links.length : Int)) ∧ ((.int .i64 (v8 + 1) : Value) = .int .i64 v8_) ∧ (Imp (.l 2 eLabLink n.Links) (.l 2 eLabLink n.Links)) ∧ (Imp (.l 2 eLabBox n.Boxes) (.l 2 eLabBox n.Boxes)) ∧ ((runL (F46_s0 n) j.1 j.2 = (runL (F46_s0 n) ((Int.toNat ((n.Links.length : Int) - 0)) + 1) 0) ∧ Int.toNat ((n.Links.length : Int) - v8_) < j.1 ∧ (0 : Int) ≤ v8_) ∧ j.1 < i0.1))) j.2) (m0, (v8 + 1)) (ai (rfl) (ai (rfl) (ai ((Imp.refl _)) (ai ((Imp.refl _)) (ai (ai (runL_next hI0 (condT h2 (condF h3 (condF h13 (rfl))))) (ai ((by omega : Int.toNat ((n.Links.length : Int) - (v8 + 1)) < m0)) ((by omega : (0 : Int) ≤ (v8 + 1))))) hl0))))))))))))))))) (of_decide_eq_false (orF1 (orF1 h3)))) (of_decide_eq_false (orF2 (orF1 h3)))) (of_decide_eq_false (orF2 h3))))) (of_decide_eq_true h2)) (fun h2 : (decide (v8 < (n.Links.length : Int))) = false => (fun _ : ¬ v8 < (n.Links.length : Int) => (fun hD0_14 : (runL (F46_s0 n) ((Int.toNat ((n.Links.length : Int) - 0)) + 1) 0) = Lp.done v8 => (fun hF : (decide ((n.Links.length : Int) ≤ 14) : Bool) = (F46 n) => ai (congrArg (fun r : Bool => (.bool r : Value)) hF) (trivial)) (finD hD0_14 (rfl))) (runL_done hI0 (condF h2 (rfl)))) (of_decide_eq_false h2))) (i0.1 - 1) i0.2 (hd1 hi0.1 hi0.2.1) (hd2 hi0.2.1) (hd3 hi0.2.1) hi0.2.2)) (by kernel_rfl)
def F83 (label : Int) : Bool :=
  (decide (1 ≤ label ∧ label ≤ 60))
def S83 (R : Bool) (label : Int) : Spec := ⟨[.r (.c (.v (vI label)))], .v (.bool R), True⟩
theorem ok83 (label : Int) : (S83 (F83 label) label).ok Try.prog 83 :=
  fnG_ok mixed (fn := Try.f83) (ct := .seq (.no) (.seq (.reg [(1, .call 45 (S45 (decide (1 ≤ label ∧ label ≤ 60)) label 1 60) (oa45 label 1 60) none)]) (.no))) Try.func83 (fun (_ : True) => ai (trivial) (ai ((Imp.refl (.v (vI label)))) (ai ((Imp.refl (.v (vI 1)))) (ai ((Imp.refl (.v (vI 60)))) ((fun hF : ((decide (1 ≤ label ∧ label ≤ 60)) : Bool) = (F83 label) => ai (congrArg (fun r : Bool => (.bool r : Value)) hF) (trivial)) (rfl)))))) (by kernel_rfl)
theorem as83 (label : Int) : F83 label = (decide (1 ≤ label ∧ label ≤ 60)) := by
  rfl
theorem oa83 (label : Int) : (S83 (decide (1 ≤ label ∧ label ≤ 60)) label).ok Try.prog 83 := by
  intro hp; have h := ok83 label hp; rw [as83 label] at h; exact h
theorem eqlT36 (x0 y0 : Int) (x1 y1 : Int) (p q : Operand) (w : World) : (do eqGuard .eql 36 p q (.agg #[.int .i64 x0, .int .i64 x1]) (.agg #[.int .i64 y0, .int .i64 y1]); binOp .eql 36 (.agg #[.int .i64 x0, .int .i64 x1]) (.agg #[.int .i64 y0, .int .i64 y1])).run Try.prog w = .ok (.bool ((x0 == y0) && (x1 == y1))) w := by
  by_cases h0 : x0 = y0
  case neg => simp [go_sem, h0]
  by_cases h1 : x1 = y1
  case neg => simp [go_sem, h0, h1]
  simp [go_sem, h0, h1]
def F86_s0 (s : List LabLink) (v1 : LabLink) : Int → Lp Int Int := fun v8 =>
  bif (decide (v8 < (s.length : Int))) then (bif ((v1.A == ((s.getD (Int.toNat v8) default).A)) && (v1.B == ((s.getD (Int.toNat v8) default).B))) then (.ret v8) else (.next (v8 + 1))) else (.done v8)
def F86 (s : List LabLink) (v1 : LabLink) : Int :=
  (runL (F86_s0 s v1) ((Int.toNat ((s.length : Int) - 0)) + 1) 0).fin (fun r => r) (fun v8 => (-1))
def S86 (s : List LabLink) (v1 : LabLink) : Spec := ⟨[.r (.c (.l 2 eLabLink s)), .r (.g (eLabLink v1))], .v (vI (F86 s v1)), True⟩
theorem ok86 (s : List LabLink) (v1 : LabLink) : (S86 s v1).ok Try.prog 86 :=
  fnG_ok mixed (fn := Try.f86) (ct := .seqk [(0, 0)] (.no) (.seq (.seqk [(0, 0)] (.no) (.blk (.loop (ι := Nat × Int) (fun i => (fun (v8 : Int) => (⟨[(0, some (.h 0 0)), (3, some (.p 1 0)), (7, some (.v (vI (s.length : Int)))), (8, some (.v (vI v8)))], [(0, some (.shr none (.l 2 eLabLink s))), (1, some (.box 36 [.v (vI v1.A), .v (vI v1.B)]))], 2⟩ : St)) i.2) (fun i => runL (F86_s0 s v1) i.1 i.2 = (runL (F86_s0 s v1) ((Int.toNat ((s.length : Int) - 0)) + 1) 0) ∧ (fun (v8 : Int) => (Int.toNat ((s.length : Int) - v8) < i.1 ∧ (0 : Int) ≤ v8)) i.2) (fun i => i.1) (((Int.toNat ((s.length : Int) - 0)) + 1), 0) (fun i => (fun (v8 : Int) => (.seq (.no) (.seq (.cond (.no) (.no)) (.seq (.blk (.seq (.no) (.seq (.reg [(5, .bin .eql 36 (.agg #[.int .i64 v1.A, .int .i64 v1.B]) (.agg #[.int .i64 ((s.getD (Int.toNat v8) default).A), .int .i64 ((s.getD (Int.toNat v8) default).B)]) (.bool ((v1.A == ((s.getD (Int.toNat v8) default).A)) && (v1.B == ((s.getD (Int.toNat v8) default).B)))) rfl (eqlT36 v1.A ((s.getD (Int.toNat v8) default).A) v1.B ((s.getD (Int.toNat v8) default).B)))]) (.cond (.seq (.no) (.no)) (.no))))) (.reg [(0, .bnd)]))))) i.2)))) (.seq (.no) (.no)))) Try.func86 (fun (_ : True) => fun (_ : s.length ≤ 9223372036854775807) => fun (_ : s.length ≤ 9223372036854775807) => ai (ai (rfl) (ai (rfl) (ai ((Imp.refl _)) (ai (rfl) (ai (rfl) ((ai (rfl : runL (F86_s0 s v1) ((Int.toNat ((s.length : Int) - 0)) + 1) 0 = (runL (F86_s0 s v1) ((Int.toNat ((s.length : Int) - 0)) + 1) 0)) (ai ((Nat.lt_succ_self _ : Int.toNat ((s.length : Int) - 0) < ((Int.toNat ((s.length : Int) - 0)) + 1))) ((by omega : (0 : Int) ≤ 0))))))))) : ((.int .i64 (s.length : Int) : Value) = .int .i64 (s.length : Int)) ∧ ((.int .i64 0 : Value) = .int .i64 0) ∧ (Imp (.l 2 eLabLink s) (.l 2 eLabLink s)) ∧ ((.int .i64 v1.A : Value) = .int .i64 v1.A) ∧ ((.int .i64 v1.B : Value) = .int .i64 v1.B) ∧ (runL (F86_s0 s v1) ((Int.toNat ((s.length : Int) - 0)) + 1) 0 = (runL (F86_s0 s v1) ((Int.toNat ((s.length : Int) - 0)) + 1) 0) ∧ Int.toNat ((s.length : Int) - 0) < ((Int.toNat ((s.length : Int) - 0)) + 1) ∧ (0 : Int) ≤ 0)) (fun (i0 : Nat × Int) (hi0 : runL (F86_s0 s v1) i0.1 i0.2 = (runL (F86_s0 s v1) ((Int.toNat ((s.length : Int) - 0)) + 1) 0) ∧ (fun (v8 : Int) => (Int.toNat ((s.length : Int) - v8) < i0.1 ∧ (0 : Int) ≤ v8)) i0.2) => (fun (m0 : Nat) (v8 : Int) (hI0 : runL (F86_s0 s v1) (m0 + 1) v8 = (runL (F86_s0 s v1) ((Int.toNat ((s.length : Int) - 0)) + 1) 0)) (_ : Int.toNat ((s.length : Int) - v8) < m0 + 1) (hl0 : m0 < i0.1) (_ : (0 : Int) ≤ v8) => ai (fun h2 : (decide (v8 < (s.length : Int))) = true => (fun _ : v8 < (s.length : Int) => ai ((by omega : 0 ≤ v8 ∧ v8 < (s.length : Int))) (ai ((Eq.refl (.agg #[.int .i64 v1.A, .int .i64 v1.B] : Value))) (ai ((Eq.refl (.agg #[.int .i64 ((s.getD (Int.toNat v8) default).A), .int .i64 ((s.getD (Int.toNat v8) default).B)] : Value))) (ai (fun h3 : ((v1.A == ((s.getD (Int.toNat v8) default).A)) && (v1.B == ((s.getD (Int.toNat v8) default).B))) = true => (fun hF : (v8 : Int) = (F86 s v1) => ai (congrArg (fun r : Int => (.int .i64 r : Value)) hF) (trivial)) (finR (runL_ret hI0 (condT h2 (condT h3 (rfl)))) rfl)) (fun h3 : ((v1.A == ((s.getD (Int.toNat v8) default).A)) && (v1.B == ((s.getD (Int.toNat v8) default).B))) = false => ai ((by unfold i64ok; omega : i64ok (v8 + 1))) (Exists.intro (p := fun j : Nat × Int => (fun (v8_ : Int) => (((.int .i64 (s.length : Int) : Value) = .int .i64 (s.length : Int)) ∧ ((.int .i64 (v8 + 1) : Value) = .int .i64 v8_) ∧ (Imp (.l 2 eLabLink s) (.l 2 eLabLink s)) ∧ ((.int .i64 v1.A : Value) = .int .i64 v1.A) ∧ ((.int .i64 v1.B : Value) = .int .i64 v1.B) ∧ ((runL (F86_s0 s v1) j.1 j.2 = (runL (F86_s0 s v1) ((Int.toNat ((s.length : Int) - 0)) + 1) 0) ∧ Int.toNat ((s.length : Int) - v8_) < j.1 ∧ (0 : Int) ≤ v8_) ∧ j.1 < i0.1))) j.2) (m0, (v8 + 1)) (ai (rfl) (ai (rfl) (ai ((Imp.refl _)) (ai (rfl) (ai (rfl) (ai (ai (runL_next hI0 (condT h2 (condF h3 (rfl)))) (ai ((by omega : Int.toNat ((s.length : Int) - (v8 + 1)) < m0)) ((by omega : (0 : Int) ≤ (v8 + 1))))) hl0)))))))))))) (of_decide_eq_true h2)) (fun h2 : (decide (v8 < (s.length : Int))) = false => (fun _ : ¬ v8 < (s.length : Int) => (fun hD0_4 : (runL (F86_s0 s v1) ((Int.toNat ((s.length : Int) - 0)) + 1) 0) = Lp.done v8 => (fun hF : ((-1) : Int) = (F86 s v1) => ai (congrArg (fun r : Int => (.int .i64 r : Value)) hF) (trivial)) (finD hD0_4 (rfl))) (runL_done hI0 (condF h2 (rfl)))) (of_decide_eq_false h2))) (i0.1 - 1) i0.2 (hd1 hi0.1 hi0.2.1) (hd2 hi0.2.1) (hd3 hi0.2.1) hi0.2.2)) (by kernel_rfl)
def F50 (n : LabNet) (a : Int) (b : Int) : Int :=
  (F86 n.Links (⟨(if b < a then b else a), (if b > a then b else a)⟩ : LabLink))
def S50 (R : Int) (n : LabNet) (a : Int) (b : Int) : Spec := ⟨[.r (.g (eLabNet n)), .r (.c (.v (vI a))), .r (.c (.v (vI b)))], .v (vI R), True⟩
theorem ok50 (n : LabNet) (a : Int) (b : Int) : (S50 (F50 n a b) n a b).ok Try.prog 50 :=
  fnG_ok mixed (fn := Try.f50) (ct := .seq (.no) (.seq (.reg [(9, .call 86 (S86 n.Links (⟨(if b < a then b else a), (if b > a then b else a)⟩ : LabLink)) (ok86 n.Links (⟨(if b < a then b else a), (if b > a then b else a)⟩ : LabLink)) none)]) (.no))) Try.func50 (fun (_ : True) => ai (trivial) (ai ((Imp.refl (.l 2 eLabLink n.Links))) (ai ((Imps.refl (eLabLink (⟨(if b < a then b else a), (if b > a then b else a)⟩ : LabLink)))) ((fun hF : ((F86 n.Links (⟨(if b < a then b else a), (if b > a then b else a)⟩ : LabLink)) : Int) = (F50 n a b) => ai (congrArg (fun r : Int => (.int .i64 r : Value)) hF) (trivial)) (rfl))))) (by kernel_rfl)
def F47_s1 (n : LabNet) (at' : Int) : Int → Lp Int Bool := fun v74 =>
  bif (decide (v74 < (((n.Boxes.getD (Int.toNat at') default).Guards).length : Int))) then (bif (bif (bif (bif (bif ((((n.Boxes.getD (Int.toNat at') default).Guards).getD (Int.toNat v74) default).To == (((n.Boxes.getD (Int.toNat at') default).Guards).getD (Int.toNat v74) default).Via) then true else decide ((F50 n at' ((((n.Boxes.getD (Int.toNat at') default).Guards).getD (Int.toNat v74) default).To)) < 0)) then true else decide ((F50 n at' ((((n.Boxes.getD (Int.toNat at') default).Guards).getD (Int.toNat v74) default).Via)) < 0)) then true else (!(decide (1 ≤ ((((n.Boxes.getD (Int.toNat at') default).Guards).getD (Int.toNat v74) default).Push) ∧ ((((n.Boxes.getD (Int.toNat at') default).Guards).getD (Int.toNat v74) default).Push) ≤ 60)))) then true else (bif decide (v74 > 0) then decide ((((n.Boxes.getD (Int.toNat at') default).Guards).getD (Int.toNat (v74 - 1)) default).To ≥ (((n.Boxes.getD (Int.toNat at') default).Guards).getD (Int.toNat v74) default).To) else false)) then (.ret false) else (.next (v74 + 1))) else (.done v74)
def F47_s0 (n : LabNet) (at' : Int) : Int → Lp Int Bool := fun v19 =>
  bif (decide (v19 < (((n.Boxes.getD (Int.toNat at') default).Rows).length : Int))) then (bif (bif (bif (!(decide (1 ≤ ((((n.Boxes.getD (Int.toNat at') default).Rows).getD (Int.toNat v19) default).In) ∧ ((((n.Boxes.getD (Int.toNat at') default).Rows).getD (Int.toNat v19) default).In) ≤ 60))) then true else (bif (!(bif ((((n.Boxes.getD (Int.toNat at') default).Rows).getD (Int.toNat v19) default).Next == (-1)) then ((((n.Boxes.getD (Int.toNat at') default).Rows).getD (Int.toNat v19) default).Out == 0) else false)) then (bif decide ((F50 n at' ((((n.Boxes.getD (Int.toNat at') default).Rows).getD (Int.toNat v19) default).Next)) < 0) then true else (!(decide (1 ≤ ((((n.Boxes.getD (Int.toNat at') default).Rows).getD (Int.toNat v19) default).Out) ∧ ((((n.Boxes.getD (Int.toNat at') default).Rows).getD (Int.toNat v19) default).Out) ≤ 60)))) else false)) then true else (bif decide (v19 > 0) then decide ((((n.Boxes.getD (Int.toNat at') default).Rows).getD (Int.toNat (v19 - 1)) default).In ≥ (((n.Boxes.getD (Int.toNat at') default).Rows).getD (Int.toNat v19) default).In) else false)) then (.ret false) else (.next (v19 + 1))) else (.done v19)
def F47 (n : LabNet) (at' : Int) : Bool :=
  (runL (F47_s0 n at') ((Int.toNat ((((n.Boxes.getD (Int.toNat at') default).Rows).length : Int) - 0)) + 1) 0).fin (fun r => r) (fun v19 => (runL (F47_s1 n at') ((Int.toNat ((((n.Boxes.getD (Int.toNat at') default).Guards).length : Int) - 0)) + 1) 0).fin (fun r => r) (fun v74 => true))
def S47 (n : LabNet) (at' : Int) : Spec := ⟨[.r (.g (eLabNet n)), .r (.c (.v (vI at')))], .v (.bool (F47 n at')), 0 ≤ at' ∧ at' < (n.Boxes.length : Int)⟩
theorem ok47 (n : LabNet) (at' : Int) : (S47 n at').ok Try.prog 47 :=
  fnG_ok mixed (fn := Try.f47) (ct := .seq (.no) (.seq (.no) (.seq (.seqk [(2, 0), (2, 1), (5, 0), (5, 1), (17, 0)] (.no) (.blk (.loop (ι := Nat × Int) (fun i => (fun (v19 : Int) => (⟨[(1, some (.v (vI at'))), (2, some (.p 0 0)), (5, some (.p 3 0)), (17, some (.h 4 1)), (18, some (.v (vI (((n.Boxes.getD (Int.toNat at') default).Rows).length : Int)))), (19, some (.v (vI v19)))], [(0, some (.box 26 [.h 1 0, .h 2 0])), (1, some (.shr none (.l 2 eLabLink n.Links))), (2, some (.shr none (.l 2 eLabBox n.Boxes))), (3, some (.box 54 [.h 4 1, .h 4 2])), (4, some (.mem none none (eLabBox (n.Boxes.getD (Int.toNat at') default))))], 5⟩ : St)) i.2) (fun i => runL (F47_s0 n at') i.1 i.2 = (runL (F47_s0 n at') ((Int.toNat ((((n.Boxes.getD (Int.toNat at') default).Rows).length : Int) - 0)) + 1) 0) ∧ (fun (v19 : Int) => (Int.toNat ((((n.Boxes.getD (Int.toNat at') default).Rows).length : Int) - v19) < i.1 ∧ (0 : Int) ≤ v19)) i.2) (fun i => i.1) (((Int.toNat ((((n.Boxes.getD (Int.toNat at') default).Rows).length : Int) - 0)) + 1), 0) (fun i => (fun (v19 : Int) => (.seq (.no) (.seq (.cond (.no) (.no)) (.seq (.blk (.seq (.no) (.seq (.no) (.seq (.reg [(2, .call 83 (S83 (decide (1 ≤ ((((n.Boxes.getD (Int.toNat at') default).Rows).getD (Int.toNat v19) default).In) ∧ ((((n.Boxes.getD (Int.toNat at') default).Rows).getD (Int.toNat v19) default).In) ≤ 60)) ((((n.Boxes.getD (Int.toNat at') default).Rows).getD (Int.toNat v19) default).In)) (oa83 ((((n.Boxes.getD (Int.toNat at') default).Rows).getD (Int.toNat v19) default).In)) none), (12, .call 50 (S50 (F50 n at' ((((n.Boxes.getD (Int.toNat at') default).Rows).getD (Int.toNat v19) default).Next)) n at' ((((n.Boxes.getD (Int.toNat at') default).Rows).getD (Int.toNat v19) default).Next)) (ok50 n at' ((((n.Boxes.getD (Int.toNat at') default).Rows).getD (Int.toNat v19) default).Next)) none), (17, .call 83 (S83 (decide (1 ≤ ((((n.Boxes.getD (Int.toNat at') default).Rows).getD (Int.toNat v19) default).Out) ∧ ((((n.Boxes.getD (Int.toNat at') default).Rows).getD (Int.toNat v19) default).Out) ≤ 60)) ((((n.Boxes.getD (Int.toNat at') default).Rows).getD (Int.toNat v19) default).Out)) (oa83 ((((n.Boxes.getD (Int.toNat at') default).Rows).getD (Int.toNat v19) default).Out)) none), (29, .bnd)]) (.cond (.seq (.no) (.no)) (.no)))))) (.reg [(0, .bnd)]))))) i.2)))) (.seq (.seqk [(2, 0), (2, 1), (5, 0), (5, 1), (72, 0)] (.no) (.blk (.loop (ι := Nat × Int) (fun i => (fun (v74 : Int) => (⟨[(1, some (.v (vI at'))), (2, some (.p 0 0)), (5, some (.p 3 0)), (72, some (.h 4 2)), (73, some (.v (vI (((n.Boxes.getD (Int.toNat at') default).Guards).length : Int)))), (74, some (.v (vI v74)))], [(0, some (.box 26 [.h 1 0, .h 2 0])), (1, some (.shr none (.l 2 eLabLink n.Links))), (2, some (.shr none (.l 2 eLabBox n.Boxes))), (3, some (.box 54 [.h 4 1, .h 4 2])), (4, some (.mem none none (eLabBox (n.Boxes.getD (Int.toNat at') default))))], 5⟩ : St)) i.2) (fun i => runL (F47_s1 n at') i.1 i.2 = (runL (F47_s1 n at') ((Int.toNat ((((n.Boxes.getD (Int.toNat at') default).Guards).length : Int) - 0)) + 1) 0) ∧ (fun (v74 : Int) => (Int.toNat ((((n.Boxes.getD (Int.toNat at') default).Guards).length : Int) - v74) < i.1 ∧ (0 : Int) ≤ v74)) i.2) (fun i => i.1) (((Int.toNat ((((n.Boxes.getD (Int.toNat at') default).Guards).length : Int) - 0)) + 1), 0) (fun i => (fun (v74 : Int) => (.seq (.no) (.seq (.cond (.no) (.no)) (.seq (.blk (.seq (.no) (.seq (.reg [(10, .call 50 (S50 (F50 n at' ((((n.Boxes.getD (Int.toNat at') default).Guards).getD (Int.toNat v74) default).To)) n at' ((((n.Boxes.getD (Int.toNat at') default).Guards).getD (Int.toNat v74) default).To)) (ok50 n at' ((((n.Boxes.getD (Int.toNat at') default).Guards).getD (Int.toNat v74) default).To)) none), (18, .call 50 (S50 (F50 n at' ((((n.Boxes.getD (Int.toNat at') default).Guards).getD (Int.toNat v74) default).Via)) n at' ((((n.Boxes.getD (Int.toNat at') default).Guards).getD (Int.toNat v74) default).Via)) (ok50 n at' ((((n.Boxes.getD (Int.toNat at') default).Guards).getD (Int.toNat v74) default).Via)) none), (24, .call 83 (S83 (decide (1 ≤ ((((n.Boxes.getD (Int.toNat at') default).Guards).getD (Int.toNat v74) default).Push) ∧ ((((n.Boxes.getD (Int.toNat at') default).Guards).getD (Int.toNat v74) default).Push) ≤ 60)) ((((n.Boxes.getD (Int.toNat at') default).Guards).getD (Int.toNat v74) default).Push)) (oa83 ((((n.Boxes.getD (Int.toNat at') default).Guards).getD (Int.toNat v74) default).Push)) none), (34, .bnd)]) (.cond (.seq (.no) (.no)) (.no))))) (.reg [(0, .bnd)]))))) i.2)))) (.seq (.no) (.no)))))) Try.func47 (fun (hp : 0 ≤ at' ∧ at' < (n.Boxes.length : Int)) => (fun (hpre0 : 0 ≤ at') (hpre1 : at' < (n.Boxes.length : Int)) => ai ((by omega : 0 ≤ at' ∧ at' < (n.Boxes.length : Int))) (fun (_ : n.Links.length ≤ 9223372036854775807) => fun (_ : n.Boxes.length ≤ 9223372036854775807) => fun (_ : ((n.Boxes.getD (Int.toNat at') default).Rows).length ≤ 9223372036854775807) => fun (_ : ((n.Boxes.getD (Int.toNat at') default).Guards).length ≤ 9223372036854775807) => fun (_ : ((n.Boxes.getD (Int.toNat at') default).Rows).length ≤ 9223372036854775807) => ai (ai (rfl) (ai (rfl) (ai (rfl) (ai ((Imp.refl _)) (ai ((Imp.refl _)) (ai ((Imps.refl _)) ((ai (rfl : runL (F47_s0 n at') ((Int.toNat ((((n.Boxes.getD (Int.toNat at') default).Rows).length : Int) - 0)) + 1) 0 = (runL (F47_s0 n at') ((Int.toNat ((((n.Boxes.getD (Int.toNat at') default).Rows).length : Int) - 0)) + 1) 0)) (ai ((Nat.lt_succ_self _ : Int.toNat ((((n.Boxes.getD (Int.toNat at') default).Rows).length : Int) - 0) < ((Int.toNat ((((n.Boxes.getD (Int.toNat at') default).Rows).length : Int) - 0)) + 1))) ((by omega : (0 : Int) ≤ 0)))))))))) : ((.int .i64 at' : Value) = .int .i64 at') ∧ ((.int .i64 (((n.Boxes.getD (Int.toNat at') default).Rows).length : Int) : Value) = .int .i64 (((n.Boxes.getD (Int.toNat at') default).Rows).length : Int)) ∧ ((.int .i64 0 : Value) = .int .i64 0) ∧ (Imp (.l 2 eLabLink n.Links) (.l 2 eLabLink n.Links)) ∧ (Imp (.l 2 eLabBox n.Boxes) (.l 2 eLabBox n.Boxes)) ∧ (Imps (eLabBox (n.Boxes.getD (Int.toNat at') default)) (eLabBox (n.Boxes.getD (Int.toNat at') default))) ∧ (runL (F47_s0 n at') ((Int.toNat ((((n.Boxes.getD (Int.toNat at') default).Rows).length : Int) - 0)) + 1) 0 = (runL (F47_s0 n at') ((Int.toNat ((((n.Boxes.getD (Int.toNat at') default).Rows).length : Int) - 0)) + 1) 0) ∧ Int.toNat ((((n.Boxes.getD (Int.toNat at') default).Rows).length : Int) - 0) < ((Int.toNat ((((n.Boxes.getD (Int.toNat at') default).Rows).length : Int) - 0)) + 1) ∧ (0 : Int) ≤ 0)) (fun (i0 : Nat × Int) (hi0 : runL (F47_s0 n at') i0.1 i0.2 = (runL (F47_s0 n at') ((Int.toNat ((((n.Boxes.getD (Int.toNat at') default).Rows).length : Int) - 0)) + 1) 0) ∧ (fun (v19 : Int) => (Int.toNat ((((n.Boxes.getD (Int.toNat at') default).Rows).length : Int) - v19) < i0.1 ∧ (0 : Int) ≤ v19)) i0.2) => (fun (m0 : Nat) (v19 : Int) (hI0 : runL (F47_s0 n at') (m0 + 1) v19 = (runL (F47_s0 n at') ((Int.toNat ((((n.Boxes.getD (Int.toNat at') default).Rows).length : Int) - 0)) + 1) 0)) (_ : Int.toNat ((((n.Boxes.getD (Int.toNat at') default).Rows).length : Int) - v19) < m0 + 1) (hl0 : m0 < i0.1) (_ : (0 : Int) ≤ v19) => ai (fun h2 : (decide (v19 < (((n.Boxes.getD (Int.toNat at') default).Rows).length : Int))) = true => (fun _ : v19 < (((n.Boxes.getD (Int.toNat at') default).Rows).length : Int) => ai ((by omega : 0 ≤ v19 ∧ v19 < (((n.Boxes.getD (Int.toNat at') default).Rows).length : Int))) (ai (trivial) (ai ((Imp.refl (.v (vI ((((n.Boxes.getD (Int.toNat at') default).Rows).getD (Int.toNat v19) default).In))))) (ai ((fun k4 : (!(bif ((((n.Boxes.getD (Int.toNat at') default).Rows).getD (Int.toNat v19) default).Next == (-1)) then ((((n.Boxes.getD (Int.toNat at') default).Rows).getD (Int.toNat v19) default).Out == 0) else false)) = true => (fun k3 : (!(decide (1 ≤ ((((n.Boxes.getD (Int.toNat at') default).Rows).getD (Int.toNat v19) default).In) ∧ ((((n.Boxes.getD (Int.toNat at') default).Rows).getD (Int.toNat v19) default).In) ≤ 60))) = false => (fun _ : 1 ≤ ((((n.Boxes.getD (Int.toNat at') default).Rows).getD (Int.toNat v19) default).In) ∧ ((((n.Boxes.getD (Int.toNat at') default).Rows).getD (Int.toNat v19) default).In) ≤ 60 => trivial) (of_decide_eq_true (notEF k3))))) (ai ((fun k6 : (!(bif ((((n.Boxes.getD (Int.toNat at') default).Rows).getD (Int.toNat v19) default).Next == (-1)) then ((((n.Boxes.getD (Int.toNat at') default).Rows).getD (Int.toNat v19) default).Out == 0) else false)) = true => (fun k5 : (!(decide (1 ≤ ((((n.Boxes.getD (Int.toNat at') default).Rows).getD (Int.toNat v19) default).In) ∧ ((((n.Boxes.getD (Int.toNat at') default).Rows).getD (Int.toNat v19) default).In) ≤ 60))) = false => (fun _ : 1 ≤ ((((n.Boxes.getD (Int.toNat at') default).Rows).getD (Int.toNat v19) default).In) ∧ ((((n.Boxes.getD (Int.toNat at') default).Rows).getD (Int.toNat v19) default).In) ≤ 60 => (Imps.refl (eLabNet n))) (of_decide_eq_true (notEF k5))))) (ai ((fun k8 : (!(bif ((((n.Boxes.getD (Int.toNat at') default).Rows).getD (Int.toNat v19) default).Next == (-1)) then ((((n.Boxes.getD (Int.toNat at') default).Rows).getD (Int.toNat v19) default).Out == 0) else false)) = true => (fun k7 : (!(decide (1 ≤ ((((n.Boxes.getD (Int.toNat at') default).Rows).getD (Int.toNat v19) default).In) ∧ ((((n.Boxes.getD (Int.toNat at') default).Rows).getD (Int.toNat v19) default).In) ≤ 60))) = false => (fun _ : 1 ≤ ((((n.Boxes.getD (Int.toNat at') default).Rows).getD (Int.toNat v19) default).In) ∧ ((((n.Boxes.getD (Int.toNat at') default).Rows).getD (Int.toNat v19) default).In) ≤ 60 => (Imp.refl (.v (vI at')))) (of_decide_eq_true (notEF k7))))) (ai ((fun k10 : (!(bif ((((n.Boxes.getD (Int.toNat at') default).Rows).getD (Int.toNat v19) default).Next == (-1)) then ((((n.Boxes.getD (Int.toNat at') default).Rows).getD (Int.toNat v19) default).Out == 0) else false)) = true => (fun k9 : (!(decide (1 ≤ ((((n.Boxes.getD (Int.toNat at') default).Rows).getD (Int.toNat v19) default).In) ∧ ((((n.Boxes.getD (Int.toNat at') default).Rows).getD (Int.toNat v19) default).In) ≤ 60))) = false => (fun _ : 1 ≤ ((((n.Boxes.getD (Int.toNat at') default).Rows).getD (Int.toNat v19) default).In) ∧ ((((n.Boxes.getD (Int.toNat at') default).Rows).getD (Int.toNat v19) default).In) ≤ 60 => (Imp.refl (.v (vI ((((n.Boxes.getD (Int.toNat at') default).Rows).getD (Int.toNat v19) default).Next))))) (of_decide_eq_true (notEF k9))))) (ai ((fun k13 : (decide ((F50 n at' ((((n.Boxes.getD (Int.toNat at') default).Rows).getD (Int.toNat v19) default).Next)) < 0)) = false => (fun _ : ¬ (F50 n at' ((((n.Boxes.getD (Int.toNat at') default).Rows).getD (Int.toNat v19) default).Next)) < 0 => (fun k12 : (!(bif ((((n.Boxes.getD (Int.toNat at') default).Rows).getD (Int.toNat v19) default).Next == (-1)) then ((((n.Boxes.getD (Int.toNat at') default).Rows).getD (Int.toNat v19) default).Out == 0) else false)) = true => (fun k11 : (!(decide (1 ≤ ((((n.Boxes.getD (Int.toNat at') default).Rows).getD (Int.toNat v19) default).In) ∧ ((((n.Boxes.getD (Int.toNat at') default).Rows).getD (Int.toNat v19) default).In) ≤ 60))) = false => (fun _ : 1 ≤ ((((n.Boxes.getD (Int.toNat at') default).Rows).getD (Int.toNat v19) default).In) ∧ ((((n.Boxes.getD (Int.toNat at') default).Rows).getD (Int.toNat v19) default).In) ≤ 60 => trivial) (of_decide_eq_true (notEF k11))))) (of_decide_eq_false k13))) (ai ((fun k16 : (decide ((F50 n at' ((((n.Boxes.getD (Int.toNat at') default).Rows).getD (Int.toNat v19) default).Next)) < 0)) = false => (fun _ : ¬ (F50 n at' ((((n.Boxes.getD (Int.toNat at') default).Rows).getD (Int.toNat v19) default).Next)) < 0 => (fun k15 : (!(bif ((((n.Boxes.getD (Int.toNat at') default).Rows).getD (Int.toNat v19) default).Next == (-1)) then ((((n.Boxes.getD (Int.toNat at') default).Rows).getD (Int.toNat v19) default).Out == 0) else false)) = true => (fun k14 : (!(decide (1 ≤ ((((n.Boxes.getD (Int.toNat at') default).Rows).getD (Int.toNat v19) default).In) ∧ ((((n.Boxes.getD (Int.toNat at') default).Rows).getD (Int.toNat v19) default).In) ≤ 60))) = false => (fun _ : 1 ≤ ((((n.Boxes.getD (Int.toNat at') default).Rows).getD (Int.toNat v19) default).In) ∧ ((((n.Boxes.getD (Int.toNat at') default).Rows).getD (Int.toNat v19) default).In) ≤ 60 => (Imp.refl (.v (vI ((((n.Boxes.getD (Int.toNat at') default).Rows).getD (Int.toNat v19) default).Out))))) (of_decide_eq_true (notEF k14))))) (of_decide_eq_false k16))) (ai ((fun k18 : (decide (v19 > 0)) = true => (fun _ : v19 > 0 => (fun k17 : (bif (!(decide (1 ≤ ((((n.Boxes.getD (Int.toNat at') default).Rows).getD (Int.toNat v19) default).In) ∧ ((((n.Boxes.getD (Int.toNat at') default).Rows).getD (Int.toNat v19) default).In) ≤ 60))) then true else (bif (!(bif ((((n.Boxes.getD (Int.toNat at') default).Rows).getD (Int.toNat v19) default).Next == (-1)) then ((((n.Boxes.getD (Int.toNat at') default).Rows).getD (Int.toNat v19) default).Out == 0) else false)) then (bif decide ((F50 n at' ((((n.Boxes.getD (Int.toNat at') default).Rows).getD (Int.toNat v19) default).Next)) < 0) then true else (!(decide (1 ≤ ((((n.Boxes.getD (Int.toNat at') default).Rows).getD (Int.toNat v19) default).Out) ∧ ((((n.Boxes.getD (Int.toNat at') default).Rows).getD (Int.toNat v19) default).Out) ≤ 60)))) else false)) = false => (fun _ : 1 ≤ ((((n.Boxes.getD (Int.toNat at') default).Rows).getD (Int.toNat v19) default).In) ∧ ((((n.Boxes.getD (Int.toNat at') default).Rows).getD (Int.toNat v19) default).In) ≤ 60 => (by unfold i64ok; omega : i64ok (v19 - 1))) (of_decide_eq_true (notEF (orF1 k17))))) (of_decide_eq_true k18))) (ai ((fun k20 : (decide (v19 > 0)) = true => (fun _ : v19 > 0 => (fun k19 : (bif (!(decide (1 ≤ ((((n.Boxes.getD (Int.toNat at') default).Rows).getD (Int.toNat v19) default).In) ∧ ((((n.Boxes.getD (Int.toNat at') default).Rows).getD (Int.toNat v19) default).In) ≤ 60))) then true else (bif (!(bif ((((n.Boxes.getD (Int.toNat at') default).Rows).getD (Int.toNat v19) default).Next == (-1)) then ((((n.Boxes.getD (Int.toNat at') default).Rows).getD (Int.toNat v19) default).Out == 0) else false)) then (bif decide ((F50 n at' ((((n.Boxes.getD (Int.toNat at') default).Rows).getD (Int.toNat v19) default).Next)) < 0) then true else (!(decide (1 ≤ ((((n.Boxes.getD (Int.toNat at') default).Rows).getD (Int.toNat v19) default).Out) ∧ ((((n.Boxes.getD (Int.toNat at') default).Rows).getD (Int.toNat v19) default).Out) ≤ 60)))) else false)) = false => (fun _ : 1 ≤ ((((n.Boxes.getD (Int.toNat at') default).Rows).getD (Int.toNat v19) default).In) ∧ ((((n.Boxes.getD (Int.toNat at') default).Rows).getD (Int.toNat v19) default).In) ≤ 60 => (by omega : 0 ≤ (v19 - 1) ∧ (v19 - 1) < (((n.Boxes.getD (Int.toNat at') default).Rows).length : Int))) (of_decide_eq_true (notEF (orF1 k19))))) (of_decide_eq_true k20))) (ai (fun h21 : (bif (bif (!(decide (1 ≤ ((((n.Boxes.getD (Int.toNat at') default).Rows).getD (Int.toNat v19) default).In) ∧ ((((n.Boxes.getD (Int.toNat at') default).Rows).getD (Int.toNat v19) default).In) ≤ 60))) then true else (bif (!(bif ((((n.Boxes.getD (Int.toNat at') default).Rows).getD (Int.toNat v19) default).Next == (-1)) then ((((n.Boxes.getD (Int.toNat at') default).Rows).getD (Int.toNat v19) default).Out == 0) else false)) then (bif decide ((F50 n at' ((((n.Boxes.getD (Int.toNat at') default).Rows).getD (Int.toNat v19) default).Next)) < 0) then true else (!(decide (1 ≤ ((((n.Boxes.getD (Int.toNat at') default).Rows).getD (Int.toNat v19) default).Out) ∧ ((((n.Boxes.getD (Int.toNat at') default).Rows).getD (Int.toNat v19) default).Out) ≤ 60)))) else false)) then true else (bif decide (v19 > 0) then decide ((((n.Boxes.getD (Int.toNat at') default).Rows).getD (Int.toNat (v19 - 1)) default).In ≥ (((n.Boxes.getD (Int.toNat at') default).Rows).getD (Int.toNat v19) default).In) else false)) = true => (fun hF : (false : Bool) = (F47 n at') => ai (congrArg (fun r : Bool => (.bool r : Value)) hF) (trivial)) (finR (runL_ret hI0 (condT h2 (condT h21 (rfl)))) rfl)) (fun h21 : (bif (bif (!(decide (1 ≤ ((((n.Boxes.getD (Int.toNat at') default).Rows).getD (Int.toNat v19) default).In) ∧ ((((n.Boxes.getD (Int.toNat at') default).Rows).getD (Int.toNat v19) default).In) ≤ 60))) then true else (bif (!(bif ((((n.Boxes.getD (Int.toNat at') default).Rows).getD (Int.toNat v19) default).Next == (-1)) then ((((n.Boxes.getD (Int.toNat at') default).Rows).getD (Int.toNat v19) default).Out == 0) else false)) then (bif decide ((F50 n at' ((((n.Boxes.getD (Int.toNat at') default).Rows).getD (Int.toNat v19) default).Next)) < 0) then true else (!(decide (1 ≤ ((((n.Boxes.getD (Int.toNat at') default).Rows).getD (Int.toNat v19) default).Out) ∧ ((((n.Boxes.getD (Int.toNat at') default).Rows).getD (Int.toNat v19) default).Out) ≤ 60)))) else false)) then true else (bif decide (v19 > 0) then decide ((((n.Boxes.getD (Int.toNat at') default).Rows).getD (Int.toNat (v19 - 1)) default).In ≥ (((n.Boxes.getD (Int.toNat at') default).Rows).getD (Int.toNat v19) default).In) else false)) = false => (fun _ : 1 ≤ ((((n.Boxes.getD (Int.toNat at') default).Rows).getD (Int.toNat v19) default).In) ∧ ((((n.Boxes.getD (Int.toNat at') default).Rows).getD (Int.toNat v19) default).In) ≤ 60 => ai ((by unfold i64ok; omega : i64ok (v19 + 1))) (Exists.intro (p := fun j : Nat × Int => (fun (v19_ : Int) => (((.int .i64 at' : Value) = .int .i64 at') ∧ ((.int .i64 (((n.Boxes.getD (Int.toNat at') default).Rows).length : Int) : Value) = .int .i64 (((n.Boxes.getD (Int.toNat at') default).Rows).length : Int)) ∧ ((.int .i64 (v19 + 1) : Value) = .int .i64 v19_) ∧ (Imp (.l 2 eLabLink n.Links) (.l 2 eLabLink n.Links)) ∧ (Imp (.l 2 eLabBox n.Boxes) (.l 2 eLabBox n.Boxes)) ∧ (Imps (eLabBox (n.Boxes.getD (Int.toNat at') default)) (eLabBox (n.Boxes.getD (Int.toNat at') default))) ∧ ((runL (F47_s0 n at') j.1 j.2 = (runL (F47_s0 n at') ((Int.toNat ((((n.Boxes.getD (Int.toNat at') default).Rows).length : Int) - 0)) + 1) 0) ∧ Int.toNat ((((n.Boxes.getD (Int.toNat at') default).Rows).length : Int) - v19_) < j.1 ∧ (0 : Int) ≤ v19_) ∧ j.1 < i0.1))) j.2) (m0, (v19 + 1)) (ai (rfl) (ai (rfl) (ai (rfl) (ai ((Imp.refl _)) (ai ((Imp.refl _)) (ai ((Imps.refl _)) (ai (ai (runL_next hI0 (condT h2 (condF h21 (rfl)))) (ai ((by omega : Int.toNat ((((n.Boxes.getD (Int.toNat at') default).Rows).length : Int) - (v19 + 1)) < m0)) ((by omega : (0 : Int) ≤ (v19 + 1))))) hl0))))))))) (of_decide_eq_true (notEF (orF1 (orF1 h21))))))))))))))))) (of_decide_eq_true h2)) (fun h2 : (decide (v19 < (((n.Boxes.getD (Int.toNat at') default).Rows).length : Int))) = false => (fun _ : ¬ v19 < (((n.Boxes.getD (Int.toNat at') default).Rows).length : Int) => (fun hD0_22 : (runL (F47_s0 n at') ((Int.toNat ((((n.Boxes.getD (Int.toNat at') default).Rows).length : Int) - 0)) + 1) 0) = Lp.done v19 => fun (_ : n.Links.length ≤ 9223372036854775807) => fun (_ : n.Boxes.length ≤ 9223372036854775807) => fun (_ : ((n.Boxes.getD (Int.toNat at') default).Rows).length ≤ 9223372036854775807) => fun (_ : ((n.Boxes.getD (Int.toNat at') default).Guards).length ≤ 9223372036854775807) => fun (_ : ((n.Boxes.getD (Int.toNat at') default).Guards).length ≤ 9223372036854775807) => ai (ai (rfl) (ai (rfl) (ai (rfl) (ai ((Imp.refl _)) (ai ((Imp.refl _)) (ai ((Imps.refl _)) ((ai (rfl : runL (F47_s1 n at') ((Int.toNat ((((n.Boxes.getD (Int.toNat at') default).Guards).length : Int) - 0)) + 1) 0 = (runL (F47_s1 n at') ((Int.toNat ((((n.Boxes.getD (Int.toNat at') default).Guards).length : Int) - 0)) + 1) 0)) (ai ((Nat.lt_succ_self _ : Int.toNat ((((n.Boxes.getD (Int.toNat at') default).Guards).length : Int) - 0) < ((Int.toNat ((((n.Boxes.getD (Int.toNat at') default).Guards).length : Int) - 0)) + 1))) ((by omega : (0 : Int) ≤ 0)))))))))) : ((.int .i64 at' : Value) = .int .i64 at') ∧ ((.int .i64 (((n.Boxes.getD (Int.toNat at') default).Guards).length : Int) : Value) = .int .i64 (((n.Boxes.getD (Int.toNat at') default).Guards).length : Int)) ∧ ((.int .i64 0 : Value) = .int .i64 0) ∧ (Imp (.l 2 eLabLink n.Links) (.l 2 eLabLink n.Links)) ∧ (Imp (.l 2 eLabBox n.Boxes) (.l 2 eLabBox n.Boxes)) ∧ (Imps (eLabBox (n.Boxes.getD (Int.toNat at') default)) (eLabBox (n.Boxes.getD (Int.toNat at') default))) ∧ (runL (F47_s1 n at') ((Int.toNat ((((n.Boxes.getD (Int.toNat at') default).Guards).length : Int) - 0)) + 1) 0 = (runL (F47_s1 n at') ((Int.toNat ((((n.Boxes.getD (Int.toNat at') default).Guards).length : Int) - 0)) + 1) 0) ∧ Int.toNat ((((n.Boxes.getD (Int.toNat at') default).Guards).length : Int) - 0) < ((Int.toNat ((((n.Boxes.getD (Int.toNat at') default).Guards).length : Int) - 0)) + 1) ∧ (0 : Int) ≤ 0)) (fun (i1 : Nat × Int) (hi1 : runL (F47_s1 n at') i1.1 i1.2 = (runL (F47_s1 n at') ((Int.toNat ((((n.Boxes.getD (Int.toNat at') default).Guards).length : Int) - 0)) + 1) 0) ∧ (fun (v74 : Int) => (Int.toNat ((((n.Boxes.getD (Int.toNat at') default).Guards).length : Int) - v74) < i1.1 ∧ (0 : Int) ≤ v74)) i1.2) => (fun (m1 : Nat) (v74 : Int) (hI1 : runL (F47_s1 n at') (m1 + 1) v74 = (runL (F47_s1 n at') ((Int.toNat ((((n.Boxes.getD (Int.toNat at') default).Guards).length : Int) - 0)) + 1) 0)) (_ : Int.toNat ((((n.Boxes.getD (Int.toNat at') default).Guards).length : Int) - v74) < m1 + 1) (hl1 : m1 < i1.1) (_ : (0 : Int) ≤ v74) => ai (fun h24 : (decide (v74 < (((n.Boxes.getD (Int.toNat at') default).Guards).length : Int))) = true => (fun _ : v74 < (((n.Boxes.getD (Int.toNat at') default).Guards).length : Int) => ai ((by omega : 0 ≤ v74 ∧ v74 < (((n.Boxes.getD (Int.toNat at') default).Guards).length : Int))) (ai ((fun k25 : ((((n.Boxes.getD (Int.toNat at') default).Guards).getD (Int.toNat v74) default).To == (((n.Boxes.getD (Int.toNat at') default).Guards).getD (Int.toNat v74) default).Via) = false => (fun _ : ¬ (((n.Boxes.getD (Int.toNat at') default).Guards).getD (Int.toNat v74) default).To = (((n.Boxes.getD (Int.toNat at') default).Guards).getD (Int.toNat v74) default).Via => trivial) (beqF k25))) (ai ((fun k26 : ((((n.Boxes.getD (Int.toNat at') default).Guards).getD (Int.toNat v74) default).To == (((n.Boxes.getD (Int.toNat at') default).Guards).getD (Int.toNat v74) default).Via) = false => (fun _ : ¬ (((n.Boxes.getD (Int.toNat at') default).Guards).getD (Int.toNat v74) default).To = (((n.Boxes.getD (Int.toNat at') default).Guards).getD (Int.toNat v74) default).Via => (Imps.refl (eLabNet n))) (beqF k26))) (ai ((fun k27 : ((((n.Boxes.getD (Int.toNat at') default).Guards).getD (Int.toNat v74) default).To == (((n.Boxes.getD (Int.toNat at') default).Guards).getD (Int.toNat v74) default).Via) = false => (fun _ : ¬ (((n.Boxes.getD (Int.toNat at') default).Guards).getD (Int.toNat v74) default).To = (((n.Boxes.getD (Int.toNat at') default).Guards).getD (Int.toNat v74) default).Via => (Imp.refl (.v (vI at')))) (beqF k27))) (ai ((fun k28 : ((((n.Boxes.getD (Int.toNat at') default).Guards).getD (Int.toNat v74) default).To == (((n.Boxes.getD (Int.toNat at') default).Guards).getD (Int.toNat v74) default).Via) = false => (fun _ : ¬ (((n.Boxes.getD (Int.toNat at') default).Guards).getD (Int.toNat v74) default).To = (((n.Boxes.getD (Int.toNat at') default).Guards).getD (Int.toNat v74) default).Via => (Imp.refl (.v (vI ((((n.Boxes.getD (Int.toNat at') default).Guards).getD (Int.toNat v74) default).To))))) (beqF k28))) (ai ((fun k29 : (bif ((((n.Boxes.getD (Int.toNat at') default).Guards).getD (Int.toNat v74) default).To == (((n.Boxes.getD (Int.toNat at') default).Guards).getD (Int.toNat v74) default).Via) then true else decide ((F50 n at' ((((n.Boxes.getD (Int.toNat at') default).Guards).getD (Int.toNat v74) default).To)) < 0)) = false => (fun _ : ¬ (F50 n at' ((((n.Boxes.getD (Int.toNat at') default).Guards).getD (Int.toNat v74) default).To)) < 0 => (fun _ : ¬ (((n.Boxes.getD (Int.toNat at') default).Guards).getD (Int.toNat v74) default).To = (((n.Boxes.getD (Int.toNat at') default).Guards).getD (Int.toNat v74) default).Via => trivial) (beqF (orF1 k29))) (of_decide_eq_false (orF2 k29)))) (ai ((fun k30 : (bif ((((n.Boxes.getD (Int.toNat at') default).Guards).getD (Int.toNat v74) default).To == (((n.Boxes.getD (Int.toNat at') default).Guards).getD (Int.toNat v74) default).Via) then true else decide ((F50 n at' ((((n.Boxes.getD (Int.toNat at') default).Guards).getD (Int.toNat v74) default).To)) < 0)) = false => (fun _ : ¬ (F50 n at' ((((n.Boxes.getD (Int.toNat at') default).Guards).getD (Int.toNat v74) default).To)) < 0 => (fun _ : ¬ (((n.Boxes.getD (Int.toNat at') default).Guards).getD (Int.toNat v74) default).To = (((n.Boxes.getD (Int.toNat at') default).Guards).getD (Int.toNat v74) default).Via => (Imps.refl (eLabNet n))) (beqF (orF1 k30))) (of_decide_eq_false (orF2 k30)))) (ai ((fun k31 : (bif ((((n.Boxes.getD (Int.toNat at') default).Guards).getD (Int.toNat v74) default).To == (((n.Boxes.getD (Int.toNat at') default).Guards).getD (Int.toNat v74) default).Via) then true else decide ((F50 n at' ((((n.Boxes.getD (Int.toNat at') default).Guards).getD (Int.toNat v74) default).To)) < 0)) = false => (fun _ : ¬ (F50 n at' ((((n.Boxes.getD (Int.toNat at') default).Guards).getD (Int.toNat v74) default).To)) < 0 => (fun _ : ¬ (((n.Boxes.getD (Int.toNat at') default).Guards).getD (Int.toNat v74) default).To = (((n.Boxes.getD (Int.toNat at') default).Guards).getD (Int.toNat v74) default).Via => (Imp.refl (.v (vI at')))) (beqF (orF1 k31))) (of_decide_eq_false (orF2 k31)))) (ai ((fun k32 : (bif ((((n.Boxes.getD (Int.toNat at') default).Guards).getD (Int.toNat v74) default).To == (((n.Boxes.getD (Int.toNat at') default).Guards).getD (Int.toNat v74) default).Via) then true else decide ((F50 n at' ((((n.Boxes.getD (Int.toNat at') default).Guards).getD (Int.toNat v74) default).To)) < 0)) = false => (fun _ : ¬ (F50 n at' ((((n.Boxes.getD (Int.toNat at') default).Guards).getD (Int.toNat v74) default).To)) < 0 => (fun _ : ¬ (((n.Boxes.getD (Int.toNat at') default).Guards).getD (Int.toNat v74) default).To = (((n.Boxes.getD (Int.toNat at') default).Guards).getD (Int.toNat v74) default).Via => (Imp.refl (.v (vI ((((n.Boxes.getD (Int.toNat at') default).Guards).getD (Int.toNat v74) default).Via))))) (beqF (orF1 k32))) (of_decide_eq_false (orF2 k32)))) (ai ((fun k33 : (bif (bif ((((n.Boxes.getD (Int.toNat at') default).Guards).getD (Int.toNat v74) default).To == (((n.Boxes.getD (Int.toNat at') default).Guards).getD (Int.toNat v74) default).Via) then true else decide ((F50 n at' ((((n.Boxes.getD (Int.toNat at') default).Guards).getD (Int.toNat v74) default).To)) < 0)) then true else decide ((F50 n at' ((((n.Boxes.getD (Int.toNat at') default).Guards).getD (Int.toNat v74) default).Via)) < 0)) = false => (fun _ : ¬ (F50 n at' ((((n.Boxes.getD (Int.toNat at') default).Guards).getD (Int.toNat v74) default).Via)) < 0 => (fun _ : ¬ (F50 n at' ((((n.Boxes.getD (Int.toNat at') default).Guards).getD (Int.toNat v74) default).To)) < 0 => (fun _ : ¬ (((n.Boxes.getD (Int.toNat at') default).Guards).getD (Int.toNat v74) default).To = (((n.Boxes.getD (Int.toNat at') default).Guards).getD (Int.toNat v74) default).Via => trivial) (beqF (orF1 (orF1 k33)))) (of_decide_eq_false (orF2 (orF1 k33)))) (of_decide_eq_false (orF2 k33)))) (ai ((fun k34 : (bif (bif ((((n.Boxes.getD (Int.toNat at') default).Guards).getD (Int.toNat v74) default).To == (((n.Boxes.getD (Int.toNat at') default).Guards).getD (Int.toNat v74) default).Via) then true else decide ((F50 n at' ((((n.Boxes.getD (Int.toNat at') default).Guards).getD (Int.toNat v74) default).To)) < 0)) then true else decide ((F50 n at' ((((n.Boxes.getD (Int.toNat at') default).Guards).getD (Int.toNat v74) default).Via)) < 0)) = false => (fun _ : ¬ (F50 n at' ((((n.Boxes.getD (Int.toNat at') default).Guards).getD (Int.toNat v74) default).Via)) < 0 => (fun _ : ¬ (F50 n at' ((((n.Boxes.getD (Int.toNat at') default).Guards).getD (Int.toNat v74) default).To)) < 0 => (fun _ : ¬ (((n.Boxes.getD (Int.toNat at') default).Guards).getD (Int.toNat v74) default).To = (((n.Boxes.getD (Int.toNat at') default).Guards).getD (Int.toNat v74) default).Via => (Imp.refl (.v (vI ((((n.Boxes.getD (Int.toNat at') default).Guards).getD (Int.toNat v74) default).Push))))) (beqF (orF1 (orF1 k34)))) (of_decide_eq_false (orF2 (orF1 k34)))) (of_decide_eq_false (orF2 k34)))) (ai ((fun k36 : (decide (v74 > 0)) = true => (fun _ : v74 > 0 => (fun k35 : (bif (bif (bif ((((n.Boxes.getD (Int.toNat at') default).Guards).getD (Int.toNat v74) default).To == (((n.Boxes.getD (Int.toNat at') default).Guards).getD (Int.toNat v74) default).Via) then true else decide ((F50 n at' ((((n.Boxes.getD (Int.toNat at') default).Guards).getD (Int.toNat v74) default).To)) < 0)) then true else decide ((F50 n at' ((((n.Boxes.getD (Int.toNat at') default).Guards).getD (Int.toNat v74) default).Via)) < 0)) then true else (!(decide (1 ≤ ((((n.Boxes.getD (Int.toNat at') default).Guards).getD (Int.toNat v74) default).Push) ∧ ((((n.Boxes.getD (Int.toNat at') default).Guards).getD (Int.toNat v74) default).Push) ≤ 60)))) = false => (fun _ : 1 ≤ ((((n.Boxes.getD (Int.toNat at') default).Guards).getD (Int.toNat v74) default).Push) ∧ ((((n.Boxes.getD (Int.toNat at') default).Guards).getD (Int.toNat v74) default).Push) ≤ 60 => (fun _ : ¬ (F50 n at' ((((n.Boxes.getD (Int.toNat at') default).Guards).getD (Int.toNat v74) default).Via)) < 0 => (fun _ : ¬ (F50 n at' ((((n.Boxes.getD (Int.toNat at') default).Guards).getD (Int.toNat v74) default).To)) < 0 => (fun _ : ¬ (((n.Boxes.getD (Int.toNat at') default).Guards).getD (Int.toNat v74) default).To = (((n.Boxes.getD (Int.toNat at') default).Guards).getD (Int.toNat v74) default).Via => (by unfold i64ok; omega : i64ok (v74 - 1))) (beqF (orF1 (orF1 (orF1 k35))))) (of_decide_eq_false (orF2 (orF1 (orF1 k35))))) (of_decide_eq_false (orF2 (orF1 k35)))) (of_decide_eq_true (notEF (orF2 k35))))) (of_decide_eq_true k36))) (ai ((fun k38 : (decide (v74 > 0)) = true => (fun _ : v74 > 0 => (fun k37 : (bif (bif (bif ((((n.Boxes.getD (Int.toNat at') default).Guards).getD (Int.toNat v74) default).To == (((n.Boxes.getD (Int.toNat at') default).Guards).getD (Int.toNat v74) default).Via) then true else decide ((F50 n at' ((((n.Boxes.getD (Int.toNat at') default).Guards).getD (Int.toNat v74) default).To)) < 0)) then true else decide ((F50 n at' ((((n.Boxes.getD (Int.toNat at') default).Guards).getD (Int.toNat v74) default).Via)) < 0)) then true else (!(decide (1 ≤ ((((n.Boxes.getD (Int.toNat at') default).Guards).getD (Int.toNat v74) default).Push) ∧ ((((n.Boxes.getD (Int.toNat at') default).Guards).getD (Int.toNat v74) default).Push) ≤ 60)))) = false => (fun _ : 1 ≤ ((((n.Boxes.getD (Int.toNat at') default).Guards).getD (Int.toNat v74) default).Push) ∧ ((((n.Boxes.getD (Int.toNat at') default).Guards).getD (Int.toNat v74) default).Push) ≤ 60 => (fun _ : ¬ (F50 n at' ((((n.Boxes.getD (Int.toNat at') default).Guards).getD (Int.toNat v74) default).Via)) < 0 => (fun _ : ¬ (F50 n at' ((((n.Boxes.getD (Int.toNat at') default).Guards).getD (Int.toNat v74) default).To)) < 0 => (fun _ : ¬ (((n.Boxes.getD (Int.toNat at') default).Guards).getD (Int.toNat v74) default).To = (((n.Boxes.getD (Int.toNat at') default).Guards).getD (Int.toNat v74) default).Via => (by omega : 0 ≤ (v74 - 1) ∧ (v74 - 1) < (((n.Boxes.getD (Int.toNat at') default).Guards).length : Int))) (beqF (orF1 (orF1 (orF1 k37))))) (of_decide_eq_false (orF2 (orF1 (orF1 k37))))) (of_decide_eq_false (orF2 (orF1 k37)))) (of_decide_eq_true (notEF (orF2 k37))))) (of_decide_eq_true k38))) (ai (fun h39 : (bif (bif (bif (bif ((((n.Boxes.getD (Int.toNat at') default).Guards).getD (Int.toNat v74) default).To == (((n.Boxes.getD (Int.toNat at') default).Guards).getD (Int.toNat v74) default).Via) then true else decide ((F50 n at' ((((n.Boxes.getD (Int.toNat at') default).Guards).getD (Int.toNat v74) default).To)) < 0)) then true else decide ((F50 n at' ((((n.Boxes.getD (Int.toNat at') default).Guards).getD (Int.toNat v74) default).Via)) < 0)) then true else (!(decide (1 ≤ ((((n.Boxes.getD (Int.toNat at') default).Guards).getD (Int.toNat v74) default).Push) ∧ ((((n.Boxes.getD (Int.toNat at') default).Guards).getD (Int.toNat v74) default).Push) ≤ 60)))) then true else (bif decide (v74 > 0) then decide ((((n.Boxes.getD (Int.toNat at') default).Guards).getD (Int.toNat (v74 - 1)) default).To ≥ (((n.Boxes.getD (Int.toNat at') default).Guards).getD (Int.toNat v74) default).To) else false)) = true => (fun hF : (false : Bool) = (F47 n at') => ai (congrArg (fun r : Bool => (.bool r : Value)) hF) (trivial)) (finD hD0_22 (finR (runL_ret hI1 (condT h24 (condT h39 (rfl)))) rfl))) (fun h39 : (bif (bif (bif (bif ((((n.Boxes.getD (Int.toNat at') default).Guards).getD (Int.toNat v74) default).To == (((n.Boxes.getD (Int.toNat at') default).Guards).getD (Int.toNat v74) default).Via) then true else decide ((F50 n at' ((((n.Boxes.getD (Int.toNat at') default).Guards).getD (Int.toNat v74) default).To)) < 0)) then true else decide ((F50 n at' ((((n.Boxes.getD (Int.toNat at') default).Guards).getD (Int.toNat v74) default).Via)) < 0)) then true else (!(decide (1 ≤ ((((n.Boxes.getD (Int.toNat at') default).Guards).getD (Int.toNat v74) default).Push) ∧ ((((n.Boxes.getD (Int.toNat at') default).Guards).getD (Int.toNat v74) default).Push) ≤ 60)))) then true else (bif decide (v74 > 0) then decide ((((n.Boxes.getD (Int.toNat at') default).Guards).getD (Int.toNat (v74 - 1)) default).To ≥ (((n.Boxes.getD (Int.toNat at') default).Guards).getD (Int.toNat v74) default).To) else false)) = false => (fun _ : 1 ≤ ((((n.Boxes.getD (Int.toNat at') default).Guards).getD (Int.toNat v74) default).Push) ∧ ((((n.Boxes.getD (Int.toNat at') default).Guards).getD (Int.toNat v74) default).Push) ≤ 60 => (fun _ : ¬ (F50 n at' ((((n.Boxes.getD (Int.toNat at') default).Guards).getD (Int.toNat v74) default).Via)) < 0 => (fun _ : ¬ (F50 n at' ((((n.Boxes.getD (Int.toNat at') default).Guards).getD (Int.toNat v74) default).To)) < 0 => (fun _ : ¬ (((n.Boxes.getD (Int.toNat at') default).Guards).getD (Int.toNat v74) default).To = (((n.Boxes.getD (Int.toNat at') default).Guards).getD (Int.toNat v74) default).Via => ai ((by unfold i64ok; omega : i64ok (v74 + 1))) (Exists.intro (p := fun j : Nat × Int => (fun (v74_ : Int) => (((.int .i64 at' : Value) = .int .i64 at') ∧ ((.int .i64 (((n.Boxes.getD (Int.toNat at') default).Guards).length : Int) : Value) = .int .i64 (((n.Boxes.getD (Int.toNat at') default).Guards).length : Int)) ∧ ((.int .i64 (v74 + 1) : Value) = .int .i64 v74_) ∧ (Imp (.l 2 eLabLink n.Links) (.l 2 eLabLink n.Links)) ∧ (Imp (.l 2 eLabBox n.Boxes) (.l 2 eLabBox n.Boxes)) ∧ (Imps (eLabBox (n.Boxes.getD (Int.toNat at') default)) (eLabBox (n.Boxes.getD (Int.toNat at') default))) ∧ ((runL (F47_s1 n at') j.1 j.2 = (runL (F47_s1 n at') ((Int.toNat ((((n.Boxes.getD (Int.toNat at') default).Guards).length : Int) - 0)) + 1) 0) ∧ Int.toNat ((((n.Boxes.getD (Int.toNat at') default).Guards).length : Int) - v74_) < j.1 ∧ (0 : Int) ≤ v74_) ∧ j.1 < i1.1))) j.2) (m1, (v74 + 1)) (ai (rfl) (ai (rfl) (ai (rfl) (ai ((Imp.refl _)) (ai ((Imp.refl _)) (ai ((Imps.refl _)) (ai (ai (runL_next hI1 (condT h24 (condF h39 (rfl)))) (ai ((by omega : Int.toNat ((((n.Boxes.getD (Int.toNat at') default).Guards).length : Int) - (v74 + 1)) < m1)) ((by omega : (0 : Int) ≤ (v74 + 1))))) hl1))))))))) (beqF (orF1 (orF1 (orF1 (orF1 h39)))))) (of_decide_eq_false (orF2 (orF1 (orF1 (orF1 h39)))))) (of_decide_eq_false (orF2 (orF1 (orF1 h39))))) (of_decide_eq_true (notEF (orF2 (orF1 h39))))))))))))))))))) (of_decide_eq_true h24)) (fun h24 : (decide (v74 < (((n.Boxes.getD (Int.toNat at') default).Guards).length : Int))) = false => (fun _ : ¬ v74 < (((n.Boxes.getD (Int.toNat at') default).Guards).length : Int) => (fun hD1_40 : (runL (F47_s1 n at') ((Int.toNat ((((n.Boxes.getD (Int.toNat at') default).Guards).length : Int) - 0)) + 1) 0) = Lp.done v74 => (fun hF : (true : Bool) = (F47 n at') => ai (congrArg (fun r : Bool => (.bool r : Value)) hF) (trivial)) (finD hD0_22 (finD hD1_40 (rfl)))) (runL_done hI1 (condF h24 (rfl)))) (of_decide_eq_false h24))) (i1.1 - 1) i1.2 (hd1 hi1.1 hi1.2.1) (hd2 hi1.2.1) (hd3 hi1.2.1) hi1.2.2)) (runL_done hI0 (condF h2 (rfl)))) (of_decide_eq_false h2))) (i0.1 - 1) i0.2 (hd1 hi0.1 hi0.2.1) (hd2 hi0.2.1) (hd3 hi0.2.1) hi0.2.2))) hp.1 hp.2) (by kernel_rfl)
def F13_s0 (n : LabNet) : Int → Lp Int Bool := fun v17 =>
  bif (decide (v17 < (n.Boxes.length : Int))) then (bif (!(F47 n v17)) then (.ret false) else (.next (v17 + 1))) else (.done v17)
def F13 (n : LabNet) : Bool :=
  bif (bif (!(decide (1 ≤ (n.Boxes.length : Int) ∧ (n.Boxes.length : Int) ≤ 8))) then true else (!(F46 n))) then false else ((runL (F13_s0 n) ((Int.toNat ((n.Boxes.length : Int) - 0)) + 1) 0).fin (fun r => r) (fun v17 => true))
def S13 (R : Bool) (n : LabNet) : Spec := ⟨[.r (.g (eLabNet n))], .v (.bool R), True⟩
theorem ok13 (n : LabNet) : (S13 (F13 n) n).ok Try.prog 13 :=
  fnG_ok mixed (fn := Try.f13) (ct := .seq (.no) (.seq (.seq (.reg [(3, .call 45 (S45 (decide (1 ≤ (n.Boxes.length : Int) ∧ (n.Boxes.length : Int) ≤ 8)) (n.Boxes.length : Int) 1 8) (oa45 (n.Boxes.length : Int) 1 8) none), (7, .call 46 (S46 n) (ok46 n) none)]) (.cond (.seq (.no) (.no)) (.no))) (.seq (.seqk [(1, 0), (1, 1)] (.no) (.blk (.loop (ι := Nat × Int) (fun i => (fun (v17 : Int) => (⟨[(1, some (.p 0 0)), (16, some (.v (vI (n.Boxes.length : Int)))), (17, some (.v (vI v17)))], [(0, some (.box 26 [.h 1 0, .h 2 0])), (1, some (.shr none (.l 2 eLabLink n.Links))), (2, some (.shr none (.l 2 eLabBox n.Boxes)))], 3⟩ : St)) i.2) (fun i => runL (F13_s0 n) i.1 i.2 = (runL (F13_s0 n) ((Int.toNat ((n.Boxes.length : Int) - 0)) + 1) 0) ∧ (fun (v17 : Int) => (Int.toNat ((n.Boxes.length : Int) - v17) < i.1 ∧ (0 : Int) ≤ v17)) i.2) (fun i => i.1) (((Int.toNat ((n.Boxes.length : Int) - 0)) + 1), 0) (fun i => (fun (v17 : Int) => (.seq (.no) (.seq (.cond (.no) (.no)) (.seq (.blk (.seq (.no) (.seq (.reg [(2, .call 47 (S47 n v17) (ok47 n v17) none)]) (.cond (.seq (.no) (.no)) (.no))))) (.reg [(0, .bnd)]))))) i.2)))) (.seq (.no) (.no))))) Try.func13 (fun (_ : True) => ai (trivial) (ai ((Imp.refl (.v (vI (n.Boxes.length : Int))))) (ai ((Imp.refl (.v (vI 1)))) (ai ((Imp.refl (.v (vI 8)))) (ai ((fun k1 : (!(decide (1 ≤ (n.Boxes.length : Int) ∧ (n.Boxes.length : Int) ≤ 8))) = false => (fun _ : 1 ≤ (n.Boxes.length : Int) ∧ (n.Boxes.length : Int) ≤ 8 => trivial) (of_decide_eq_true (notEF k1)))) (ai ((fun k2 : (!(decide (1 ≤ (n.Boxes.length : Int) ∧ (n.Boxes.length : Int) ≤ 8))) = false => (fun _ : 1 ≤ (n.Boxes.length : Int) ∧ (n.Boxes.length : Int) ≤ 8 => (Imps.refl (eLabNet n))) (of_decide_eq_true (notEF k2)))) (ai (fun h3 : (bif (!(decide (1 ≤ (n.Boxes.length : Int) ∧ (n.Boxes.length : Int) ≤ 8))) then true else (!(F46 n))) = true => (fun hF : (false : Bool) = (F13 n) => ai (congrArg (fun r : Bool => (.bool r : Value)) hF) (trivial)) (condT h3 (rfl))) (fun h3 : (bif (!(decide (1 ≤ (n.Boxes.length : Int) ∧ (n.Boxes.length : Int) ≤ 8))) then true else (!(F46 n))) = false => (fun _ : 1 ≤ (n.Boxes.length : Int) ∧ (n.Boxes.length : Int) ≤ 8 => fun (_ : n.Links.length ≤ 9223372036854775807) => fun (_ : n.Boxes.length ≤ 9223372036854775807) => ai (ai (rfl) (ai (rfl) (ai ((Imp.refl _)) (ai ((Imp.refl _)) ((ai (rfl : runL (F13_s0 n) ((Int.toNat ((n.Boxes.length : Int) - 0)) + 1) 0 = (runL (F13_s0 n) ((Int.toNat ((n.Boxes.length : Int) - 0)) + 1) 0)) (ai ((Nat.lt_succ_self _ : Int.toNat ((n.Boxes.length : Int) - 0) < ((Int.toNat ((n.Boxes.length : Int) - 0)) + 1))) ((by omega : (0 : Int) ≤ 0)))))))) : ((.int .i64 (n.Boxes.length : Int) : Value) = .int .i64 (n.Boxes.length : Int)) ∧ ((.int .i64 0 : Value) = .int .i64 0) ∧ (Imp (.l 2 eLabLink n.Links) (.l 2 eLabLink n.Links)) ∧ (Imp (.l 2 eLabBox n.Boxes) (.l 2 eLabBox n.Boxes)) ∧ (runL (F13_s0 n) ((Int.toNat ((n.Boxes.length : Int) - 0)) + 1) 0 = (runL (F13_s0 n) ((Int.toNat ((n.Boxes.length : Int) - 0)) + 1) 0) ∧ Int.toNat ((n.Boxes.length : Int) - 0) < ((Int.toNat ((n.Boxes.length : Int) - 0)) + 1) ∧ (0 : Int) ≤ 0)) (fun (i0 : Nat × Int) (hi0 : runL (F13_s0 n) i0.1 i0.2 = (runL (F13_s0 n) ((Int.toNat ((n.Boxes.length : Int) - 0)) + 1) 0) ∧ (fun (v17 : Int) => (Int.toNat ((n.Boxes.length : Int) - v17) < i0.1 ∧ (0 : Int) ≤ v17)) i0.2) => (fun (m0 : Nat) (v17 : Int) (hI0 : runL (F13_s0 n) (m0 + 1) v17 = (runL (F13_s0 n) ((Int.toNat ((n.Boxes.length : Int) - 0)) + 1) 0)) (_ : Int.toNat ((n.Boxes.length : Int) - v17) < m0 + 1) (hl0 : m0 < i0.1) (_ : (0 : Int) ≤ v17) => ai (fun h5 : (decide (v17 < (n.Boxes.length : Int))) = true => (fun _ : v17 < (n.Boxes.length : Int) => ai ((ai ((by omega : 0 ≤ v17)) ((by omega : v17 < (n.Boxes.length : Int))))) (ai ((Imps.refl (eLabNet n))) (ai ((Imp.refl (.v (vI v17)))) (ai (fun h6 : (!(F47 n v17)) = true => (fun hF : (false : Bool) = (F13 n) => ai (congrArg (fun r : Bool => (.bool r : Value)) hF) (trivial)) (condF h3 (finR (runL_ret hI0 (condT h5 (condT h6 (rfl)))) rfl))) (fun h6 : (!(F47 n v17)) = false => ai ((by unfold i64ok; omega : i64ok (v17 + 1))) (Exists.intro (p := fun j : Nat × Int => (fun (v17_ : Int) => (((.int .i64 (n.Boxes.length : Int) : Value) = .int .i64 (n.Boxes.length : Int)) ∧ ((.int .i64 (v17 + 1) : Value) = .int .i64 v17_) ∧ (Imp (.l 2 eLabLink n.Links) (.l 2 eLabLink n.Links)) ∧ (Imp (.l 2 eLabBox n.Boxes) (.l 2 eLabBox n.Boxes)) ∧ ((runL (F13_s0 n) j.1 j.2 = (runL (F13_s0 n) ((Int.toNat ((n.Boxes.length : Int) - 0)) + 1) 0) ∧ Int.toNat ((n.Boxes.length : Int) - v17_) < j.1 ∧ (0 : Int) ≤ v17_) ∧ j.1 < i0.1))) j.2) (m0, (v17 + 1)) (ai (rfl) (ai (rfl) (ai ((Imp.refl _)) (ai ((Imp.refl _)) (ai (ai (runL_next hI0 (condT h5 (condF h6 (rfl)))) (ai ((by omega : Int.toNat ((n.Boxes.length : Int) - (v17 + 1)) < m0)) ((by omega : (0 : Int) ≤ (v17 + 1))))) hl0))))))))))) (of_decide_eq_true h5)) (fun h5 : (decide (v17 < (n.Boxes.length : Int))) = false => (fun _ : ¬ v17 < (n.Boxes.length : Int) => (fun hD0_7 : (runL (F13_s0 n) ((Int.toNat ((n.Boxes.length : Int) - 0)) + 1) 0) = Lp.done v17 => (fun hF : (true : Bool) = (F13 n) => ai (congrArg (fun r : Bool => (.bool r : Value)) hF) (trivial)) (condF h3 (finD hD0_7 (rfl)))) (runL_done hI0 (condF h5 (rfl)))) (of_decide_eq_false h5))) (i0.1 - 1) i0.2 (hd1 hi0.1 hi0.2.1) (hd2 hi0.2.1) (hd3 hi0.2.1) hi0.2.2)) (of_decide_eq_true (notEF (orF1 h3))))))))))) (by kernel_rfl)
def F67_s0 (n : LabNet) : (Int × List LabBox) → Lp (Int × List LabBox) LabNet := fun (i40, out) =>
  bif (decide (i40 < (n.Boxes.length : Int))) then (.next ((i40 + 1), (out ++ [(⟨(([] : List LabRow) ++ ((n.Boxes.getD (Int.toNat i40) default).Rows)), (([] : List LabVia) ++ ((n.Boxes.getD (Int.toNat i40) default).Guards))⟩ : LabBox)]))) else (.done (i40, out))
def F67 (n : LabNet) : LabNet :=
  (runL (F67_s0 n) ((Int.toNat ((n.Boxes.length : Int) - 0)) + 1) (0, ([] : List LabBox))).fin (fun r => r) (fun (i40, out) => (⟨(([] : List LabLink) ++ n.Links), out⟩ : LabNet))
def S67 (R : LabNet) (n : LabNet) : Spec := ⟨[.r (.g (eLabNet n))], .ag [.ow (.l 2 eLabLink R.Links), .ow (.l 2 eLabBox R.Boxes)], n.Links.length ≤ 1000000000 ∧ n.Boxes.length ≤ 1000000000 ∧ (∀ k : Nat, (n.Boxes.getD k default).Rows.length ≤ 1000000000) ∧ (∀ k : Nat, (n.Boxes.getD k default).Guards.length ≤ 1000000000)⟩
theorem ok67 (n : LabNet) : (S67 (F67 n) n).ok Try.prog 67 :=
  fnG_ok mixed (fn := Try.f67) (ct := .seq (.no) (.seq (.reg [(0, .dat (.l 2 eLabLink ([] : List LabLink))), (3, .dat (.l 2 eLabLink (([] : List LabLink) ++ n.Links))), (4, .dat (.l 2 eLabBox ([] : List LabBox)))]) (.seq (.seqk [(1, 0), (1, 1), (3, 0), (3, 1)] (.no) (.blk (.loop (ι := Nat × (Int × List LabBox)) (fun i => (fun (i40 : Int) (out : List LabBox) => (⟨[(1, some (.p 0 0)), (2, some (.p 3 0)), (3, some (.p 4 0)), (4, some (.v (vI i40)))], [(0, some (.box 26 [.h 1 0, .h 2 0])), (1, some (.shr none (.l 2 eLabLink n.Links))), (2, some (.shr none (.l 2 eLabBox n.Boxes))), (3, some (.box 26 [.v (.slice none 0 0), .v (.slice none 0 0)])), (4, some (.box 26 [.h 5 0, .h 6 0])), (5, some (.own 5 (.l 2 eLabLink (([] : List LabLink) ++ n.Links)))), (6, some (.own 6 (.l 2 eLabBox out)))], 7⟩ : St)) i.2.1 i.2.2) (fun i => runL (F67_s0 n) i.1 i.2 = (runL (F67_s0 n) ((Int.toNat ((n.Boxes.length : Int) - 0)) + 1) (0, ([] : List LabBox))) ∧ (fun (i40 : Int) (out : List LabBox) => (Int.toNat ((n.Boxes.length : Int) - i40) < i.1 ∧ (out.length : Int) = i40 ∧ (0 : Int) ≤ i40)) i.2.1 i.2.2) (fun i => i.1) (((Int.toNat ((n.Boxes.length : Int) - 0)) + 1), (0, ([] : List LabBox))) (fun i => (fun (i40 : Int) (out : List LabBox) => (.seq (.seq (.no) (.cond (.no) (.no))) (.seq (.blk (.reg [(2, .dat (.l 3 eLabRow ([] : List LabRow))), (9, .dat (.l 3 eLabRow (([] : List LabRow) ++ ((n.Boxes.getD (Int.toNat i40) default).Rows)))), (10, .dat (.l 3 eLabVia ([] : List LabVia))), (17, .dat (.l 3 eLabVia (([] : List LabVia) ++ ((n.Boxes.getD (Int.toNat i40) default).Guards)))), (20, .dat (.l 2 eLabBox (out ++ [(⟨(([] : List LabRow) ++ ((n.Boxes.getD (Int.toNat i40) default).Rows)), (([] : List LabVia) ++ ((n.Boxes.getD (Int.toNat i40) default).Guards))⟩ : LabBox)])))])) (.reg [(1, .bnd)])))) i.2.1 i.2.2)))) (.seq (.no) (.no))))) Try.func67 (fun (hp : n.Links.length ≤ 1000000000 ∧ n.Boxes.length ≤ 1000000000 ∧ (∀ k : Nat, (n.Boxes.getD k default).Rows.length ≤ 1000000000) ∧ (∀ k : Nat, (n.Boxes.getD k default).Guards.length ≤ 1000000000)) => (fun (hpre0 : n.Links.length ≤ 1000000000) (hpre1 : n.Boxes.length ≤ 1000000000) (hpre2 : ∀ k : Nat, (n.Boxes.getD k default).Rows.length ≤ 1000000000) (hpre3 : ∀ k : Nat, (n.Boxes.getD k default).Guards.length ≤ 1000000000) => ai ((BuildOK.mk eLabLink ([] : List LabLink) rfl (by exact trivial) (fun _ => rfl) : BuildOK 0 2 [] (.l 2 eLabLink ([] : List LabLink)))) (ai ((AppL.mk eLabLink ([] : List LabLink) n.Links (Imp.refl (.l 2 eLabLink ([] : List LabLink))) (Imp.refl _) (fun y => ⟨rfl, fun e he => by simp only [eLabLink, List.mem_cons, List.not_mem_nil, or_false] at he; rcases he with rfl | rfl <;> exact ⟨_, rfl⟩⟩) : AppL (.l 2 eLabLink ([] : List LabLink)) (.l 2 eLabLink n.Links) 2 (.l 2 eLabLink (([] : List LabLink) ++ n.Links)))) (ai ((by (try simp only [lens]); first | omega | (have := hpre2 (Int.toNat i40); have := hpre3 (Int.toNat i40); omega) : ((([] : List LabLink) ++ n.Links)).length * 16 ≤ 140737488355328)) (ai ((BuildOK.mk eLabBox ([] : List LabBox) rfl (by exact trivial) (fun _ => rfl) : BuildOK 0 2 [] (.l 2 eLabBox ([] : List LabBox)))) (fun (_ : n.Links.length ≤ 9223372036854775807) => fun (_ : n.Boxes.length ≤ 9223372036854775807) => fun (_ : (([] : List LabLink) ++ n.Links).length ≤ 9223372036854775807) => fun (_ : ([] : List LabBox).length ≤ 9223372036854775807) => ai (ai (rfl) (ai ((Imp.refl _)) (ai ((Imp.refl _)) (ai (rfl) (ai (rfl) (ai ((Imp.refl _)) (ai ((Imp.refl _)) ((ai (rfl : runL (F67_s0 n) ((Int.toNat ((n.Boxes.length : Int) - 0)) + 1) (0, ([] : List LabBox)) = (runL (F67_s0 n) ((Int.toNat ((n.Boxes.length : Int) - 0)) + 1) (0, ([] : List LabBox)))) (ai ((Nat.lt_succ_self _ : Int.toNat ((n.Boxes.length : Int) - 0) < ((Int.toNat ((n.Boxes.length : Int) - 0)) + 1))) (ai ((by first | omega | (simp only [lens] at * <;> omega) : (([] : List LabBox).length : Int) = 0)) ((by first | omega | (simp only [lens] at * <;> omega) : (0 : Int) ≤ 0)))))))))))) : ((.int .i64 0 : Value) = .int .i64 0) ∧ (Imp (.l 2 eLabLink n.Links) (.l 2 eLabLink n.Links)) ∧ (Imp (.l 2 eLabBox n.Boxes) (.l 2 eLabBox n.Boxes)) ∧ ((.slice none 0 0 : Value) = .slice none 0 0) ∧ ((.slice none 0 0 : Value) = .slice none 0 0) ∧ (Imp (.l 2 eLabLink (([] : List LabLink) ++ n.Links)) (.l 2 eLabLink (([] : List LabLink) ++ n.Links))) ∧ (Imp (.l 2 eLabBox ([] : List LabBox)) (.l 2 eLabBox ([] : List LabBox))) ∧ (runL (F67_s0 n) ((Int.toNat ((n.Boxes.length : Int) - 0)) + 1) (0, ([] : List LabBox)) = (runL (F67_s0 n) ((Int.toNat ((n.Boxes.length : Int) - 0)) + 1) (0, ([] : List LabBox))) ∧ Int.toNat ((n.Boxes.length : Int) - 0) < ((Int.toNat ((n.Boxes.length : Int) - 0)) + 1) ∧ (([] : List LabBox).length : Int) = 0 ∧ (0 : Int) ≤ 0)) (fun (i0 : Nat × (Int × List LabBox)) (hi0 : runL (F67_s0 n) i0.1 i0.2 = (runL (F67_s0 n) ((Int.toNat ((n.Boxes.length : Int) - 0)) + 1) (0, ([] : List LabBox))) ∧ (fun (i40 : Int) (out : List LabBox) => (Int.toNat ((n.Boxes.length : Int) - i40) < i0.1 ∧ (out.length : Int) = i40 ∧ (0 : Int) ≤ i40)) i0.2.1 i0.2.2) => (fun (m0 : Nat) (i40 : Int) (out : List LabBox) (hI0 : runL (F67_s0 n) (m0 + 1) (i40, out) = (runL (F67_s0 n) ((Int.toNat ((n.Boxes.length : Int) - 0)) + 1) (0, ([] : List LabBox)))) (_ : Int.toNat ((n.Boxes.length : Int) - i40) < m0 + 1) (hl0 : m0 < i0.1) (_ : (out.length : Int) = i40) (_ : (0 : Int) ≤ i40) => ai (fun h2 : (decide (i40 < (n.Boxes.length : Int))) = true => (fun _ : i40 < (n.Boxes.length : Int) => ai ((BuildOK.mk eLabRow ([] : List LabRow) rfl (by exact trivial) (fun _ => rfl) : BuildOK 0 3 [] (.l 3 eLabRow ([] : List LabRow)))) (ai ((by first | omega | (simp only [lens] at * <;> omega) : 0 ≤ i40 ∧ i40 < (n.Boxes.length : Int))) (ai ((AppL.mk eLabRow ([] : List LabRow) ((n.Boxes.getD (Int.toNat i40) default).Rows) (Imp.refl (.l 3 eLabRow ([] : List LabRow))) (Imp.refl _) (fun y => ⟨rfl, fun e he => by simp only [eLabRow, List.mem_cons, List.not_mem_nil, or_false] at he; rcases he with rfl | rfl | rfl <;> exact ⟨_, rfl⟩⟩) : AppL (.l 3 eLabRow ([] : List LabRow)) (.l 3 eLabRow ((n.Boxes.getD (Int.toNat i40) default).Rows)) 3 (.l 3 eLabRow (([] : List LabRow) ++ ((n.Boxes.getD (Int.toNat i40) default).Rows))))) (ai ((by (try simp only [lens]); first | omega | (have := hpre2 (Int.toNat i40); have := hpre3 (Int.toNat i40); omega) : ((([] : List LabRow) ++ ((n.Boxes.getD (Int.toNat i40) default).Rows))).length * 24 ≤ 140737488355328)) (ai ((BuildOK.mk eLabVia ([] : List LabVia) rfl (by exact trivial) (fun _ => rfl) : BuildOK 0 3 [] (.l 3 eLabVia ([] : List LabVia)))) (ai ((by first | omega | (simp only [lens] at * <;> omega) : 0 ≤ i40 ∧ i40 < (n.Boxes.length : Int))) (ai ((AppL.mk eLabVia ([] : List LabVia) ((n.Boxes.getD (Int.toNat i40) default).Guards) (Imp.refl (.l 3 eLabVia ([] : List LabVia))) (Imp.refl _) (fun y => ⟨rfl, fun e he => by simp only [eLabVia, List.mem_cons, List.not_mem_nil, or_false] at he; rcases he with rfl | rfl | rfl <;> exact ⟨_, rfl⟩⟩) : AppL (.l 3 eLabVia ([] : List LabVia)) (.l 3 eLabVia ((n.Boxes.getD (Int.toNat i40) default).Guards)) 3 (.l 3 eLabVia (([] : List LabVia) ++ ((n.Boxes.getD (Int.toNat i40) default).Guards))))) (ai ((by (try simp only [lens]); first | omega | (have := hpre2 (Int.toNat i40); have := hpre3 (Int.toNat i40); omega) : ((([] : List LabVia) ++ ((n.Boxes.getD (Int.toNat i40) default).Guards))).length * 24 ≤ 140737488355328)) (ai ((AppA.mk eLabBox out [(⟨(([] : List LabRow) ++ ((n.Boxes.getD (Int.toNat i40) default).Rows)), (([] : List LabVia) ++ ((n.Boxes.getD (Int.toNat i40) default).Guards))⟩ : LabBox)] (Imp.refl (.l 2 eLabBox out)) rfl (by exact ai (Imp.refl _) (ai (Imp.refl _) (trivial))) (fun _ => rfl) : AppA (.l 2 eLabBox out) 1 2 [.l 3 eLabRow (([] : List LabRow) ++ ((n.Boxes.getD (Int.toNat i40) default).Rows)), .l 3 eLabVia (([] : List LabVia) ++ ((n.Boxes.getD (Int.toNat i40) default).Guards))] (.l 2 eLabBox (out ++ [(⟨(([] : List LabRow) ++ ((n.Boxes.getD (Int.toNat i40) default).Rows)), (([] : List LabVia) ++ ((n.Boxes.getD (Int.toNat i40) default).Guards))⟩ : LabBox)])))) (ai ((by (try simp only [lens]); first | omega | (have := hpre2 (Int.toNat i40); have := hpre3 (Int.toNat i40); omega) : ((out ++ [(⟨(([] : List LabRow) ++ ((n.Boxes.getD (Int.toNat i40) default).Rows)), (([] : List LabVia) ++ ((n.Boxes.getD (Int.toNat i40) default).Guards))⟩ : LabBox)])).length * 48 ≤ 140737488355328)) (ai ((by unfold i64ok; first | omega | (simp only [lens] at * <;> omega) : i64ok (i40 + 1))) (Exists.intro (p := fun j : Nat × (Int × List LabBox) => (fun (i40_ : Int) (out_ : List LabBox) => (((.int .i64 (i40 + 1) : Value) = .int .i64 i40_) ∧ (Imp (.l 2 eLabLink n.Links) (.l 2 eLabLink n.Links)) ∧ (Imp (.l 2 eLabBox n.Boxes) (.l 2 eLabBox n.Boxes)) ∧ ((.slice none 0 0 : Value) = .slice none 0 0) ∧ ((.slice none 0 0 : Value) = .slice none 0 0) ∧ (Imp (.l 2 eLabLink (([] : List LabLink) ++ n.Links)) (.l 2 eLabLink (([] : List LabLink) ++ n.Links))) ∧ (Imp (.l 2 eLabBox (out ++ [(⟨(([] : List LabRow) ++ ((n.Boxes.getD (Int.toNat i40) default).Rows)), (([] : List LabVia) ++ ((n.Boxes.getD (Int.toNat i40) default).Guards))⟩ : LabBox)])) (.l 2 eLabBox out_)) ∧ ((runL (F67_s0 n) j.1 j.2 = (runL (F67_s0 n) ((Int.toNat ((n.Boxes.length : Int) - 0)) + 1) (0, ([] : List LabBox))) ∧ Int.toNat ((n.Boxes.length : Int) - i40_) < j.1 ∧ (out_.length : Int) = i40_ ∧ (0 : Int) ≤ i40_) ∧ j.1 < i0.1))) j.2.1 j.2.2) (m0, ((i40 + 1), (out ++ [(⟨(([] : List LabRow) ++ ((n.Boxes.getD (Int.toNat i40) default).Rows)), (([] : List LabVia) ++ ((n.Boxes.getD (Int.toNat i40) default).Guards))⟩ : LabBox)]))) (ai (rfl) (ai ((Imp.refl _)) (ai ((Imp.refl _)) (ai (rfl) (ai (rfl) (ai ((Imp.refl _)) (ai ((Imp.refl _)) (ai (ai (runL_next hI0 (condT h2 (rfl))) (ai ((by first | omega | (simp only [lens] at * <;> omega) : Int.toNat ((n.Boxes.length : Int) - (i40 + 1)) < m0)) (ai ((by first | omega | (simp only [lens] at * <;> omega) : ((out ++ [(⟨(([] : List LabRow) ++ ((n.Boxes.getD (Int.toNat i40) default).Rows)), (([] : List LabVia) ++ ((n.Boxes.getD (Int.toNat i40) default).Guards))⟩ : LabBox)]).length : Int) = (i40 + 1))) ((by first | omega | (simp only [lens] at * <;> omega) : (0 : Int) ≤ (i40 + 1)))))) hl0)))))))))))))))))))) (of_decide_eq_true h2)) (fun h2 : (decide (i40 < (n.Boxes.length : Int))) = false => (fun _ : ¬ i40 < (n.Boxes.length : Int) => (fun hD0_3 : (runL (F67_s0 n) ((Int.toNat ((n.Boxes.length : Int) - 0)) + 1) (0, ([] : List LabBox))) = Lp.done (i40, out) => (fun hF : ((⟨(([] : List LabLink) ++ n.Links), out⟩ : LabNet) : LabNet) = (F67 n) => ai (Imp.of_eq (congrArg (fun r : LabNet => Dat.l 2 eLabLink r.Links) hF)) (ai (Imp.of_eq (congrArg (fun r : LabNet => Dat.l 2 eLabBox r.Boxes) hF)) (trivial))) (finD hD0_3 (rfl))) (runL_done hI0 (condF h2 (rfl)))) (of_decide_eq_false h2))) (i0.1 - 1) i0.2.1 i0.2.2 (hd1 hi0.1 hi0.2.1) (hd2 hi0.2.1) (hd3 hi0.2.1) hi0.2.2.1 hi0.2.2.2)))))) hp.1 hp.2.1 hp.2.2.1 hp.2.2.2) (by kernel_rfl)
def F99 (list : List LabLink) : List LabLink :=
  ((List.replicate (Int.toNat 0) ((⟨0, 0⟩ : LabLink) : LabLink)) ++ list)
def S99 (R : List LabLink) (list : List LabLink) : Spec := ⟨[.r (.c (.l 2 eLabLink list))], .ow (.l 2 eLabLink R), list.length ≤ 1000000000⟩
theorem ok99 (list : List LabLink) : (S99 (F99 list) list).ok Try.prog 99 :=
  fnG_ok mixed (fn := Try.f99) (ct := .seqk [(0, 0)] (.no) (.seq (.reg [(2, .dat (.l 2 eLabLink (List.replicate (Int.toNat 0) ((⟨0, 0⟩ : LabLink) : LabLink)))), (4, .dat (.l 2 eLabLink ((List.replicate (Int.toNat 0) ((⟨0, 0⟩ : LabLink) : LabLink)) ++ list)))]) (.no))) Try.func99 (fun (hpre0 : list.length ≤ 1000000000) => fun (_ : list.length ≤ 9223372036854775807) => ai ((by first | omega | (simp only [lens] at * <;> omega) : 0 ≤ (0 : Int) ∧ (0 : Int) ≤ (list.length : Int) ∧ (16 : Int) * (list.length : Int) ≤ 281474976710656)) (ai ((MakeOK.mk eLabLink ((⟨0, 0⟩ : LabLink) : LabLink) (by exact ai (Imp.refl _) (ai (Imp.refl _) (trivial))) : MakeOK 2 [.v (vI 0), .v (vI 0)] (Int.toNat 0) (.l 2 eLabLink (List.replicate (Int.toNat 0) ((⟨0, 0⟩ : LabLink) : LabLink))))) (ai ((AppL.mk eLabLink (List.replicate (Int.toNat 0) ((⟨0, 0⟩ : LabLink) : LabLink)) list (Imp.refl (.l 2 eLabLink (List.replicate (Int.toNat 0) ((⟨0, 0⟩ : LabLink) : LabLink)))) (Imp.refl _) (fun y => ⟨rfl, fun e he => by simp only [eLabLink, List.mem_cons, List.not_mem_nil, or_false] at he; rcases he with rfl | rfl <;> exact ⟨_, rfl⟩⟩) : AppL (.l 2 eLabLink (List.replicate (Int.toNat 0) ((⟨0, 0⟩ : LabLink) : LabLink))) (.l 2 eLabLink list) 2 (.l 2 eLabLink ((List.replicate (Int.toNat 0) ((⟨0, 0⟩ : LabLink) : LabLink)) ++ list)))) (ai ((by (try simp only [lens]); omega : (((List.replicate (Int.toNat 0) ((⟨0, 0⟩ : LabLink) : LabLink)) ++ list)).length * 16 ≤ 140737488355328)) ((fun hF : (((List.replicate (Int.toNat 0) ((⟨0, 0⟩ : LabLink) : LabLink)) ++ list) : List LabLink) = (F99 list) => ai (Imp.of_eq (congrArg (fun r : List LabLink => Dat.l 2 eLabLink r) hF)) (trivial)) (rfl)))))) (by kernel_rfl)
theorem as99 (list : List LabLink) : F99 list = (list) := by
  simp [F99]
theorem oa99 (list : List LabLink) : (S99 (list) list).ok Try.prog 99 := by
  intro hp; have h := ok99 list hp; rw [as99 list] at h; exact h
def F100 (list : List LabRow) : List LabRow :=
  ((List.replicate (Int.toNat 0) ((⟨0, 0, 0⟩ : LabRow) : LabRow)) ++ list)
def S100 (R : List LabRow) (list : List LabRow) : Spec := ⟨[.r (.c (.l 3 eLabRow list))], .ow (.l 3 eLabRow R), list.length ≤ 1000000000⟩
theorem ok100 (list : List LabRow) : (S100 (F100 list) list).ok Try.prog 100 :=
  fnG_ok mixed (fn := Try.f100) (ct := .seqk [(0, 0)] (.no) (.seq (.reg [(2, .dat (.l 3 eLabRow (List.replicate (Int.toNat 0) ((⟨0, 0, 0⟩ : LabRow) : LabRow)))), (4, .dat (.l 3 eLabRow ((List.replicate (Int.toNat 0) ((⟨0, 0, 0⟩ : LabRow) : LabRow)) ++ list)))]) (.no))) Try.func100 (fun (hpre0 : list.length ≤ 1000000000) => fun (_ : list.length ≤ 9223372036854775807) => ai ((by first | omega | (simp only [lens] at * <;> omega) : 0 ≤ (0 : Int) ∧ (0 : Int) ≤ (list.length : Int) ∧ (24 : Int) * (list.length : Int) ≤ 281474976710656)) (ai ((MakeOK.mk eLabRow ((⟨0, 0, 0⟩ : LabRow) : LabRow) (by exact ai (Imp.refl _) (ai (Imp.refl _) (ai (Imp.refl _) (trivial)))) : MakeOK 3 [.v (vI 0), .v (vI 0), .v (vI 0)] (Int.toNat 0) (.l 3 eLabRow (List.replicate (Int.toNat 0) ((⟨0, 0, 0⟩ : LabRow) : LabRow))))) (ai ((AppL.mk eLabRow (List.replicate (Int.toNat 0) ((⟨0, 0, 0⟩ : LabRow) : LabRow)) list (Imp.refl (.l 3 eLabRow (List.replicate (Int.toNat 0) ((⟨0, 0, 0⟩ : LabRow) : LabRow)))) (Imp.refl _) (fun y => ⟨rfl, fun e he => by simp only [eLabRow, List.mem_cons, List.not_mem_nil, or_false] at he; rcases he with rfl | rfl | rfl <;> exact ⟨_, rfl⟩⟩) : AppL (.l 3 eLabRow (List.replicate (Int.toNat 0) ((⟨0, 0, 0⟩ : LabRow) : LabRow))) (.l 3 eLabRow list) 3 (.l 3 eLabRow ((List.replicate (Int.toNat 0) ((⟨0, 0, 0⟩ : LabRow) : LabRow)) ++ list)))) (ai ((by (try simp only [lens]); omega : (((List.replicate (Int.toNat 0) ((⟨0, 0, 0⟩ : LabRow) : LabRow)) ++ list)).length * 24 ≤ 140737488355328)) ((fun hF : (((List.replicate (Int.toNat 0) ((⟨0, 0, 0⟩ : LabRow) : LabRow)) ++ list) : List LabRow) = (F100 list) => ai (Imp.of_eq (congrArg (fun r : List LabRow => Dat.l 3 eLabRow r) hF)) (trivial)) (rfl)))))) (by kernel_rfl)
theorem as100 (list : List LabRow) : F100 list = (list) := by
  simp [F100]
theorem oa100 (list : List LabRow) : (S100 (list) list).ok Try.prog 100 := by
  intro hp; have h := ok100 list hp; rw [as100 list] at h; exact h
def F101 (list : List LabVia) : List LabVia :=
  ((List.replicate (Int.toNat 0) ((⟨0, 0, 0⟩ : LabVia) : LabVia)) ++ list)
def S101 (R : List LabVia) (list : List LabVia) : Spec := ⟨[.r (.c (.l 3 eLabVia list))], .ow (.l 3 eLabVia R), list.length ≤ 1000000000⟩
theorem ok101 (list : List LabVia) : (S101 (F101 list) list).ok Try.prog 101 :=
  fnG_ok mixed (fn := Try.f101) (ct := .seqk [(0, 0)] (.no) (.seq (.reg [(2, .dat (.l 3 eLabVia (List.replicate (Int.toNat 0) ((⟨0, 0, 0⟩ : LabVia) : LabVia)))), (4, .dat (.l 3 eLabVia ((List.replicate (Int.toNat 0) ((⟨0, 0, 0⟩ : LabVia) : LabVia)) ++ list)))]) (.no))) Try.func101 (fun (hpre0 : list.length ≤ 1000000000) => fun (_ : list.length ≤ 9223372036854775807) => ai ((by first | omega | (simp only [lens] at * <;> omega) : 0 ≤ (0 : Int) ∧ (0 : Int) ≤ (list.length : Int) ∧ (24 : Int) * (list.length : Int) ≤ 281474976710656)) (ai ((MakeOK.mk eLabVia ((⟨0, 0, 0⟩ : LabVia) : LabVia) (by exact ai (Imp.refl _) (ai (Imp.refl _) (ai (Imp.refl _) (trivial)))) : MakeOK 3 [.v (vI 0), .v (vI 0), .v (vI 0)] (Int.toNat 0) (.l 3 eLabVia (List.replicate (Int.toNat 0) ((⟨0, 0, 0⟩ : LabVia) : LabVia))))) (ai ((AppL.mk eLabVia (List.replicate (Int.toNat 0) ((⟨0, 0, 0⟩ : LabVia) : LabVia)) list (Imp.refl (.l 3 eLabVia (List.replicate (Int.toNat 0) ((⟨0, 0, 0⟩ : LabVia) : LabVia)))) (Imp.refl _) (fun y => ⟨rfl, fun e he => by simp only [eLabVia, List.mem_cons, List.not_mem_nil, or_false] at he; rcases he with rfl | rfl | rfl <;> exact ⟨_, rfl⟩⟩) : AppL (.l 3 eLabVia (List.replicate (Int.toNat 0) ((⟨0, 0, 0⟩ : LabVia) : LabVia))) (.l 3 eLabVia list) 3 (.l 3 eLabVia ((List.replicate (Int.toNat 0) ((⟨0, 0, 0⟩ : LabVia) : LabVia)) ++ list)))) (ai ((by (try simp only [lens]); omega : (((List.replicate (Int.toNat 0) ((⟨0, 0, 0⟩ : LabVia) : LabVia)) ++ list)).length * 24 ≤ 140737488355328)) ((fun hF : (((List.replicate (Int.toNat 0) ((⟨0, 0, 0⟩ : LabVia) : LabVia)) ++ list) : List LabVia) = (F101 list) => ai (Imp.of_eq (congrArg (fun r : List LabVia => Dat.l 3 eLabVia r) hF)) (trivial)) (rfl)))))) (by kernel_rfl)
theorem as101 (list : List LabVia) : F101 list = (list) := by
  simp [F101]
theorem oa101 (list : List LabVia) : (S101 (list) list).ok Try.prog 101 := by
  intro hp; have h := ok101 list hp; rw [as101 list] at h; exact h
def F61_s0 (n : LabNet) : (Int × List LabBox) → Lp (Int × List LabBox) LabNet := fun (v13, out) =>
  bif (decide (v13 < (n.Boxes.length : Int))) then (.next ((v13 + 1), (out ++ [(n.Boxes.getD (Int.toNat v13) default)]))) else (.done (v13, out))
def F61 (n : LabNet) : LabNet :=
  (runL (F61_s0 n) ((Int.toNat ((n.Boxes.length : Int) - 0)) + 1) (0, ([] : List LabBox))).fin (fun r => r) (fun (v13, out) => (⟨n.Links, out⟩ : LabNet))
def S61 (R : LabNet) (n : LabNet) : Spec := ⟨[.r (.g (eLabNet n))], .ag [.ow (.l 2 eLabLink R.Links), .ow (.l 2 eLabBox R.Boxes)], n.Links.length ≤ 1000000000 ∧ n.Boxes.length ≤ 1000000000 ∧ (∀ k : Nat, (n.Boxes.getD k default).Rows.length ≤ 1000000000) ∧ (∀ k : Nat, (n.Boxes.getD k default).Guards.length ≤ 1000000000)⟩
theorem ok61 (n : LabNet) : (S61 (F61 n) n).ok Try.prog 61 :=
  fnG_ok mixed (fn := Try.f61) (ct := .seq (.no) (.seq (.reg [(2, .call 99 (S99 n.Links n.Links) (oa99 n.Links) none)]) (.seq (.seqk [(3, 0), (11, 0)] (.no) (.blk (.loop (ι := Nat × (Int × List LabBox)) (fun i => (fun (v13 : Int) (out : List LabBox) => (⟨[(2, some (.p 0 0)), (3, some (.p 1 0)), (11, some (.h 4 0)), (12, some (.v (vI (n.Boxes.length : Int)))), (13, some (.v (vI v13)))], [(0, some (.box 26 [.v (.slice none 0 0), .v (.slice none 0 0)])), (1, some (.box 26 [.h 2 0, .h 3 0])), (2, some (.own 2 (.l 2 eLabLink n.Links))), (3, some (.own 3 (.l 2 eLabBox out))), (4, some (.shr none (.l 2 eLabBox n.Boxes)))], 5⟩ : St)) i.2.1 i.2.2) (fun i => runL (F61_s0 n) i.1 i.2 = (runL (F61_s0 n) ((Int.toNat ((n.Boxes.length : Int) - 0)) + 1) (0, ([] : List LabBox))) ∧ (fun (v13 : Int) (out : List LabBox) => (Int.toNat ((n.Boxes.length : Int) - v13) < i.1 ∧ (out.length : Int) = v13 ∧ (0 : Int) ≤ v13)) i.2.1 i.2.2) (fun i => i.1) (((Int.toNat ((n.Boxes.length : Int) - 0)) + 1), (0, ([] : List LabBox))) (fun i => (fun (v13 : Int) (out : List LabBox) => (.seq (.no) (.seq (.cond (.no) (.no)) (.seq (.blk (.seq (.no) (.reg [(4, .call 100 (S100 ((n.Boxes.getD (Int.toNat v13) default).Rows) ((n.Boxes.getD (Int.toNat v13) default).Rows)) (oa100 ((n.Boxes.getD (Int.toNat v13) default).Rows)) none), (7, .call 101 (S101 ((n.Boxes.getD (Int.toNat v13) default).Guards) ((n.Boxes.getD (Int.toNat v13) default).Guards)) (oa101 ((n.Boxes.getD (Int.toNat v13) default).Guards)) none), (10, .dat (.l 2 eLabBox (out ++ [(n.Boxes.getD (Int.toNat v13) default)])))]))) (.reg [(0, .bnd)]))))) i.2.1 i.2.2)))) (.seq (.no) (.no))))) Try.func61 (fun (hp : n.Links.length ≤ 1000000000 ∧ n.Boxes.length ≤ 1000000000 ∧ (∀ k : Nat, (n.Boxes.getD k default).Rows.length ≤ 1000000000) ∧ (∀ k : Nat, (n.Boxes.getD k default).Guards.length ≤ 1000000000)) => (fun (hpre0 : n.Links.length ≤ 1000000000) (hpre1 : n.Boxes.length ≤ 1000000000) (hpre2 : ∀ k : Nat, (n.Boxes.getD k default).Rows.length ≤ 1000000000) (hpre3 : ∀ k : Nat, (n.Boxes.getD k default).Guards.length ≤ 1000000000) => ai (((by first | omega | (simp only [lens] at * <;> omega) : n.Links.length ≤ 1000000000))) (ai ((Imp.refl (.l 2 eLabLink n.Links))) (fun (_ : n.Links.length ≤ 9223372036854775807) => fun (_ : n.Boxes.length ≤ 9223372036854775807) => ai (ai (rfl) (ai (rfl) (ai (rfl) (ai (rfl) (ai (rfl) (ai ((Imp.refl _)) (ai ((Imp.nil _ _)) (ai ((Imp.refl _)) ((ai (rfl : runL (F61_s0 n) ((Int.toNat ((n.Boxes.length : Int) - 0)) + 1) (0, ([] : List LabBox)) = (runL (F61_s0 n) ((Int.toNat ((n.Boxes.length : Int) - 0)) + 1) (0, ([] : List LabBox)))) (ai ((Nat.lt_succ_self _ : Int.toNat ((n.Boxes.length : Int) - 0) < ((Int.toNat ((n.Boxes.length : Int) - 0)) + 1))) (ai ((by first | omega | (simp only [lens] at * <;> omega) : (([] : List LabBox).length : Int) = 0)) ((by first | omega | (simp only [lens] at * <;> omega) : (0 : Int) ≤ 0))))))))))))) : ((.int .i64 (n.Boxes.length : Int) : Value) = .int .i64 (n.Boxes.length : Int)) ∧ ((.int .i64 0 : Value) = .int .i64 0) ∧ ((.slice none 0 0 : Value) = .slice none 0 0) ∧ ((.slice none 0 0 : Value) = .slice none 0 0) ∧ ((.slice none 0 0 : Value) = .slice none 0 0) ∧ (Imp (.l 2 eLabLink n.Links) (.l 2 eLabLink n.Links)) ∧ (Imp (.v (.slice none 0 0)) (.l 2 eLabBox ([] : List LabBox))) ∧ (Imp (.l 2 eLabBox n.Boxes) (.l 2 eLabBox n.Boxes)) ∧ (runL (F61_s0 n) ((Int.toNat ((n.Boxes.length : Int) - 0)) + 1) (0, ([] : List LabBox)) = (runL (F61_s0 n) ((Int.toNat ((n.Boxes.length : Int) - 0)) + 1) (0, ([] : List LabBox))) ∧ Int.toNat ((n.Boxes.length : Int) - 0) < ((Int.toNat ((n.Boxes.length : Int) - 0)) + 1) ∧ (([] : List LabBox).length : Int) = 0 ∧ (0 : Int) ≤ 0)) (fun (i0 : Nat × (Int × List LabBox)) (hi0 : runL (F61_s0 n) i0.1 i0.2 = (runL (F61_s0 n) ((Int.toNat ((n.Boxes.length : Int) - 0)) + 1) (0, ([] : List LabBox))) ∧ (fun (v13 : Int) (out : List LabBox) => (Int.toNat ((n.Boxes.length : Int) - v13) < i0.1 ∧ (out.length : Int) = v13 ∧ (0 : Int) ≤ v13)) i0.2.1 i0.2.2) => (fun (m0 : Nat) (v13 : Int) (out : List LabBox) (hI0 : runL (F61_s0 n) (m0 + 1) (v13, out) = (runL (F61_s0 n) ((Int.toNat ((n.Boxes.length : Int) - 0)) + 1) (0, ([] : List LabBox)))) (_ : Int.toNat ((n.Boxes.length : Int) - v13) < m0 + 1) (hl0 : m0 < i0.1) (_ : (out.length : Int) = v13) (_ : (0 : Int) ≤ v13) => ai (fun h2 : (decide (v13 < (n.Boxes.length : Int))) = true => (fun _ : v13 < (n.Boxes.length : Int) => ai ((by first | omega | (simp only [lens] at * <;> omega) : 0 ≤ v13 ∧ v13 < (n.Boxes.length : Int))) (ai (((by first | omega | exact hpre2 _ | exact hpre3 _ | (intros; exact Nat.zero_le _) : ((n.Boxes.getD (Int.toNat v13) default).Rows).length ≤ 1000000000))) (ai ((Imp.refl (.l 3 eLabRow ((n.Boxes.getD (Int.toNat v13) default).Rows)))) (ai (((by first | omega | exact hpre2 _ | exact hpre3 _ | (intros; exact Nat.zero_le _) : ((n.Boxes.getD (Int.toNat v13) default).Guards).length ≤ 1000000000))) (ai ((Imp.refl (.l 3 eLabVia ((n.Boxes.getD (Int.toNat v13) default).Guards)))) (ai ((AppA.mk eLabBox out [(n.Boxes.getD (Int.toNat v13) default)] (Imp.refl (.l 2 eLabBox out)) rfl (by exact ai (Imp.refl _) (ai (Imp.refl _) (trivial))) (fun _ => rfl) : AppA (.l 2 eLabBox out) 1 2 [.l 3 eLabRow ((n.Boxes.getD (Int.toNat v13) default).Rows), .l 3 eLabVia ((n.Boxes.getD (Int.toNat v13) default).Guards)] (.l 2 eLabBox (out ++ [(n.Boxes.getD (Int.toNat v13) default)])))) (ai ((by (try simp only [lens]); first | omega | (have := hpre2 (Int.toNat v13); have := hpre3 (Int.toNat v13); omega) : ((out ++ [(n.Boxes.getD (Int.toNat v13) default)])).length * 48 ≤ 140737488355328)) (ai ((by unfold i64ok; first | omega | (simp only [lens] at * <;> omega) : i64ok (v13 + 1))) (Exists.intro (p := fun j : Nat × (Int × List LabBox) => (fun (v13_ : Int) (out_ : List LabBox) => (((.int .i64 (n.Boxes.length : Int) : Value) = .int .i64 (n.Boxes.length : Int)) ∧ ((.int .i64 (v13 + 1) : Value) = .int .i64 v13_) ∧ ((.slice none 0 0 : Value) = .slice none 0 0) ∧ ((.slice none 0 0 : Value) = .slice none 0 0) ∧ (Imp (.l 2 eLabLink n.Links) (.l 2 eLabLink n.Links)) ∧ (Imp (.l 2 eLabBox (out ++ [(n.Boxes.getD (Int.toNat v13) default)])) (.l 2 eLabBox out_)) ∧ (Imp (.l 2 eLabBox n.Boxes) (.l 2 eLabBox n.Boxes)) ∧ ((runL (F61_s0 n) j.1 j.2 = (runL (F61_s0 n) ((Int.toNat ((n.Boxes.length : Int) - 0)) + 1) (0, ([] : List LabBox))) ∧ Int.toNat ((n.Boxes.length : Int) - v13_) < j.1 ∧ (out_.length : Int) = v13_ ∧ (0 : Int) ≤ v13_) ∧ j.1 < i0.1))) j.2.1 j.2.2) (m0, ((v13 + 1), (out ++ [(n.Boxes.getD (Int.toNat v13) default)]))) (ai (rfl) (ai (rfl) (ai (rfl) (ai (rfl) (ai ((Imp.refl _)) (ai ((Imp.refl _)) (ai ((Imp.refl _)) (ai (ai (runL_next hI0 (condT h2 (rfl))) (ai ((by first | omega | (simp only [lens] at * <;> omega) : Int.toNat ((n.Boxes.length : Int) - (v13 + 1)) < m0)) (ai ((by first | omega | (simp only [lens] at * <;> omega) : ((out ++ [(n.Boxes.getD (Int.toNat v13) default)]).length : Int) = (v13 + 1))) ((by first | omega | (simp only [lens] at * <;> omega) : (0 : Int) ≤ (v13 + 1)))))) hl0))))))))))))))))) (of_decide_eq_true h2)) (fun h2 : (decide (v13 < (n.Boxes.length : Int))) = false => (fun _ : ¬ v13 < (n.Boxes.length : Int) => (fun hD0_3 : (runL (F61_s0 n) ((Int.toNat ((n.Boxes.length : Int) - 0)) + 1) (0, ([] : List LabBox))) = Lp.done (v13, out) => (fun hF : ((⟨n.Links, out⟩ : LabNet) : LabNet) = (F61 n) => ai (Imp.of_eq (congrArg (fun r : LabNet => Dat.l 2 eLabLink r.Links) hF)) (ai (Imp.of_eq (congrArg (fun r : LabNet => Dat.l 2 eLabBox r.Boxes) hF)) (trivial))) (finD hD0_3 (rfl))) (runL_done hI0 (condF h2 (rfl)))) (of_decide_eq_false h2))) (i0.1 - 1) i0.2.1 i0.2.2 (hd1 hi0.1 hi0.2.1) (hd2 hi0.2.1) (hd3 hi0.2.1) hi0.2.2.1 hi0.2.2.2)))) hp.1 hp.2.1 hp.2.2.1 hp.2.2.2) (by kernel_rfl)
def F54 (list : List Int) : List Int :=
  ((List.replicate (Int.toNat 0) (0 : Int)) ++ list)
def S54 (R : List Int) (list : List Int) : Spec := ⟨[.r (.c (.l 1 eInt list))], .ow (.l 1 eInt R), list.length ≤ 1000000000⟩
theorem ok54 (list : List Int) : (S54 (F54 list) list).ok Try.prog 54 :=
  fnG_ok mixed (fn := Try.f54) (ct := .seqk [(0, 0)] (.no) (.seq (.reg [(2, .dat (.l 1 eInt (List.replicate (Int.toNat 0) (0 : Int)))), (4, .dat (.l 1 eInt ((List.replicate (Int.toNat 0) (0 : Int)) ++ list)))]) (.no))) Try.func54 (fun (hpre0 : list.length ≤ 1000000000) => fun (_ : list.length ≤ 9223372036854775807) => ai ((by first | omega | (simp only [lens] at * <;> omega) : 0 ≤ (0 : Int) ∧ (0 : Int) ≤ (list.length : Int) ∧ (8 : Int) * (list.length : Int) ≤ 281474976710656)) (ai ((MakeOK.mk eInt (0 : Int) (by exact ai (Imp.refl _) (trivial)) : MakeOK 1 [.v (vI 0)] (Int.toNat 0) (.l 1 eInt (List.replicate (Int.toNat 0) (0 : Int))))) (ai ((AppL.mk eInt (List.replicate (Int.toNat 0) (0 : Int)) list (Imp.refl (.l 1 eInt (List.replicate (Int.toNat 0) (0 : Int)))) (Imp.refl _) (fun y => ⟨rfl, fun e he => by simp only [eInt, List.mem_cons, List.not_mem_nil, or_false] at he; rcases he with rfl <;> exact ⟨_, rfl⟩⟩) : AppL (.l 1 eInt (List.replicate (Int.toNat 0) (0 : Int))) (.l 1 eInt list) 1 (.l 1 eInt ((List.replicate (Int.toNat 0) (0 : Int)) ++ list)))) (ai ((by (try simp only [lens]); omega : (((List.replicate (Int.toNat 0) (0 : Int)) ++ list)).length * 8 ≤ 140737488355328)) ((fun hF : (((List.replicate (Int.toNat 0) (0 : Int)) ++ list) : List Int) = (F54 list) => ai (Imp.of_eq (congrArg (fun r : List Int => Dat.l 1 eInt r) hF)) (trivial)) (rfl)))))) (by kernel_rfl)
theorem as54 (list : List Int) : F54 list = (list) := by
  simp [F54]
theorem oa54 (list : List Int) : (S54 (list) list).ok Try.prog 54 := by
  intro hp; have h := ok54 list hp; rw [as54 list] at h; exact h
def F92_s0 (b : LabBox) (label : Int) : Int → Lp Int (LabRow × Bool) := fun v11 =>
  bif (decide (v11 < (b.Rows.length : Int))) then (bif ((b.Rows.getD (Int.toNat v11) default).In == label) then (.ret ((b.Rows.getD (Int.toNat v11) default), true)) else (.next (v11 + 1))) else (.done v11)
def F92 (b : LabBox) (label : Int) : LabRow × Bool :=
  (runL (F92_s0 b label) ((Int.toNat ((b.Rows.length : Int) - 0)) + 1) 0).fin (fun r => r) (fun v11 => ((⟨0, 0, 0⟩ : LabRow), false))
def S92 (R : LabRow × Bool) (b : LabBox) (label : Int) : Spec := ⟨[.r (.g (eLabBox b)), .r (.c (.v (vI label)))], .tu [.ag [.v (vI R.1.In), .v (vI R.1.Next), .v (vI R.1.Out)], .v (.bool R.2)], True⟩
theorem ok92 (b : LabBox) (label : Int) : (S92 (F92 b label) b label).ok Try.prog 92 :=
  fnG_ok mixed (fn := Try.f92) (ct := .seq (.no) (.seq (.seqk [(9, 0)] (.no) (.blk (.loop (ι := Nat × Int) (fun i => (fun (v11 : Int) => (⟨[(1, some (.v (vI label))), (4, some (.p 0 0)), (9, some (.h 1 0)), (10, some (.v (vI (b.Rows.length : Int)))), (11, some (.v (vI v11)))], [(0, some (.box 68 [.v (vI 0), .v (vI 0), .v (vI 0)])), (1, some (.shr none (.l 3 eLabRow b.Rows)))], 2⟩ : St)) i.2) (fun i => runL (F92_s0 b label) i.1 i.2 = (runL (F92_s0 b label) ((Int.toNat ((b.Rows.length : Int) - 0)) + 1) 0) ∧ (fun (v11 : Int) => (Int.toNat ((b.Rows.length : Int) - v11) < i.1 ∧ (0 : Int) ≤ v11)) i.2) (fun i => i.1) (((Int.toNat ((b.Rows.length : Int) - 0)) + 1), 0) (fun i => (fun (v11 : Int) => (.seq (.no) (.seq (.cond (.no) (.no)) (.seq (.blk (.seq (.no) (.seq (.no) (.cond (.seq (.no) (.no)) (.no))))) (.reg [(0, .bnd)]))))) i.2)))) (.seq (.no) (.no)))) Try.func92 (fun (_ : True) => fun (_ : b.Rows.length ≤ 9223372036854775807) => ai (ai (rfl) (ai (rfl) (ai (rfl) (ai (rfl) (ai (rfl) (ai (rfl) (ai ((Imp.refl _)) ((ai (rfl : runL (F92_s0 b label) ((Int.toNat ((b.Rows.length : Int) - 0)) + 1) 0 = (runL (F92_s0 b label) ((Int.toNat ((b.Rows.length : Int) - 0)) + 1) 0)) (ai ((Nat.lt_succ_self _ : Int.toNat ((b.Rows.length : Int) - 0) < ((Int.toNat ((b.Rows.length : Int) - 0)) + 1))) ((by omega : (0 : Int) ≤ 0))))))))))) : ((.int .i64 label : Value) = .int .i64 label) ∧ ((.int .i64 (b.Rows.length : Int) : Value) = .int .i64 (b.Rows.length : Int)) ∧ ((.int .i64 0 : Value) = .int .i64 0) ∧ ((.int .i64 0 : Value) = .int .i64 0) ∧ ((.int .i64 0 : Value) = .int .i64 0) ∧ ((.int .i64 0 : Value) = .int .i64 0) ∧ (Imp (.l 3 eLabRow b.Rows) (.l 3 eLabRow b.Rows)) ∧ (runL (F92_s0 b label) ((Int.toNat ((b.Rows.length : Int) - 0)) + 1) 0 = (runL (F92_s0 b label) ((Int.toNat ((b.Rows.length : Int) - 0)) + 1) 0) ∧ Int.toNat ((b.Rows.length : Int) - 0) < ((Int.toNat ((b.Rows.length : Int) - 0)) + 1) ∧ (0 : Int) ≤ 0)) (fun (i0 : Nat × Int) (hi0 : runL (F92_s0 b label) i0.1 i0.2 = (runL (F92_s0 b label) ((Int.toNat ((b.Rows.length : Int) - 0)) + 1) 0) ∧ (fun (v11 : Int) => (Int.toNat ((b.Rows.length : Int) - v11) < i0.1 ∧ (0 : Int) ≤ v11)) i0.2) => (fun (m0 : Nat) (v11 : Int) (hI0 : runL (F92_s0 b label) (m0 + 1) v11 = (runL (F92_s0 b label) ((Int.toNat ((b.Rows.length : Int) - 0)) + 1) 0)) (_ : Int.toNat ((b.Rows.length : Int) - v11) < m0 + 1) (hl0 : m0 < i0.1) (_ : (0 : Int) ≤ v11) => ai (fun h2 : (decide (v11 < (b.Rows.length : Int))) = true => (fun _ : v11 < (b.Rows.length : Int) => ai ((by omega : 0 ≤ v11 ∧ v11 < (b.Rows.length : Int))) (ai (fun h3 : ((b.Rows.getD (Int.toNat v11) default).In == label) = true => (fun _ : (b.Rows.getD (Int.toNat v11) default).In = label => (fun hF : ((b.Rows.getD (Int.toNat v11) default), true) = (F92 b label) => ai (congrArg (fun r : LabRow × Bool => (.int .i64 r.1.In : Value)) hF) (ai (congrArg (fun r : LabRow × Bool => (.int .i64 r.1.Next : Value)) hF) (ai (congrArg (fun r : LabRow × Bool => (.int .i64 r.1.Out : Value)) hF) (ai (congrArg (fun r : LabRow × Bool => (.bool r.2 : Value)) hF) (trivial))))) (finR (runL_ret hI0 (condT h2 (condT h3 (rfl)))) rfl)) (eq_of_beq h3)) (fun h3 : ((b.Rows.getD (Int.toNat v11) default).In == label) = false => (fun _ : ¬ (b.Rows.getD (Int.toNat v11) default).In = label => ai ((by unfold i64ok; omega : i64ok (v11 + 1))) (Exists.intro (p := fun j : Nat × Int => (fun (v11_ : Int) => (((.int .i64 label : Value) = .int .i64 label) ∧ ((.int .i64 (b.Rows.length : Int) : Value) = .int .i64 (b.Rows.length : Int)) ∧ ((.int .i64 (v11 + 1) : Value) = .int .i64 v11_) ∧ ((.int .i64 0 : Value) = .int .i64 0) ∧ ((.int .i64 0 : Value) = .int .i64 0) ∧ ((.int .i64 0 : Value) = .int .i64 0) ∧ (Imp (.l 3 eLabRow b.Rows) (.l 3 eLabRow b.Rows)) ∧ ((runL (F92_s0 b label) j.1 j.2 = (runL (F92_s0 b label) ((Int.toNat ((b.Rows.length : Int) - 0)) + 1) 0) ∧ Int.toNat ((b.Rows.length : Int) - v11_) < j.1 ∧ (0 : Int) ≤ v11_) ∧ j.1 < i0.1))) j.2) (m0, (v11 + 1)) (ai (rfl) (ai (rfl) (ai (rfl) (ai (rfl) (ai (rfl) (ai (rfl) (ai ((Imp.refl _)) (ai (ai (runL_next hI0 (condT h2 (condF h3 (rfl)))) (ai ((by omega : Int.toNat ((b.Rows.length : Int) - (v11 + 1)) < m0)) ((by omega : (0 : Int) ≤ (v11 + 1))))) hl0)))))))))) (beqF h3)))) (of_decide_eq_true h2)) (fun h2 : (decide (v11 < (b.Rows.length : Int))) = false => (fun _ : ¬ v11 < (b.Rows.length : Int) => (fun hD0_4 : (runL (F92_s0 b label) ((Int.toNat ((b.Rows.length : Int) - 0)) + 1) 0) = Lp.done v11 => (fun hF : ((⟨0, 0, 0⟩ : LabRow), false) = (F92 b label) => ai (congrArg (fun r : LabRow × Bool => (.int .i64 r.1.In : Value)) hF) (ai (congrArg (fun r : LabRow × Bool => (.int .i64 r.1.Next : Value)) hF) (ai (congrArg (fun r : LabRow × Bool => (.int .i64 r.1.Out : Value)) hF) (ai (congrArg (fun r : LabRow × Bool => (.bool r.2 : Value)) hF) (trivial))))) (finD hD0_4 (rfl))) (runL_done hI0 (condF h2 (rfl)))) (of_decide_eq_false h2))) (i0.1 - 1) i0.2 (hd1 hi0.1 hi0.2.1) (hd2 hi0.2.1) (hd3 hi0.2.1) hi0.2.2)) (by kernel_rfl)
def F94_s0 (b : LabBox) (to' : Int) : Int → Lp Int (LabVia × Bool) := fun v11 =>
  bif (decide (v11 < (b.Guards.length : Int))) then (bif ((b.Guards.getD (Int.toNat v11) default).To == to') then (.ret ((b.Guards.getD (Int.toNat v11) default), true)) else (.next (v11 + 1))) else (.done v11)
def F94 (b : LabBox) (to' : Int) : LabVia × Bool :=
  (runL (F94_s0 b to') ((Int.toNat ((b.Guards.length : Int) - 0)) + 1) 0).fin (fun r => r) (fun v11 => ((⟨0, 0, 0⟩ : LabVia), false))
def S94 (R : LabVia × Bool) (b : LabBox) (to' : Int) : Spec := ⟨[.r (.g (eLabBox b)), .r (.c (.v (vI to')))], .tu [.ag [.v (vI R.1.To), .v (vI R.1.Via), .v (vI R.1.Push)], .v (.bool R.2)], True⟩
theorem ok94 (b : LabBox) (to' : Int) : (S94 (F94 b to') b to').ok Try.prog 94 :=
  fnG_ok mixed (fn := Try.f94) (ct := .seq (.no) (.seq (.seqk [(9, 0)] (.no) (.blk (.loop (ι := Nat × Int) (fun i => (fun (v11 : Int) => (⟨[(1, some (.v (vI to'))), (4, some (.p 0 0)), (9, some (.h 1 0)), (10, some (.v (vI (b.Guards.length : Int)))), (11, some (.v (vI v11)))], [(0, some (.box 95 [.v (vI 0), .v (vI 0), .v (vI 0)])), (1, some (.shr none (.l 3 eLabVia b.Guards)))], 2⟩ : St)) i.2) (fun i => runL (F94_s0 b to') i.1 i.2 = (runL (F94_s0 b to') ((Int.toNat ((b.Guards.length : Int) - 0)) + 1) 0) ∧ (fun (v11 : Int) => (Int.toNat ((b.Guards.length : Int) - v11) < i.1 ∧ (0 : Int) ≤ v11)) i.2) (fun i => i.1) (((Int.toNat ((b.Guards.length : Int) - 0)) + 1), 0) (fun i => (fun (v11 : Int) => (.seq (.no) (.seq (.cond (.no) (.no)) (.seq (.blk (.seq (.no) (.seq (.no) (.cond (.seq (.no) (.no)) (.no))))) (.reg [(0, .bnd)]))))) i.2)))) (.seq (.no) (.no)))) Try.func94 (fun (_ : True) => fun (_ : b.Guards.length ≤ 9223372036854775807) => ai (ai (rfl) (ai (rfl) (ai (rfl) (ai (rfl) (ai (rfl) (ai (rfl) (ai ((Imp.refl _)) ((ai (rfl : runL (F94_s0 b to') ((Int.toNat ((b.Guards.length : Int) - 0)) + 1) 0 = (runL (F94_s0 b to') ((Int.toNat ((b.Guards.length : Int) - 0)) + 1) 0)) (ai ((Nat.lt_succ_self _ : Int.toNat ((b.Guards.length : Int) - 0) < ((Int.toNat ((b.Guards.length : Int) - 0)) + 1))) ((by omega : (0 : Int) ≤ 0))))))))))) : ((.int .i64 to' : Value) = .int .i64 to') ∧ ((.int .i64 (b.Guards.length : Int) : Value) = .int .i64 (b.Guards.length : Int)) ∧ ((.int .i64 0 : Value) = .int .i64 0) ∧ ((.int .i64 0 : Value) = .int .i64 0) ∧ ((.int .i64 0 : Value) = .int .i64 0) ∧ ((.int .i64 0 : Value) = .int .i64 0) ∧ (Imp (.l 3 eLabVia b.Guards) (.l 3 eLabVia b.Guards)) ∧ (runL (F94_s0 b to') ((Int.toNat ((b.Guards.length : Int) - 0)) + 1) 0 = (runL (F94_s0 b to') ((Int.toNat ((b.Guards.length : Int) - 0)) + 1) 0) ∧ Int.toNat ((b.Guards.length : Int) - 0) < ((Int.toNat ((b.Guards.length : Int) - 0)) + 1) ∧ (0 : Int) ≤ 0)) (fun (i0 : Nat × Int) (hi0 : runL (F94_s0 b to') i0.1 i0.2 = (runL (F94_s0 b to') ((Int.toNat ((b.Guards.length : Int) - 0)) + 1) 0) ∧ (fun (v11 : Int) => (Int.toNat ((b.Guards.length : Int) - v11) < i0.1 ∧ (0 : Int) ≤ v11)) i0.2) => (fun (m0 : Nat) (v11 : Int) (hI0 : runL (F94_s0 b to') (m0 + 1) v11 = (runL (F94_s0 b to') ((Int.toNat ((b.Guards.length : Int) - 0)) + 1) 0)) (_ : Int.toNat ((b.Guards.length : Int) - v11) < m0 + 1) (hl0 : m0 < i0.1) (_ : (0 : Int) ≤ v11) => ai (fun h2 : (decide (v11 < (b.Guards.length : Int))) = true => (fun _ : v11 < (b.Guards.length : Int) => ai ((by omega : 0 ≤ v11 ∧ v11 < (b.Guards.length : Int))) (ai (fun h3 : ((b.Guards.getD (Int.toNat v11) default).To == to') = true => (fun _ : (b.Guards.getD (Int.toNat v11) default).To = to' => (fun hF : ((b.Guards.getD (Int.toNat v11) default), true) = (F94 b to') => ai (congrArg (fun r : LabVia × Bool => (.int .i64 r.1.To : Value)) hF) (ai (congrArg (fun r : LabVia × Bool => (.int .i64 r.1.Via : Value)) hF) (ai (congrArg (fun r : LabVia × Bool => (.int .i64 r.1.Push : Value)) hF) (ai (congrArg (fun r : LabVia × Bool => (.bool r.2 : Value)) hF) (trivial))))) (finR (runL_ret hI0 (condT h2 (condT h3 (rfl)))) rfl)) (eq_of_beq h3)) (fun h3 : ((b.Guards.getD (Int.toNat v11) default).To == to') = false => (fun _ : ¬ (b.Guards.getD (Int.toNat v11) default).To = to' => ai ((by unfold i64ok; omega : i64ok (v11 + 1))) (Exists.intro (p := fun j : Nat × Int => (fun (v11_ : Int) => (((.int .i64 to' : Value) = .int .i64 to') ∧ ((.int .i64 (b.Guards.length : Int) : Value) = .int .i64 (b.Guards.length : Int)) ∧ ((.int .i64 (v11 + 1) : Value) = .int .i64 v11_) ∧ ((.int .i64 0 : Value) = .int .i64 0) ∧ ((.int .i64 0 : Value) = .int .i64 0) ∧ ((.int .i64 0 : Value) = .int .i64 0) ∧ (Imp (.l 3 eLabVia b.Guards) (.l 3 eLabVia b.Guards)) ∧ ((runL (F94_s0 b to') j.1 j.2 = (runL (F94_s0 b to') ((Int.toNat ((b.Guards.length : Int) - 0)) + 1) 0) ∧ Int.toNat ((b.Guards.length : Int) - v11_) < j.1 ∧ (0 : Int) ≤ v11_) ∧ j.1 < i0.1))) j.2) (m0, (v11 + 1)) (ai (rfl) (ai (rfl) (ai (rfl) (ai (rfl) (ai (rfl) (ai (rfl) (ai ((Imp.refl _)) (ai (ai (runL_next hI0 (condT h2 (condF h3 (rfl)))) (ai ((by omega : Int.toNat ((b.Guards.length : Int) - (v11 + 1)) < m0)) ((by omega : (0 : Int) ≤ (v11 + 1))))) hl0)))))))))) (beqF h3)))) (of_decide_eq_true h2)) (fun h2 : (decide (v11 < (b.Guards.length : Int))) = false => (fun _ : ¬ v11 < (b.Guards.length : Int) => (fun hD0_4 : (runL (F94_s0 b to') ((Int.toNat ((b.Guards.length : Int) - 0)) + 1) 0) = Lp.done v11 => (fun hF : ((⟨0, 0, 0⟩ : LabVia), false) = (F94 b to') => ai (congrArg (fun r : LabVia × Bool => (.int .i64 r.1.To : Value)) hF) (ai (congrArg (fun r : LabVia × Bool => (.int .i64 r.1.Via : Value)) hF) (ai (congrArg (fun r : LabVia × Bool => (.int .i64 r.1.Push : Value)) hF) (ai (congrArg (fun r : LabVia × Bool => (.bool r.2 : Value)) hF) (trivial))))) (finD hD0_4 (rfl))) (runL_done hI0 (condF h2 (rfl)))) (of_decide_eq_false h2))) (i0.1 - 1) i0.2 (hd1 hi0.1 hi0.2.1) (hd2 hi0.2.1) (hd3 hi0.2.1) hi0.2.2)) (by kernel_rfl)
def F40 (n : LabNet) (box : Int) : Bool :=
  (decide (0 ≤ box ∧ box ≤ ((n.Boxes.length : Int) - 1)))
def S40 (R : Bool) (n : LabNet) (box : Int) : Spec := ⟨[.r (.g (eLabNet n)), .r (.c (.v (vI box)))], .v (.bool R), n.Boxes.length ≤ 9223372036854775807⟩
theorem ok40 (n : LabNet) (box : Int) : (S40 (F40 n box) n box).ok Try.prog 40 :=
  fnG_ok mixed (fn := Try.f40) (ct := .seq (.no) (.seq (.reg [(4, .bnd), (5, .call 45 (S45 (decide (0 ≤ box ∧ box ≤ ((n.Boxes.length : Int) - 1))) box 0 ((n.Boxes.length : Int) - 1)) (oa45 box 0 ((n.Boxes.length : Int) - 1)) none)]) (.no))) Try.func40 (fun (hpre0 : n.Boxes.length ≤ 9223372036854775807) => ai ((by unfold i64ok; omega : i64ok ((n.Boxes.length : Int) - 1))) (ai (trivial) (ai ((Imp.refl (.v (vI box)))) (ai ((Imp.refl (.v (vI 0)))) (ai ((Imp.refl (.v (vI ((n.Boxes.length : Int) - 1))))) ((fun hF : ((decide (0 ≤ box ∧ box ≤ ((n.Boxes.length : Int) - 1))) : Bool) = (F40 n box) => ai (congrArg (fun r : Bool => (.bool r : Value)) hF) (trivial)) (rfl))))))) (by kernel_rfl)
theorem as40 (n : LabNet) (box : Int) : F40 n box = (decide (0 ≤ box ∧ box ≤ (n.Boxes.length : Int) - 1)) := by
  rfl
theorem oa40 (n : LabNet) (box : Int) : (S40 (decide (0 ≤ box ∧ box ≤ (n.Boxes.length : Int) - 1)) n box).ok Try.prog 40 := by
  intro hp; have h := ok40 n box hp; rw [as40 n box] at h; exact h
def F91 (label : Int) : Bool :=
  (!(decide (1 ≤ label ∧ label ≤ 60)))
def S91 (label : Int) : Spec := ⟨[.r (.c (.v (vI label)))], .v (.bool (F91 label)), True⟩
theorem ok91 (label : Int) : (S91 label).ok Try.prog 91 :=
  fnG_ok mixed (fn := Try.f91) (ct := .seq (.no) (.seq (.reg [(1, .call 83 (S83 (decide (1 ≤ label ∧ label ≤ 60)) label) (oa83 label) none)]) (.no))) Try.func91 (fun (_ : True) => ai (trivial) (ai ((Imp.refl (.v (vI label)))) ((fun hF : ((!(decide (1 ≤ label ∧ label ≤ 60))) : Bool) = (F91 label) => ai (congrArg (fun r : Bool => (.bool r : Value)) hF) (trivial)) (rfl)))) (by kernel_rfl)
def fs74 (p : Int → Bool) : FnSpec := ⟨Int, fun i => [.c (.v (vI i))], fun i => .bool (p i)⟩
def F120_s0 (s : List Int) (f : Int → Bool) : Int → Lp Int Int := fun v8 =>
  bif (decide (v8 < (s.length : Int))) then (bif (f (s.getD (Int.toNat v8) default)) then (.ret v8) else (.next (v8 + 1))) else (.done v8)
def F120 (s : List Int) (f : Int → Bool) : Int :=
  (runL (F120_s0 s f) ((Int.toNat ((s.length : Int) - 0)) + 1) 0).fin (fun r => r) (fun v8 => (-1))
def S120 (R : Int) (s : List Int) (f : Int → Bool) : Spec := ⟨[.r (.c (.l 1 eInt s)), .fn (fs74 f)], .v (vI R), True⟩
theorem ok120 (s : List Int) (f : Int → Bool) : (S120 (F120 s f) s f).ok Try.prog 120 :=
  fnG_ok mixed (fn := Try.f120) (ct := .seqk [(0, 0)] (.no) (.seq (.seqk [(0, 0)] (.no) (.blk (.loop (ι := Nat × Int) (fun i => (fun (v8 : Int) => (⟨[(0, some (.h 0 0)), (1, some (.h 1 0)), (7, some (.v (vI (s.length : Int)))), (8, some (.v (vI v8)))], [(0, some (.shr none (.l 1 eInt s))), (1, some (.fn (fs74 f)))], 2⟩ : St)) i.2) (fun i => runL (F120_s0 s f) i.1 i.2 = (runL (F120_s0 s f) ((Int.toNat ((s.length : Int) - 0)) + 1) 0) ∧ (fun (v8 : Int) => (Int.toNat ((s.length : Int) - v8) < i.1 ∧ (0 : Int) ≤ v8)) i.2) (fun i => i.1) (((Int.toNat ((s.length : Int) - 0)) + 1), 0) (fun i => (fun (v8 : Int) => (.seq (.no) (.seq (.cond (.no) (.no)) (.seq (.blk (.seq (.no) (.seq (.reg [(5, .fnv (fs74 f) (s.getD (Int.toNat v8) default))]) (.cond (.seq (.no) (.no)) (.no))))) (.reg [(0, .bnd)]))))) i.2)))) (.seq (.no) (.no)))) Try.func120 (fun (_ : True) => fun (_ : s.length ≤ 9223372036854775807) => fun (_ : s.length ≤ 9223372036854775807) => ai (ai (rfl) (ai (rfl) (ai ((Imp.refl _)) (ai (rfl) ((ai (rfl : runL (F120_s0 s f) ((Int.toNat ((s.length : Int) - 0)) + 1) 0 = (runL (F120_s0 s f) ((Int.toNat ((s.length : Int) - 0)) + 1) 0)) (ai ((Nat.lt_succ_self _ : Int.toNat ((s.length : Int) - 0) < ((Int.toNat ((s.length : Int) - 0)) + 1))) ((by omega : (0 : Int) ≤ 0)))))))) : ((.int .i64 (s.length : Int) : Value) = .int .i64 (s.length : Int)) ∧ ((.int .i64 0 : Value) = .int .i64 0) ∧ (Imp (.l 1 eInt s) (.l 1 eInt s)) ∧ (fs74 f = fs74 f) ∧ (runL (F120_s0 s f) ((Int.toNat ((s.length : Int) - 0)) + 1) 0 = (runL (F120_s0 s f) ((Int.toNat ((s.length : Int) - 0)) + 1) 0) ∧ Int.toNat ((s.length : Int) - 0) < ((Int.toNat ((s.length : Int) - 0)) + 1) ∧ (0 : Int) ≤ 0)) (fun (i0 : Nat × Int) (hi0 : runL (F120_s0 s f) i0.1 i0.2 = (runL (F120_s0 s f) ((Int.toNat ((s.length : Int) - 0)) + 1) 0) ∧ (fun (v8 : Int) => (Int.toNat ((s.length : Int) - v8) < i0.1 ∧ (0 : Int) ≤ v8)) i0.2) => (fun (m0 : Nat) (v8 : Int) (hI0 : runL (F120_s0 s f) (m0 + 1) v8 = (runL (F120_s0 s f) ((Int.toNat ((s.length : Int) - 0)) + 1) 0)) (_ : Int.toNat ((s.length : Int) - v8) < m0 + 1) (hl0 : m0 < i0.1) (_ : (0 : Int) ≤ v8) => ai (fun h2 : (decide (v8 < (s.length : Int))) = true => (fun _ : v8 < (s.length : Int) => ai ((by omega : 0 ≤ v8 ∧ v8 < (s.length : Int))) (ai ((Eq.refl (fs74 f))) (ai ((Imp.refl (.v (vI (s.getD (Int.toNat v8) default))))) (ai (fun h3 : (f (s.getD (Int.toNat v8) default)) = true => (fun hF : (v8 : Int) = (F120 s f) => ai (congrArg (fun r : Int => (.int .i64 r : Value)) hF) (trivial)) (finR (runL_ret hI0 (condT h2 (condT h3 (rfl)))) rfl)) (fun h3 : (f (s.getD (Int.toNat v8) default)) = false => ai ((by unfold i64ok; omega : i64ok (v8 + 1))) (Exists.intro (p := fun j : Nat × Int => (fun (v8_ : Int) => (((.int .i64 (s.length : Int) : Value) = .int .i64 (s.length : Int)) ∧ ((.int .i64 (v8 + 1) : Value) = .int .i64 v8_) ∧ (Imp (.l 1 eInt s) (.l 1 eInt s)) ∧ (fs74 f = fs74 f) ∧ ((runL (F120_s0 s f) j.1 j.2 = (runL (F120_s0 s f) ((Int.toNat ((s.length : Int) - 0)) + 1) 0) ∧ Int.toNat ((s.length : Int) - v8_) < j.1 ∧ (0 : Int) ≤ v8_) ∧ j.1 < i0.1))) j.2) (m0, (v8 + 1)) (ai (rfl) (ai (rfl) (ai ((Imp.refl _)) (ai (rfl) (ai (ai (runL_next hI0 (condT h2 (condF h3 (rfl)))) (ai ((by omega : Int.toNat ((s.length : Int) - (v8 + 1)) < m0)) ((by omega : (0 : Int) ≤ (v8 + 1))))) hl0))))))))))) (of_decide_eq_true h2)) (fun h2 : (decide (v8 < (s.length : Int))) = false => (fun _ : ¬ v8 < (s.length : Int) => (fun hD0_4 : (runL (F120_s0 s f) ((Int.toNat ((s.length : Int) - 0)) + 1) 0) = Lp.done v8 => (fun hF : ((-1) : Int) = (F120 s f) => ai (congrArg (fun r : Int => (.int .i64 r : Value)) hF) (trivial)) (finD hD0_4 (rfl))) (runL_done hI0 (condF h2 (rfl)))) (of_decide_eq_false h2))) (i0.1 - 1) i0.2 (hd1 hi0.1 hi0.2.1) (hd2 hi0.2.1) (hd3 hi0.2.1) hi0.2.2)) (by kernel_rfl)
theorem as120 (s : List Int) (f : Int → Bool) : F120 s f = (idxI f s) := by
  exact idx_loop f s (F120_s0 s f) (fun i => rfl)
theorem oa120 (s : List Int) (f : Int → Bool) : (S120 (idxI f s) s f).ok Try.prog 120 := by
  intro hp; have h := ok120 s f hp; rw [as120 s f] at h; exact h
theorem g120_0 (s : List Int) (f : Int → Bool) : (idxI f s) < (s.length : Int) := by
  exact idxI_lt f s
theorem g120_1 (s : List Int) (f : Int → Bool) : -1 ≤ (idxI f s) := by
  (show -1 ≤ idxI f s; unfold idxI; cases first (fun k => f (s.getD k default)) s.length <;> simp only [oix] <;> omega)
def F90 (s : List Int) (f : Int → Bool) : Bool :=
  decide ((idxI f s) ≥ 0)
def S90 (R : Bool) (s : List Int) (f : Int → Bool) : Spec := ⟨[.r (.c (.l 1 eInt s)), .fn (fs74 f)], .v (.bool R), True⟩
theorem ok90 (s : List Int) (f : Int → Bool) : (S90 (F90 s f) s f).ok Try.prog 90 :=
  fnG_ok mixed (fn := Try.f90) (ct := .seqk [(0, 0)] (.no) (.seq (.reg [(2, .call 120 (S120 (idxI f s) s f) (oa120 s f) none)]) (.no))) Try.func90 (fun (_ : True) => fun (_ : s.length ≤ 9223372036854775807) => ai (trivial) (ai ((Imp.refl (.l 1 eInt s))) (ai ((Eq.refl (fs74 f))) ((fun gv1 : (idxI f s) < (s.length : Int) => (fun gv2 : -1 ≤ (idxI f s) => (fun hF : (decide ((idxI f s) ≥ 0) : Bool) = (F90 s f) => ai (congrArg (fun r : Bool => (.bool r : Value)) hF) (trivial)) (rfl)) (g120_1 s f)) (g120_0 s f))))) (by kernel_rfl)
theorem as90 (s : List Int) (f : Int → Bool) : F90 s f = (s.any f) := by
  exact any_idx f s
theorem oa90 (s : List Int) (f : Int → Bool) : (S90 (s.any f) s f).ok Try.prog 90 := by
  intro hp; have h := ok90 s f hp; rw [as90 s f] at h; exact h
structure LabPacket where
  Box : Int
  Stack : List Int
  deriving DecidableEq, Inhabited
def eLabPacket (x : LabPacket) : List Dat := [.v (vI x.Box), .l 1 eInt x.Stack]
def F53 (n : LabNet) (p : LabPacket) : Bool :=
  (bif (bif (decide (0 ≤ p.Box ∧ p.Box ≤ (n.Boxes.length : Int) - 1)) then decide ((p.Stack.length : Int) ≤ 8) else false) then (!(p.Stack.any (fun (x0 : Int) => F91 x0))) else false)
def S53 (R : Bool) (n : LabNet) (p : LabPacket) : Spec := ⟨[.r (.g (eLabNet n)), .r (.g (eLabPacket p))], .v (.bool R), n.Boxes.length ≤ 9223372036854775807⟩
theorem ok53 (n : LabNet) (p : LabPacket) : (S53 (F53 n p) n p).ok Try.prog 53 :=
  fnG_ok mixed (fn := Try.f53) (ct := .seq (.no) (.seq (.reg [(3, .call 40 (S40 (decide (0 ≤ p.Box ∧ p.Box ≤ (n.Boxes.length : Int) - 1)) n p.Box) (oa40 n p.Box) none), (13, .call 90 (S90 (p.Stack.any (fun (x0 : Int) => F91 x0)) p.Stack (fun (x0 : Int) => F91 x0)) (oa90 p.Stack (fun (x0 : Int) => F91 x0)) (some ⟨91, fs74 (fun (x0 : Int) => F91 x0), [], rfl, True, fun i => (ok91 i)⟩))]) (.no))) Try.func53 (fun (hpre0 : n.Boxes.length ≤ 9223372036854775807) => ai (((by omega : n.Boxes.length ≤ 9223372036854775807))) (ai ((Imps.refl (eLabNet n))) (ai ((Imp.refl (.v (vI p.Box)))) (ai ((fun k1 : (bif (decide (0 ≤ p.Box ∧ p.Box ≤ (n.Boxes.length : Int) - 1)) then decide ((p.Stack.length : Int) ≤ 8) else false) = true => (fun _ : (p.Stack.length : Int) ≤ 8 => (fun _ : 0 ≤ p.Box ∧ p.Box ≤ (n.Boxes.length : Int) - 1 => trivial) (of_decide_eq_true (andT1 k1))) (of_decide_eq_true (andT2 k1)))) (ai ((fun k2 : (bif (decide (0 ≤ p.Box ∧ p.Box ≤ (n.Boxes.length : Int) - 1)) then decide ((p.Stack.length : Int) ≤ 8) else false) = true => (fun _ : (p.Stack.length : Int) ≤ 8 => (fun _ : 0 ≤ p.Box ∧ p.Box ≤ (n.Boxes.length : Int) - 1 => (Imp.refl (.l 1 eInt p.Stack))) (of_decide_eq_true (andT1 k2))) (of_decide_eq_true (andT2 k2)))) (ai ((fun k3 : (bif (decide (0 ≤ p.Box ∧ p.Box ≤ (n.Boxes.length : Int) - 1)) then decide ((p.Stack.length : Int) ≤ 8) else false) = true => (fun _ : (p.Stack.length : Int) ≤ 8 => (fun _ : 0 ≤ p.Box ∧ p.Box ≤ (n.Boxes.length : Int) - 1 => (Eq.refl (fs74 (fun (x0 : Int) => F91 x0)))) (of_decide_eq_true (andT1 k3))) (of_decide_eq_true (andT2 k3)))) (ai ((fun k4 : (bif (decide (0 ≤ p.Box ∧ p.Box ≤ (n.Boxes.length : Int) - 1)) then decide ((p.Stack.length : Int) ≤ 8) else false) = true => (fun _ : (p.Stack.length : Int) ≤ 8 => (fun _ : 0 ≤ p.Box ∧ p.Box ≤ (n.Boxes.length : Int) - 1 => trivial) (of_decide_eq_true (andT1 k4))) (of_decide_eq_true (andT2 k4)))) ((fun hF : ((bif (bif (decide (0 ≤ p.Box ∧ p.Box ≤ (n.Boxes.length : Int) - 1)) then decide ((p.Stack.length : Int) ≤ 8) else false) then (!(p.Stack.any (fun (x0 : Int) => F91 x0))) else false) : Bool) = (F53 n p) => ai (congrArg (fun r : Bool => (.bool r : Value)) hF) (trivial)) (rfl))))))))) (by kernel_rfl)
end Go.Proofs.Ytmiolofjlfnohaa
namespace Go.Proofs.Ytmiolofjlfnohaa
open Go.RowKit
set_option maxRecDepth 100000
set_option linter.unusedVariables false
set_option linter.unusedSimpArgs false
structure FrameOk (n : LabNet) : Prop where
  b1 : 1 ≤ n.Boxes.length
  b8 : n.Boxes.length ≤ 8
  l14 : n.Links.length ≤ 14
  ab : ∀ k, k < n.Links.length → 0 ≤ (n.Links.getD k default).A ∧ (n.Links.getD k default).A < (n.Links.getD k default).B ∧ (n.Links.getD k default).B < (n.Boxes.length : Int)
  inc : ∀ k, k + 1 < n.Links.length → (n.Links.getD k default).A < (n.Links.getD (k + 1) default).A ∨ ((n.Links.getD k default).A = (n.Links.getD (k + 1) default).A ∧ (n.Links.getD k default).B < (n.Links.getD (k + 1) default).B)
def badL (n : LabNet) (k : Nat) : Bool :=
  (decide ((n.Links.getD k default).A < 0) || decide ((n.Links.getD k default).A ≥ (n.Links.getD k default).B) || decide ((n.Links.getD k default).B ≥ (n.Boxes.length : Int))) ||
  (decide (0 < k) && (decide ((n.Links.getD (k - 1) default).A > (n.Links.getD k default).A) || (decide ((n.Links.getD (k - 1) default).A = (n.Links.getD k default).A) && decide ((n.Links.getD (k - 1) default).B ≥ (n.Links.getD k default).B))))
theorem s48 (n : LabNet) (k : Nat) (hk : k < n.Links.length) : F48_s0 n (k : Int) = bif badL n k then .ret false else .next ((k : Int) + 1) := by
  simp only [F48_s0, ltD hk, cond_true, nn, bord, bandd, toNat_pred, pos_cast, beqD]
  rw [ret_or]
  rfl
theorem s46 (n : LabNet) (k : Nat) (hk : k < n.Links.length) : F46_s0 n (k : Int) = bif badL n k then .ret false else .next ((k : Int) + 1) := by
  simp only [F46_s0, ltD hk, cond_true, nn, bord, bandd, toNat_pred, pos_cast, beqD, F82]
  rw [ret_or]
  unfold badL
  congr 2
  congr 1
  (rw [Bool.eq_iff_iff]; simp only [Bool.and_eq_true, Bool.or_eq_true, Bool.not_eq_true', Bool.not_eq_false', decide_eq_true_eq, decide_eq_false_iff_not, Bool.and_eq_false_iff, Bool.or_eq_false_iff]; omega)
theorem frame_eq (n : LabNet) : F48 n = (decide (1 ≤ (n.Boxes.length : Int) ∧ (n.Boxes.length : Int) ≤ 8) && (decide ((n.Links.length : Int) ≤ 14) && (first (badL n) n.Links.length).isNone)) := by
  unfold F48
  rw [allB (badL n) n.Links.length _ (s48 n) (by simp [F48_s0])]
  cases decide (1 ≤ (n.Boxes.length : Int) ∧ (n.Boxes.length : Int) ≤ 8)
  · rfl
  · by_cases h : (n.Links.length : Int) > 14
    · have h' : ¬ (n.Links.length : Int) ≤ 14 := by omega
      simp only [decide_eq_true h, decide_eq_false h']; rfl
    · have h' : (n.Links.length : Int) ≤ 14 := by omega
      simp only [decide_eq_false h, decide_eq_true h', Bool.and_true]; rfl
theorem linksOk_eq (n : LabNet) : F46 n = ((first (badL n) n.Links.length).isNone && decide ((n.Links.length : Int) ≤ 14)) := by
  unfold F46
  rw [allB (badL n) n.Links.length _ (s46 n) (by simp [F46_s0])]
theorem frame_ok {n : LabNet} : F48 n = true ↔ FrameOk n := by
  rw [frame_eq]
  simp only [Bool.and_eq_true, decide_eq_true_eq, allB_iff, badL, Bool.or_eq_false_iff, Bool.and_eq_false_iff, decide_eq_false_iff_not]
  constructor
  · rintro ⟨⟨h1, h2⟩, h3, h4⟩
    refine ⟨by omega, by omega, by omega, fun k hk => ?_, fun k hk => ?_⟩
    · have := (h4 k hk).1; omega
    · have := (h4 (k + 1) hk).2
      simp only [Nat.add_sub_cancel] at this
      omega
  · intro h
    have := h.b1; have := h.b8; have := h.l14
    refine ⟨⟨by omega, by omega⟩, by omega, fun k hk => ⟨?_, ?_⟩⟩
    · have := h.ab k hk; omega
    · cases k with
      | zero => left; omega
      | succ k =>
        right
        have := h.inc k hk
        simp only [Nat.add_sub_cancel]
        omega
def isLink (n : LabNet) (a b : Int) (k : Nat) : Bool :=
  (decide ((n.Links.getD k default).A = a) && decide ((n.Links.getD k default).B = b)) || (decide ((n.Links.getD k default).A = b) && decide ((n.Links.getD k default).B = a))
def linkOf (n : LabNet) (a b : Int) : Int := match first (isLink n a b) n.Links.length with
  | some k => (k : Int)
  | none => -1
theorem specLink_eq (n : LabNet) (a b : Int) : F97 n a b = linkOf n a b := by
  unfold F97 linkOf
  rw [search (isLink n a b) (fun k => (k : Int)) n.Links.length _ (fun k hk => by simp only [F97_s0, ltD hk, cond_true, nn, bord, bandd, beqD]; rfl) (by simp [F97_s0])]
  all_goals (cases first (isLink n a b) n.Links.length <;> rfl)
theorem implLink_eq {n : LabNet} (h : FrameOk n) (a b : Int) : F50 n a b = linkOf n a b := by
  unfold F50 linkOf F86
  rw [search (fun k => (decide ((if b < a then b else a) = (n.Links.getD k default).A) && decide ((if b > a then b else a) = (n.Links.getD k default).B))) (fun k => (k : Int)) n.Links.length _
    (fun k hk => by simp only [F86_s0, ltD hk, cond_true, nn, beqD]) (by simp [F86_s0])]
  have e : first (fun k => (decide ((if b < a then b else a) = (n.Links.getD k default).A) && decide ((if b > a then b else a) = (n.Links.getD k default).B))) n.Links.length = first (isLink n a b) n.Links.length := first_congr fun k hk => by
    have := h.ab k hk
    unfold isLink
    split <;> split <;> (rw [Bool.eq_iff_iff]; simp only [Bool.and_eq_true, Bool.or_eq_true, Bool.not_eq_true', Bool.not_eq_false', decide_eq_true_eq, decide_eq_false_iff_not, Bool.and_eq_false_iff, Bool.or_eq_false_iff]; omega)
  rw [e]
  all_goals (cases first (isLink n a b) n.Links.length <;> rfl)
theorem linkOf_comm (n : LabNet) (a b : Int) : linkOf n a b = linkOf n b a := by
  unfold linkOf
  have e : first (isLink n a b) n.Links.length = first (isLink n b a) n.Links.length := first_congr fun k _ => by unfold isLink; exact Bool.or_comm _ _
  rw [e]
theorem linkOf_some {n : LabNet} {a b : Int} (h : 0 ≤ linkOf n a b) : (linkOf n a b).toNat < n.Links.length ∧ isLink n a b (linkOf n a b).toNat = true := by
  unfold linkOf at h ⊢
  cases e : first (isLink n a b) n.Links.length with
  | none => rw [e] at h; exact absurd h (by decide)
  | some k =>
    simp only [Int.toNat_natCast]
    have := first_some.1 e
    exact ⟨this.1, this.2.1⟩
theorem linkOf_lt {n : LabNet} (a b : Int) : linkOf n a b < (n.Links.length : Int) := by
  unfold linkOf
  cases e : first (isLink n a b) n.Links.length with
  | none => simp only; omega
  | some k => have := (first_some.1 e).1; simp only; omega
theorem linkOf_ge (n : LabNet) (a b : Int) : -1 ≤ linkOf n a b := by
  unfold linkOf; split <;> omega
theorem linkOf_in {n : LabNet} (h : FrameOk n) {a b : Int} (hl : 0 ≤ linkOf n a b) : 0 ≤ a ∧ a < (n.Boxes.length : Int) ∧ 0 ≤ b ∧ b < (n.Boxes.length : Int) ∧ a ≠ b := by
  obtain ⟨h1, h2⟩ := linkOf_some hl
  have := h.ab _ h1
  simp only [isLink, Bool.or_eq_true, Bool.and_eq_true, decide_eq_true_eq] at h2
  omega
theorem link_unique {n : LabNet} (h : FrameOk n) : ∀ (d j : Nat), j + d + 1 < n.Links.length → (n.Links.getD j default).A < (n.Links.getD (j + d + 1) default).A ∨ ((n.Links.getD j default).A = (n.Links.getD (j + d + 1) default).A ∧ (n.Links.getD j default).B < (n.Links.getD (j + d + 1) default).B)
  | 0, j, hj => h.inc j hj
  | d + 1, j, hj => by
    have h1 := link_unique h d j (by omega)
    have h2 := h.inc (j + d + 1) (by omega)
    have e : j + (d + 1) + 1 = j + d + 1 + 1 := by omega
    rw [e]
    omega
theorem isLink_unique {n : LabNet} (h : FrameOk n) {a b : Int} {j k : Nat} (hj : j < n.Links.length) (hk : k < n.Links.length) (h1 : isLink n a b j = true) (h2 : isLink n a b k = true) : j = k := by
  simp only [isLink, Bool.or_eq_true, Bool.and_eq_true, decide_eq_true_eq] at h1 h2
  have a1 := h.ab j hj; have a2 := h.ab k hk
  rcases Nat.lt_trichotomy j k with hlt | rfl | hlt
  · have := link_unique h (k - j - 1) j (by omega)
    have e : j + (k - j - 1) + 1 = k := by omega
    rw [e] at this
    omega
  · rfl
  · have := link_unique h (j - k - 1) k (by omega)
    have e : k + (j - k - 1) + 1 = j := by omega
    rw [e] at this
    omega
theorem linkOf_of {n : LabNet} (h : FrameOk n) {a b : Int} {k : Nat} (hk : k < n.Links.length) (h1 : isLink n a b k = true) : linkOf n a b = k := by
  unfold linkOf
  cases e : first (isLink n a b) n.Links.length with
  | none => have := first_none.1 e k hk; rw [this] at h1; cases h1
  | some j =>
    have := first_some.1 e
    rw [isLink_unique h this.1 hk this.2.1 h1]
def isLabel (x : Int) : Prop := 1 ≤ x ∧ x ≤ 60
instance (x : Int) : Decidable (isLabel x) := inferInstanceAs (Decidable (1 ≤ x ∧ x ≤ 60))
def rowOk (n : LabNet) (box : Int) (r : LabRow) : Prop := isLabel r.In ∧ ((r.Next = -1 ∧ r.Out = 0) ∨ (0 ≤ linkOf n box r.Next ∧ isLabel r.Out))
def viaOk (n : LabNet) (box : Int) (v : LabVia) : Prop := 0 ≤ linkOf n box v.To ∧ 0 ≤ linkOf n box v.Via ∧ v.To ≠ v.Via ∧ isLabel v.Push
instance (n : LabNet) (b : Int) (r : LabRow) : Decidable (rowOk n b r) := inferInstanceAs (Decidable (_ ∧ _))
instance (n : LabNet) (b : Int) (r : LabVia) : Decidable (viaOk n b r) := inferInstanceAs (Decidable (_ ∧ _))
theorem noLink {n : LabNet} (h : FrameOk n) (a : Int) : linkOf n a (-1) < 0 := by
  rcases Int.lt_or_le (linkOf n a (-1)) 0 with h1 | h1
  · exact h1
  · have := linkOf_in h h1; omega
theorem specRow_eq {n : LabNet} (h : FrameOk n) (box : Int) (r : LabRow) : F84 n box r = decide (rowOk n box r) := by
  have h1 := noLink h box
  simp only [F84, specLink_eq, beqD, bandd, eqstep]
  by_cases h2 : r.Next = -1
  · rw [← h2] at h1
    rw [decide_eq_true h2, cond_true]
    (rw [Bool.eq_iff_iff]; simp only [Bool.and_eq_true, Bool.or_eq_true, Bool.not_eq_true', Bool.not_eq_false', decide_eq_true_eq, decide_eq_false_iff_not, Bool.and_eq_false_iff, Bool.or_eq_false_iff]; simp only [rowOk, isLabel]; omega)
  · rw [decide_eq_false h2, cond_false]
    (rw [Bool.eq_iff_iff]; simp only [Bool.and_eq_true, Bool.or_eq_true, Bool.not_eq_true', Bool.not_eq_false', decide_eq_true_eq, decide_eq_false_iff_not, Bool.and_eq_false_iff, Bool.or_eq_false_iff]; simp only [rowOk, isLabel]; omega)
theorem specVia_eq (n : LabNet) (box : Int) (v : LabVia) : F85 n box v = decide (viaOk n box v) := by
  simp only [F85, specLink_eq, bandd, neI]
  (rw [Bool.eq_iff_iff]; simp only [Bool.and_eq_true, Bool.or_eq_true, Bool.not_eq_true', Bool.not_eq_false', decide_eq_true_eq, decide_eq_false_iff_not, Bool.and_eq_false_iff, Bool.or_eq_false_iff]; simp only [viaOk, isLabel]; omega)
structure BoxOk (n : LabNet) (i : Nat) : Prop where
  row : ∀ k, k < (n.Boxes.getD i default).Rows.length → rowOk n i ((n.Boxes.getD i default).Rows.getD k default)
  rinc : ∀ k, k + 1 < (n.Boxes.getD i default).Rows.length → ((n.Boxes.getD i default).Rows.getD k default).In < ((n.Boxes.getD i default).Rows.getD (k + 1) default).In
  via : ∀ k, k < (n.Boxes.getD i default).Guards.length → viaOk n i ((n.Boxes.getD i default).Guards.getD k default)
  vinc : ∀ k, k + 1 < (n.Boxes.getD i default).Guards.length → ((n.Boxes.getD i default).Guards.getD k default).To < ((n.Boxes.getD i default).Guards.getD (k + 1) default).To
def badR (n : LabNet) (i : Nat) (k : Nat) : Bool := !decide (rowOk n i ((n.Boxes.getD i default).Rows.getD k default)) || (decide (0 < k) && decide (((n.Boxes.getD i default).Rows.getD (k - 1) default).In ≥ ((n.Boxes.getD i default).Rows.getD k default).In))
def badG (n : LabNet) (i : Nat) (k : Nat) : Bool := !decide (viaOk n i ((n.Boxes.getD i default).Guards.getD k default)) || (decide (0 < k) && decide (((n.Boxes.getD i default).Guards.getD (k - 1) default).To ≥ ((n.Boxes.getD i default).Guards.getD k default).To))
def boxB (n : LabNet) (i : Nat) : Bool := (first (badR n i) (n.Boxes.getD i default).Rows.length).isNone && (first (badG n i) (n.Boxes.getD i default).Guards.length).isNone
theorem boxB_ok {n : LabNet} {i : Nat} : boxB n i = true ↔ BoxOk n i := by
  simp only [boxB, Bool.and_eq_true, allB_iff, badR, badG, Bool.or_eq_false_iff, Bool.not_eq_false', decide_eq_true_eq, Bool.and_eq_false_iff, decide_eq_false_iff_not]
  constructor
  · rintro ⟨h1, h2⟩
    refine ⟨fun k hk => (h1 k hk).1, fun k hk => ?_, fun k hk => (h2 k hk).1, fun k hk => ?_⟩
    · have := (h1 (k + 1) hk).2; simp only [Nat.add_sub_cancel] at this; omega
    · have := (h2 (k + 1) hk).2; simp only [Nat.add_sub_cancel] at this; omega
  · rintro ⟨h1, h2, h3, h4⟩
    refine ⟨fun k hk => ⟨h1 k hk, ?_⟩, fun k hk => ⟨h3 k hk, ?_⟩⟩
    · cases k with
      | zero => left; omega
      | succ k => right; have := h2 k hk; simp only [Nat.add_sub_cancel]; omega
    · cases k with
      | zero => left; omega
      | succ k => right; have := h4 k hk; simp only [Nat.add_sub_cancel]; omega
theorem specBox_eq {n : LabNet} (h : FrameOk n) (i : Nat) : F49 n i = boxB n i := by
  unfold F49 boxB
  simp only [nn]
  rw [allB (badR n i) _ _ (fun k hk => by simp only [F49_s0, nn, ltD hk, cond_true, specRow_eq h, bord, bandd, toNat_pred, pos_cast]; rfl) (by simp [F49_s0])]
  rw [allB (badG n i) _ _ (fun k hk => by simp only [F49_s1, nn, ltD hk, cond_true, specVia_eq, bord, bandd, toNat_pred, pos_cast]; rfl) (by simp [F49_s1])]
  rw [Bool.and_true]
theorem implBox_eq {n : LabNet} (h : FrameOk n) (i : Nat) : F47 n i = boxB n i := by
  unfold F47 boxB
  simp only [nn]
  have hR : ∀ k : Nat, k < (n.Boxes.getD i default).Rows.length → F47_s0 n i k = bif badR n i k then .ret false else .next ((k : Int) + 1) := fun k hk => by
    simp only [F47_s0, nn, ltD hk, cond_true, implLink_eq h, bord, bandd, toNat_pred, pos_cast, beqD, badR, F83]
    have h1 := noLink h i
    generalize (n.Boxes.getD i default).Rows.getD k default = r
    generalize decide (0 < k) = x
    generalize (n.Boxes.getD i default).Rows.getD (k - 1) default = s
    congr 2
    by_cases h2 : r.Next = -1
    · rw [← h2] at h1
      (rw [Bool.eq_iff_iff]; simp only [Bool.and_eq_true, Bool.or_eq_true, Bool.not_eq_true', Bool.not_eq_false', decide_eq_true_eq, decide_eq_false_iff_not, Bool.and_eq_false_iff, Bool.or_eq_false_iff]; simp only [rowOk, isLabel]; omega)
    · (rw [Bool.eq_iff_iff]; simp only [Bool.and_eq_true, Bool.or_eq_true, Bool.not_eq_true', Bool.not_eq_false', decide_eq_true_eq, decide_eq_false_iff_not, Bool.and_eq_false_iff, Bool.or_eq_false_iff]; simp only [rowOk, isLabel]; omega)
  have hG : ∀ k : Nat, k < (n.Boxes.getD i default).Guards.length → F47_s1 n i k = bif badG n i k then .ret false else .next ((k : Int) + 1) := fun k hk => by
    simp only [F47_s1, nn, ltD hk, cond_true, implLink_eq h, bord, bandd, toNat_pred, pos_cast, beqD, badG, F83]
    generalize (n.Boxes.getD i default).Guards.getD k default = r
    generalize decide (0 < k) = x
    generalize (n.Boxes.getD i default).Guards.getD (k - 1) default = s
    congr 2
    (rw [Bool.eq_iff_iff]; simp only [Bool.and_eq_true, Bool.or_eq_true, Bool.not_eq_true', Bool.not_eq_false', decide_eq_true_eq, decide_eq_false_iff_not, Bool.and_eq_false_iff, Bool.or_eq_false_iff]; simp only [viaOk, isLabel]; omega)
  rw [allB (badR n i) _ _ hR (by simp [F47_s0])]
  rw [allB (badG n i) _ _ hG (by simp [F47_s1])]
  rw [Bool.and_true]
structure NetOk (n : LabNet) : Prop where
  frame : FrameOk n
  box : ∀ i, i < n.Boxes.length → BoxOk n i
def netB (n : LabNet) : Bool := F48 n && (first (fun i => !boxB n i) n.Boxes.length).isNone
theorem netB_ok {n : LabNet} : netB n = true ↔ NetOk n := by
  unfold netB
  rw [Bool.and_eq_true, frame_ok, allB_iff]
  constructor
  · rintro ⟨h1, h2⟩
    exact ⟨h1, fun i hi => boxB_ok.1 (by simpa using h2 i hi)⟩
  · rintro ⟨h1, h2⟩
    exact ⟨h1, fun i hi => by simpa using boxB_ok.2 (h2 i hi)⟩
theorem specNet_eq (n : LabNet) : F14 n = netB n := by
  unfold F14 netB
  cases h : F48 n
  · rfl
  · have hf := frame_ok.1 h
    simp only [Bool.not_true, cond_false, Bool.true_and]
    rw [allB (fun i => !boxB n i) n.Boxes.length _ (fun k hk => by simp only [F14_s0, ltD hk, cond_true, specBox_eq hf]) (by simp [F14_s0]), Bool.and_true]
theorem implNet_eq (n : LabNet) : F13 n = netB n := by
  unfold F13 netB
  have e : (bif !decide (1 ≤ (n.Boxes.length : Int) ∧ (n.Boxes.length : Int) ≤ 8) then true else !F46 n) = !F48 n := by
    rw [frame_eq, linksOk_eq, bord, ← Bool.not_and, Bool.and_comm (Option.isNone _)]
  rw [e]
  cases h : F48 n
  · rfl
  · have hf := frame_ok.1 h
    simp only [Bool.not_true, cond_false, Bool.true_and]
    rw [allB (fun i => !boxB n i) n.Boxes.length _ (fun k hk => by simp only [F13_s0, ltD hk, cond_true, implBox_eq hf]) (by simp [F13_s0]), Bool.and_true]
theorem netB_T (n : LabNet) (h : netB n = true) : NetOk n := netB_ok.1 h
theorem netB_8 (n : LabNet) (h : netB n = true) : n.Boxes.length ≤ 8 := (netB_ok.1 h).frame.b8
theorem netB_14 (n : LabNet) (h : netB n = true) : n.Links.length ≤ 14 := (netB_ok.1 h).frame.l14
theorem as13 (n : LabNet) : F13 n = netB n := implNet_eq n
theorem as14 (n : LabNet) : F14 n = netB n := specNet_eq n
theorem as97 (n : LabNet) (a b : Int) : F97 n a b = linkOf n a b := specLink_eq n a b
theorem as50 (n : LabNet) (a b : Int) (h : FrameOk n) : F50 n a b = linkOf n a b := implLink_eq h a b
theorem as67 (n : LabNet) : F67 n = n := by
  unfold F67
  rw [app_loop (fun b : LabBox => b) n.Boxes [] _ (fun k xs hk => by simp only [F67_s0, ltD hk, cond_true, nn]; rfl) (fun xs => by simp [F67_s0])]
  simp [Lp.fin]
theorem as61 (n : LabNet) : F61 n = n := by
  unfold F61
  rw [app_loop (fun b : LabBox => b) n.Boxes [] _ (fun k xs hk => by simp only [F61_s0, ltD hk, cond_true, nn]) (fun xs => by simp [F61_s0])]
  simp [Lp.fin]
theorem incr_len {α : Type} [Inhabited α] (f : α → Int) (xs : List α) (lo hi : Int) (h : ∀ k, k < xs.length → lo ≤ f (xs.getD k default) ∧ f (xs.getD k default) ≤ hi) (hi' : ∀ k, k + 1 < xs.length → f (xs.getD k default) < f (xs.getD (k + 1) default)) (hlh : lo ≤ hi + 1) : (xs.length : Int) ≤ hi - lo + 1 := by
  have g : ∀ k : Nat, k < xs.length → lo + (k : Int) ≤ f (xs.getD k default) := by
    intro k
    induction k with
    | zero => intro hk; have := (h 0 hk).1; omega
    | succ k ih => intro hk; have := ih (by omega); have := hi' k hk; omega
  cases hx : xs.length with
  | zero => simp; omega
  | succ m => have h1 := g m (by omega); have h2 := (h m (by omega)).2; omega
theorem rows_len {n : LabNet} {i : Nat} (h : BoxOk n i) : (n.Boxes.getD i default).Rows.length ≤ 60 := by
  have := incr_len (fun r : LabRow => r.In) (n.Boxes.getD i default).Rows 1 60 (fun k hk => (h.row k hk).1) (fun k hk => h.rinc k hk) (by omega)
  omega
theorem guards_len {n : LabNet} (hf : FrameOk n) {i : Nat} (h : BoxOk n i) : (n.Boxes.getD i default).Guards.length ≤ 8 := by
  have := incr_len (fun r : LabVia => r.To) (n.Boxes.getD i default).Guards 0 7 (fun k hk => by
    have := (h.via k hk).1
    have := linkOf_in hf this
    have := hf.b8
    omega) (fun k hk => h.vinc k hk) (by omega)
  omega
def rowIx (b : LabBox) (label : Int) : Option Nat := first (fun k => decide ((b.Rows.getD k default).In = label)) b.Rows.length
def rowP (b : LabBox) (label : Int) : LabRow × Bool := match rowIx b label with
  | some k => (b.Rows.getD k default, true)
  | none => (⟨0, 0, 0⟩, false)
def guardIx (b : LabBox) (x : Int) : Option Nat := first (fun k => decide ((b.Guards.getD k default).To = x)) b.Guards.length
def guardP (b : LabBox) (x : Int) : LabVia × Bool := match guardIx b x with
  | some k => (b.Guards.getD k default, true)
  | none => (⟨0, 0, 0⟩, false)
theorem rowIx_lt (b : LabBox) (label : Int) : oix (rowIx b label) < (b.Rows.length : Int) := oix_lt
theorem guardIx_lt (b : LabBox) (x : Int) : oix (guardIx b x) < (b.Guards.length : Int) := oix_lt
theorem as92 (b : LabBox) (label : Int) : F92 b label = rowP b label := by
  unfold F92 rowP rowIx
  rw [search (fun k => decide ((b.Rows.getD k default).In = label)) (fun k => (b.Rows.getD k default, true)) b.Rows.length _ (fun k hk => by simp only [F92_s0, ltD hk, cond_true, nn, beqD]) (by simp [F92_s0])]
  all_goals (cases first (fun k => decide ((b.Rows.getD k default).In = label)) b.Rows.length <;> rfl)
theorem as94 (b : LabBox) (x : Int) : F94 b x = guardP b x := by
  unfold F94 guardP guardIx
  rw [search (fun k => decide ((b.Guards.getD k default).To = x)) (fun k => (b.Guards.getD k default, true)) b.Guards.length _ (fun k hk => by simp only [F94_s0, ltD hk, cond_true, nn, beqD]) (by simp [F94_s0])]
  all_goals (cases first (fun k => decide ((b.Guards.getD k default).To = x)) b.Guards.length <;> rfl)
def packB (n : LabNet) (p : LabPacket) : Bool := decide (0 ≤ p.Box ∧ p.Box ≤ (n.Boxes.length : Int) - 1) && (decide ((p.Stack.length : Int) ≤ 8) && (first (fun k => !decide (isLabel (p.Stack.getD k default))) p.Stack.length).isNone)
theorem packB_id (n : LabNet) (p : LabPacket) (h : packB n p = true) : packB n p = true := h
theorem packB_T (n : LabNet) (p : LabPacket) (h : packB n p = true) : 0 ≤ p.Box ∧ p.Box ≤ (n.Boxes.length : Int) - 1 ∧ (p.Stack.length : Int) ≤ 8 := by
  unfold packB at h
  simp only [Bool.and_eq_true, decide_eq_true_eq] at h
  exact ⟨h.1.1, h.1.2, h.2.1⟩
theorem as53 (n : LabNet) (p : LabPacket) : F53 n p = packB n p := by
  unfold F53 packB
  rw [← any_idx]
  unfold idxI
  have e : (fun k => F91 (p.Stack.getD k default)) = fun k => !decide (isLabel (p.Stack.getD k default)) := rfl
  rw [e, bandd, bandd, Bool.and_assoc]
  congr 2
  cases first (fun k => !decide (isLabel (p.Stack.getD k default))) p.Stack.length with
  | none => rfl
  | some k => simp [oix]
theorem row_next {n : LabNet} (h : NetOk n) {i k : Int} (h0 : 0 ≤ i) (h1 : i < (n.Boxes.length : Int)) (h2 : 0 ≤ k) (h3 : k < ((n.Boxes.getD (Int.toNat i) default).Rows.length : Int)) :
    ((n.Boxes.getD (Int.toNat i) default).Rows.getD (Int.toNat k) default).Next = -1 ∨ (0 ≤ ((n.Boxes.getD (Int.toNat i) default).Rows.getD (Int.toNat k) default).Next ∧ ((n.Boxes.getD (Int.toNat i) default).Rows.getD (Int.toNat k) default).Next < (n.Boxes.length : Int)) := by
  have := (h.box (Int.toNat i) (by omega)).row (Int.toNat k) (by omega)
  rcases this.2 with h4 | h4
  · exact .inl h4.1
  · have := linkOf_in h.frame h4.1
    exact .inr ⟨this.2.2.1, this.2.2.2.1⟩
theorem rowP_next {n : LabNet} (h : NetOk n) {i : Int} (h0 : 0 ≤ i) (h1 : i < (n.Boxes.length : Int)) (l : Int) : (rowP (n.Boxes.getD (Int.toNat i) default) l).2 = false ∨ (rowP (n.Boxes.getD (Int.toNat i) default) l).1.Next = -1 ∨ (0 ≤ (rowP (n.Boxes.getD (Int.toNat i) default) l).1.Next ∧ (rowP (n.Boxes.getD (Int.toNat i) default) l).1.Next < (n.Boxes.length : Int)) := by
  unfold rowP
  cases e : rowIx (n.Boxes.getD (Int.toNat i) default) l with
  | none => exact .inl rfl
  | some k =>
    have hk := (first_some.1 e).1
    have := row_next h h0 h1 (k := (k : Int)) (by omega) (by omega)
    rw [nn] at this
    exact .inr this
theorem sumOne (l : List Int) : sumL (fun _ => 1) l = l.length := by
  induction l with
  | nil => rfl
  | cons x l ih => rw [sumL_cons, ih, List.length_cons]; omega
theorem inc_len {α : Type} [Inhabited α] (xs : List α) (f : α → Int) (lo hi : Int) (h : ∀ k, k < xs.length → lo ≤ f (xs.getD k default) ∧ f (xs.getD k default) ≤ hi)
    (hi' : ∀ k, k + 1 < xs.length → f (xs.getD k default) < f (xs.getD (k + 1) default)) : (xs.length : Int) ≤ 0 ∨ (xs.length : Int) ≤ hi - lo + 1 := by
  have key : ∀ k, k < xs.length → lo + k ≤ f (xs.getD k default) := by
    intro k
    induction k with
    | zero => intro hk; have := (h 0 hk).1; omega
    | succ k ih => intro hk; have h1 := ih (by omega); have h2 := hi' k hk; omega
  by_cases hz : xs.length = 0
  · exact .inl (by omega)
  · have h1 := key (xs.length - 1) (by omega)
    have h2 := (h (xs.length - 1) (by omega)).2
    exact .inr (by omega)
theorem NetOk.rows {n : LabNet} (h : NetOk n) (k : Nat) : (n.Boxes.getD k default).Rows.length ≤ 60 := by
  by_cases hk : k < n.Boxes.length
  · have hb := h.box k hk
    have := inc_len (n.Boxes.getD k default).Rows (·.In) 1 60 (fun j hj => by have := (hb.row j hj).1; unfold isLabel at this; omega) hb.rinc
    omega
  · rw [getD_ge _ (by omega)]; exact Nat.zero_le _
theorem NetOk.vias {n : LabNet} (h : NetOk n) (k : Nat) : (n.Boxes.getD k default).Guards.length ≤ 8 := by
  by_cases hk : k < n.Boxes.length
  · have hb := h.box k hk
    have h8 := h.frame.b8
    have := inc_len (n.Boxes.getD k default).Guards (·.To) 0 7 (fun j hj => by have := linkOf_in h.frame (hb.via j hj).1; omega) hb.vinc
    omega
  · rw [getD_ge _ (by omega)]; exact Nat.zero_le _
theorem inc_pair {α : Type} [Inhabited α] (xs : List α) (f : α → Int) (h : ∀ k, k + 1 < xs.length → f (xs.getD k default) < f (xs.getD (k + 1) default)) : xs.Pairwise (fun a b => f a < f b) := by
  induction xs with
  | nil => exact .nil
  | cons a t ih =>
    have ht : ∀ k, k + 1 < t.length → f (t.getD k default) < f (t.getD (k + 1) default) := fun k hk => by
      have := h (k + 1) (by simpa using hk)
      simpa using this
    refine List.pairwise_cons.2 ⟨fun b hb => ?_, ih ht⟩
    obtain ⟨k, hk, rfl⟩ := mem_getD hb
    have key : ∀ k, k < t.length → f a < f (t.getD k default) := by
      intro k
      induction k with
      | zero => intro hk; have := h 0 (by simpa using hk); simpa using this
      | succ k ih2 => intro hk; have h1 := ih2 (by omega); have h2 := ht k hk; omega
    exact key k hk
end Go.Proofs.Ytmiolofjlfnohaa
namespace Go.Proofs.Ytmiolofjlfnohaa
open Go.RowKit
set_option maxRecDepth 100000
set_option linter.unusedVariables false
set_option linter.unusedSimpArgs false
def negs (xs : List Int) : Nat := xs.countP (fun x => decide (x < 0))
theorem negs_set {xs : List Int} {k : Nat} {v : Int} (hk : k < xs.length) (h : xs.getD k default < 0) (hv : 0 ≤ v) : negs (xs.set k v) + 1 = negs xs := by
  induction xs generalizing k with
  | nil => simp at hk
  | cons x xs ih =>
    cases k with
    | zero =>
      have h : x < 0 := h
      have h' : ¬ v < 0 := by omega
      simp [negs, List.countP_cons, h, h']
    | succ k =>
      have := ih (k := k) (by simpa using hk) (by simpa using h)
      simp only [negs, List.set_cons_succ, List.countP_cons] at this ⊢
      omega
theorem negs_le (xs : List Int) : negs xs ≤ xs.length := List.countP_le_length
theorem negs_rep (n : Nat) : negs (List.replicate n (-1)) = n := by
  simp [negs, List.countP_replicate]
theorem rep_get (n k : Nat) (h : k < n) : (List.replicate n (-1 : Int)).getD k default = -1 := by
  rw [List.getD_eq_getElem?_getD, List.getElem?_replicate, if_pos h]; rfl
def FillI (xs : List Int) (i : Int) : Prop := ∀ k : Nat, (k : Int) < i → xs.getD k default = -1
theorem FillI.zero (xs : List Int) : FillI xs 0 := fun k hk => by omega
theorem FillI.next {xs : List Int} {i : Int} (h : FillI xs i) (h0 : 0 ≤ i) (hl : i < (xs.length : Int)) : FillI (xs.set (Int.toNat i) (-1)) (i + 1) := fun k hk => by
  by_cases e : k = Int.toNat i
  · subst e
    exact getD_set_eq _ _ _ (by omega)
  · rw [getD_set_ne _ _ _ _ e]
    exact h k (by omega)
theorem FillI.done {xs : List Int} {i : Int} {n : Nat} (h : FillI xs i) (hl : xs.length = n) (hi : ¬ i < (n : Int)) : xs = List.replicate n (-1) := by
  subst hl
  refine list_eq_of_getD (by simp) fun k hk => ?_
  rw [h k (by omega), rep_get _ _ hk]
structure FI (len : Nat) (xs queue : List Int) : Prop where
  ln : xs.length = len
  q : ∀ x ∈ queue, 0 ≤ x ∧ x < (len : Int) ∧ 0 ≤ xs.getD (Int.toNat x) default
  up : ∀ k, k < len → -1 ≤ xs.getD k default ∧ xs.getD k default + (negs xs : Int) + 1 ≤ (len : Int)
theorem FI.init {len : Nat} {b : Int} (h0 : 0 ≤ b) (h1 : b < (len : Int)) : FI len ((List.replicate len (-1)).set (Int.toNat b) 0) [b] ∧ negs ((List.replicate len (-1)).set (Int.toNat b) 0) + 1 = len := by
  have hl : Int.toNat b < (List.replicate len (-1 : Int)).length := by simp; omega
  have hn := negs_set (v := 0) hl (by rw [rep_get _ _ (by omega)]; decide) (by omega)
  rw [negs_rep] at hn
  refine ⟨⟨by simp, fun x hx => ?_, fun k hk => ?_⟩, hn⟩
  · rw [List.mem_singleton.1 hx]
    exact ⟨h0, h1, by rw [getD_set_eq _ _ _ hl]; omega⟩
  · by_cases e : k = Int.toNat b
    · subst e
      rw [getD_set_eq _ _ _ hl]; omega
    · rw [getD_set_ne _ _ _ _ e, rep_get _ _ hk]; omega
theorem FI.head {len : Nat} {xs queue : List Int} (h : FI len xs queue) (hq : (queue.length : Int) > 0) : 0 ≤ queue.getD (Int.toNat 0) default ∧ queue.getD (Int.toNat 0) default < (len : Int) ∧ 0 ≤ xs.getD (Int.toNat (queue.getD (Int.toNat 0) default)) default :=
  h.q _ (getD_mem _ (by omega))
theorem FI.tail {len : Nat} {xs queue : List Int} (h : FI len xs queue) : FI len xs (queue.drop (Int.toNat 1)) := ⟨h.ln, fun x hx => h.q x (List.mem_of_mem_drop hx), h.up⟩
theorem FI.val {len : Nat} {xs queue : List Int} (h : FI len xs queue) (h8 : len ≤ 8) {b : Int} (h0 : 0 ≤ b) (h1 : b < (len : Int)) : IntKind.i64.wrap (xs.getD (Int.toNat b) default + 1) = xs.getD (Int.toNat b) default + 1 := by
  have := h.up (Int.toNat b) (by omega)
  exact wrap_of (by omega) (by omega)
theorem FI.next {len : Nat} {xs queue : List Int} (h : FI len xs queue) (h8 : len ≤ 8) {b v : Int} (h0 : 0 ≤ b) (h1 : b < (len : Int)) (hb : 0 ≤ xs.getD (Int.toNat b) default) (v0 : 0 ≤ v) (v1 : v < (len : Int)) (hv : xs.getD (Int.toNat v) default < 0) :
    FI len (xs.set (Int.toNat v) (IntKind.i64.wrap (xs.getD (Int.toNat b) default + 1))) (queue ++ [v]) ∧ negs (xs.set (Int.toNat v) (IntKind.i64.wrap (xs.getD (Int.toNat b) default + 1))) + 1 = negs xs ∧ 0 ≤ (xs.set (Int.toNat v) (IntKind.i64.wrap (xs.getD (Int.toNat b) default + 1))).getD (Int.toNat b) default := by
  rw [h.val h8 h0 h1]
  have hl : Int.toNat v < xs.length := by rw [h.ln]; omega
  have hn := negs_set (v := xs.getD (Int.toNat b) default + 1) hl hv (by omega)
  have hvb : Int.toNat b ≠ Int.toNat v := fun e => by rw [e] at hb; omega
  have hbu := (h.up (Int.toNat b) (by omega)).2
  refine ⟨⟨by simp [h.ln], fun x hx => ?_, fun k hk => ?_⟩, hn, by rw [getD_set_ne _ _ _ _ hvb]; exact hb⟩
  · rcases List.mem_append.1 hx with hx | hx
    · obtain ⟨a1, a2, a3⟩ := h.q x hx
      refine ⟨a1, a2, ?_⟩
      rw [getD_set_ne _ _ _ _ fun e => by rw [e] at a3; omega]
      exact a3
    · rw [List.mem_singleton.1 hx]
      exact ⟨v0, v1, by rw [getD_set_eq _ _ _ hl]; omega⟩
  · have hk' := h.up k hk
    by_cases e : k = Int.toNat v
    · subst e
      rw [getD_set_eq _ _ _ hl]; omega
    · rw [getD_set_ne _ _ _ _ e]; omega
def adj (n : LabNet) (w i j : Int) : Prop := 0 ≤ linkOf n i j ∧ linkOf n i j ≠ w
theorem adj_comm {n : LabNet} {w i j : Int} (h : adj n w i j) : adj n w j i := by
  unfold adj at *; rw [linkOf_comm n j i]; exact h
theorem adj_in {n : LabNet} (hf : FrameOk n) {w i j : Int} (h : adj n w i j) : 0 ≤ i ∧ i < (n.Boxes.length : Int) ∧ 0 ≤ j ∧ j < (n.Boxes.length : Int) := by
  have := linkOf_in hf h.1; omega
structure IsDist (n : LabNet) (b w : Int) (f : List Int) : Prop where
  ln : f.length = n.Boxes.length
  b0 : f.getD (Int.toNat b) default = 0
  low : ∀ k, k < n.Boxes.length → -1 ≤ f.getD k default
  pred : ∀ k : Nat, k < n.Boxes.length → 0 < f.getD k default → ∃ j : Nat, j < n.Boxes.length ∧ adj n w j k ∧ f.getD j default = f.getD k default - 1
  zero : ∀ k : Nat, k < n.Boxes.length → f.getD k default = 0 → (k : Int) = b
  clos : ∀ j k : Nat, j < n.Boxes.length → k < n.Boxes.length → adj n w j k → 0 ≤ f.getD j default → 0 ≤ f.getD k default ∧ f.getD k default ≤ f.getD j default + 1
theorem IsDist.le {n : LabNet} {b w : Int} {f g : List Int} (hf : IsDist n b w f) (hg : IsDist n b w g) : ∀ (d k : Nat), k < n.Boxes.length → f.getD k default = (d : Int) → 0 ≤ g.getD k default ∧ g.getD k default ≤ (d : Int)
  | 0, k, hk, e => by
    have := hf.zero k hk (by simpa using e)
    have h2 := hg.b0
    rw [← this, nn] at h2
    omega
  | d + 1, k, hk, e => by
    obtain ⟨j, hj, ha, hjd⟩ := hf.pred k hk (by omega)
    have h1 := IsDist.le hf hg d j hj (by omega)
    have h2 := hg.clos j k hj hk ha h1.1
    omega
theorem IsDist.unique {n : LabNet} {b w : Int} {f g : List Int} (hf : IsDist n b w f) (hg : IsDist n b w g) : f = g := by
  refine list_eq_of_getD (hf.ln.trans hg.ln.symm) fun k hk => ?_
  rw [hf.ln] at hk
  have l1 := hf.low k hk; have l2 := hg.low k hk
  rcases Int.lt_or_le (f.getD k default) 0 with h | h
  · rcases Int.lt_or_le (g.getD k default) 0 with h' | h'
    · omega
    · have := IsDist.le hg hf (Int.toNat (g.getD k default)) k hk (by omega); omega
  · have a := IsDist.le hf hg (Int.toNat (f.getD k default)) k hk (by omega)
    have b := IsDist.le hg hf (Int.toNat (g.getD k default)) k hk (by omega)
    omega
theorem link_in {n : LabNet} (h : FrameOk n) {i : Int} (h0 : 0 ≤ i) (h1 : i < (n.Links.length : Int)) : 0 ≤ (n.Links.getD (Int.toNat i) default).A ∧ (n.Links.getD (Int.toNat i) default).A < (n.Boxes.length : Int) ∧ 0 ≤ (n.Links.getD (Int.toNat i) default).B ∧ (n.Links.getD (Int.toNat i) default).B < (n.Boxes.length : Int) := by
  have := h.ab (Int.toNat i) (by omega); omega
end Go.Proofs.Ytmiolofjlfnohaa
