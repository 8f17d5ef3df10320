/- Texts put together: MS, MT, MP, MV, INS, VH00, PH00, VH0, PH0, VH1, PH1; then what leads to it. -/
import Derived.Shelf.Spec.SlicesInsertGrow
import Derived.Test.YtjcgnlpimefhpaaRows
import Derived.WalkKit
import Derived.Test.YtjcgnlpimefhpaaZC27B
/-
  Plain tools: copies, comparisons, marks and sizes of data.
-/
namespace Go.Proofs.Ytjcgnlpimefhpaa
open Go.RowKit
theorem n0 (n : Nat) : Int.toNat ((n : Int) - 0) = n := by simp
theorem nn (n : Nat) : Int.toNat (n : Int) = n := by simp
theorem ltD {n : Nat} {k : Nat} (h : k < n) : decide ((k : Int) < (n : Int)) = true := by simp; omega
theorem geD {n : Nat} : decide ((n : Int) < (n : Int)) = false := by simp
theorem getD_nil {α : Type} [Inhabited α] (k : Nat) : ([] : List α).getD k default = default := rfl
theorem getD_cons_zero' {α : Type} [Inhabited α] (x : α) (xs : List α) : (x :: xs).getD 0 default = x := rfl
theorem getD_cons_succ' {α : Type} [Inhabited α] (x : α) (xs : List α) (k : Nat) : (x :: xs).getD (k + 1) default = xs.getD k default := rfl
theorem getD_ge {α : Type} [Inhabited α] (xs : List α) {k : Nat} (h : xs.length ≤ k) : xs.getD k default = default := by
  rw [List.getD_eq_getElem?_getD, List.getElem?_eq_none h]; rfl
theorem getD_lt {α : Type} [Inhabited α] (xs : List α) {k : Nat} (h : k < xs.length) : xs.getD k default = xs[k] := by
  rw [List.getD_eq_getElem?_getD, List.getElem?_eq_getElem h]; rfl
theorem getD_mem {α : Type} [Inhabited α] (xs : List α) {k : Nat} (h : k < xs.length) : xs.getD k default ∈ xs := by
  rw [getD_lt xs h]; exact List.getElem_mem h
theorem mem_getD {α : Type} [Inhabited α] {xs : List α} {x : α} (h : x ∈ xs) : ∃ k, k < xs.length ∧ xs.getD k default = x := by
  obtain ⟨k, hk, e⟩ := List.mem_iff_getElem.1 h
  exact ⟨k, hk, by rw [getD_lt xs hk]; exact e⟩
theorem take_set_next {α : Type} [Inhabited α] {s a : List α} {k : Nat} (hl : s.length = a.length) (h : s.take k = a.take k) (hk : k < a.length) : (s.set k (a.getD k default)).take (k + 1) = a.take (k + 1) := by
  rw [List.take_add_one, List.take_add_one, List.take_set_of_le (Nat.le_refl _), h, List.getElem?_set_self (by omega), List.getD_eq_getElem?_getD, List.getElem?_eq_getElem hk]
  rfl
theorem take_next {α : Type} [Inhabited α] {a : List α} {k : Nat} (hk : k < a.length) : a.take (k + 1) = a.take k ++ [a.getD k default] := by
  rw [List.take_add_one, List.getD_eq_getElem?_getD, List.getElem?_eq_getElem hk]
  rfl
theorem list_eq_of_getD {α : Type} [Inhabited α] {a b : List α} (hl : a.length = b.length) (h : ∀ k, k < a.length → a.getD k default = b.getD k default) : a = b := by
  refine List.ext_getElem hl fun k h1 h2 => ?_
  have := h k h1
  rwa [getD_lt a h1, getD_lt b h2] at this
theorem to_loop {α : Type} [Inhabited α] (f : α → α) (hf : ∀ x, f x = x) (a init : List α) (hi : init.length = a.length) (step : Int × List α → Lp (Int × List α) (List α))
    (hs : ∀ i xs, step (i, xs) = bif decide (i < (a.length : Int)) then .next (i + 1, xs.set (Int.toNat i) (f (a.getD (Int.toNat i) default))) else .done (i, xs)) :
    (runL step ((Int.toNat ((a.length : Int) - 0)) + 1) (0, init)).fin (fun r => r) (fun s => s.2) = a := by
  have h := runL_rule (step := step) (fun (k : Nat) (s : List α) => ((k : Int), s)) a.length (fun k s => s.length = a.length ∧ s.take k = a.take k) (fun _ => False)
    (fun k s hk ⟨h1, h2⟩ => .inl ⟨s.set k (a.getD k default), by simp [hs, hf, hk], by simp [h1], take_set_next h1 h2 hk⟩)
    (fun s _ => by simp [hs]) a.length 0 init (by omega) ⟨hi, by simp⟩ (a.length + 1) (Nat.lt_succ_self _)
  rw [n0]
  rcases h with ⟨s', h, h1, h2⟩ | ⟨r, _, h⟩
  · have h : runL step (a.length + 1) (0, init) = .done ((a.length : Int), s') := h
    rw [h]
    show s' = a
    rw [List.take_of_length_le (by omega), List.take_of_length_le (by omega)] at h2
    exact h2
  · exact h.elim
theorem eq_loop {α : Type} [Inhabited α] [DecidableEq α] (e : α → α → Bool) (he : ∀ x y, e x y = decide (x = y)) (a b : List α) (step : Int → Lp Int Bool)
    (hs : ∀ i, step i = bif (decide (i < (a.length : Int))) then (bif (!(e (a.getD (Int.toNat i) default) (b.getD (Int.toNat i) default))) then (.ret false) else (.next (i + 1))) else (.done i)) :
    (bif ((a.length : Int) != (b.length : Int)) then false else ((runL step ((Int.toNat ((a.length : Int) - 0)) + 1) 0).fin (fun r => r) (fun _ => true))) = decide (a = b) := by
  by_cases hl : a.length = b.length
  · have hc : ((a.length : Int) != (b.length : Int)) = false := by simp [hl]
    rw [hc, cond_false]
    have h := runL_rule (step := step) (fun (k : Nat) (_ : Unit) => (k : Int)) a.length (fun k _ => ∀ j, j < k → a.getD j default = b.getD j default) (fun r => r = false ∧ a ≠ b)
      (fun k _ hk hI => by
        have hc := ltD hk
        by_cases hx : a.getD k default = b.getD k default
        · refine .inl ⟨(), ?_, fun j hj => ?_⟩
          · rw [hs, he, Int.toNat_natCast, hc, hx, decide_eq_true rfl]
            rfl
          · rcases Nat.lt_succ_iff_lt_or_eq.1 hj with h | h
            · exact hI j h
            · exact h ▸ hx
        · refine .inr ⟨false, ?_, rfl, fun e => hx (e ▸ rfl)⟩
          rw [hs, he, Int.toNat_natCast, hc, decide_eq_false hx]
          rfl)
      (fun s _ => by rw [hs]; simp) a.length 0 () (by omega) (fun j hj => by omega) (a.length + 1) (Nat.lt_succ_self _)
    rw [n0]
    rcases h with ⟨_, h, hI⟩ | ⟨r, h, rfl, hne⟩
    · have h : runL step (a.length + 1) 0 = .done (a.length : Int) := h
      rw [h]
      have := list_eq_of_getD hl hI
      simp [Lp.fin, this]
    · have h : runL step (a.length + 1) 0 = .ret false := h
      rw [h]
      simp [Lp.fin, hne]
  · have hc : ((a.length : Int) != (b.length : Int)) = true := by simp; omega
    rw [hc, cond_true]
    symm
    simp only [decide_eq_false_iff_not]
    exact fun e => hl (e ▸ rfl)
def Mk {α : Type} (m : α → Int → Int × α) (h : α → Int → Int) (L : α → Nat) : Prop :=
  ∀ x k, 0 ≤ k → k + (L x : Int) < 9223372036854775807 → (m x k).1 = k + L x ∧ h (m x k).2 k = k + L x
def sumL {α : Type} (L : α → Nat) (xs : List α) : Nat := (xs.map L).foldr (· + ·) 0
theorem sumL_nil {α : Type} (L : α → Nat) : sumL L [] = 0 := rfl
theorem sumL_cons {α : Type} (L : α → Nat) (x : α) (xs : List α) : sumL L (x :: xs) = L x + sumL L xs := rfl
theorem sumL_le {α : Type} (L : α → Nat) (c : Nat) : ∀ (xs : List α), (∀ x ∈ xs, L x ≤ c) → sumL L xs ≤ xs.length * c
  | [], _ => Nat.zero_le _
  | x :: xs, h => by
    rw [sumL_cons, List.length_cons, Nat.add_one_mul]
    have h1 := h x List.mem_cons_self
    have h2 := sumL_le L c xs fun y hy => h y (List.mem_cons_of_mem _ hy)
    omega
theorem sumL_take {α : Type} [Inhabited α] (L : α → Nat) (xs : List α) {k : Nat} (hk : k < xs.length) : sumL L xs = sumL L (xs.take k) + L (xs.getD k default) + sumL L (xs.drop (k + 1)) := by
  induction xs generalizing k with
  | nil => simp at hk
  | cons x xs ih =>
    cases k with
    | zero => simp [sumL_cons, sumL_nil]
    | succ k =>
      have := ih (k := k) (by simpa using hk)
      simp only [List.take_succ_cons, sumL_cons, getD_cons_succ', List.drop_succ_cons]
      omega
theorem sumL_take_le {α : Type} [Inhabited α] (L : α → Nat) (xs : List α) (k : Nat) : sumL L (xs.take k) ≤ sumL L xs := by
  induction xs generalizing k with
  | nil => simp
  | cons x xs ih =>
    cases k with
    | zero => simp [sumL_nil]
    | succ k => simp only [List.take_succ_cons, sumL_cons]; have := ih k; omega
theorem sumL_take_next {α : Type} [Inhabited α] (L : α → Nat) (xs : List α) {k : Nat} (hk : k < xs.length) : sumL L (xs.take (k + 1)) = sumL L (xs.take k) + L (xs.getD k default) := by
  induction xs generalizing k with
  | nil => simp at hk
  | cons x xs ih =>
    cases k with
    | zero => simp [sumL_cons, sumL_nil]
    | succ k =>
      have := ih (k := k) (by simpa using hk)
      simp only [List.take_succ_cons, sumL_cons, getD_cons_succ']
      omega
theorem mark_loop {α : Type} [Inhabited α] (m : α → Int → Int × α) (h : α → Int → Int) (L : α → Nat) (hm : Mk m h L) (F : List α → Int → Int × List α) (H : List α → Int → Int) (st : List α → Int → Int × Int × List α → Lp (Int × Int × List α) (Int × List α)) (sh : List α → Int → Int × Int → Lp (Int × Int) Int)
    (hF : ∀ a k, F a k = (runL (st a k) ((Int.toNat ((a.length : Int) - 0)) + 1) (k, 0, a)).fin (fun r => r) (fun s => (s.1, s.2.2)))
    (hst : ∀ a k0 k i xs, st a k0 (k, i, xs) = bif decide (i < (xs.length : Int)) then .next ((m (xs.getD (Int.toNat i) default) k).1, i + 1, xs.set (Int.toNat i) (m (xs.getD (Int.toNat i) default) k).2) else .done (k, i, xs))
    (hH : ∀ a k, H a k = (runL (sh a k) ((Int.toNat ((a.length : Int) - 0)) + 1) (k, 0)).fin (fun r => r) (fun s => s.1))
    (hsh : ∀ a k0 k i, i < (a.length : Int) → 0 ≤ i → 0 ≤ h (a.getD (Int.toNat i) default) k → sh a k0 (k, i) = .next (h (a.getD (Int.toNat i) default) k, i + 1))
    (hsd : ∀ a k0 k, sh a k0 (k, (a.length : Int)) = .done (k, (a.length : Int))) : Mk F H (sumL L) := by
  intro a k hk0 hk
  have hh := runL_rule (step := st a k) (fun (i : Nat) (s : Int × List α) => (s.1, (i : Int), s.2)) a.length
    (fun i s => s.2.length = a.length ∧ s.1 = k + sumL L (a.take i) ∧ (∀ j, i ≤ j → s.2.getD j default = a.getD j default) ∧ ∀ j, j < i → s.2.getD j default = (m (a.getD j default) (k + sumL L (a.take j))).2) (fun _ => False)
    (fun i s hi ⟨h1, h2, h3, h4⟩ => by
      obtain ⟨k1, xs⟩ := s
      simp only at h1 h2 h3 h4
      refine .inl ⟨((m (xs.getD i default) k1).1, xs.set i (m (xs.getD i default) k1).2), ?_, by simp [h1], ?_, fun j hj => ?_, fun j hj => ?_⟩
      · rw [hst, h1, ltD hi, Int.toNat_natCast]; rfl
      · simp only
        rw [h3 i (Nat.le_refl _), h2, sumL_take_next L a hi]
        have hs := sumL_take L a hi
        rw [(hm (a.getD i default) (k + sumL L (a.take i)) (by omega) (by omega)).1]
        omega
      · simp only
        rw [List.getD_eq_getElem?_getD, List.getElem?_set_ne (by omega), ← List.getD_eq_getElem?_getD]
        exact h3 j (by omega)
      · simp only
        rcases Nat.lt_succ_iff_lt_or_eq.1 hj with hj | rfl
        · rw [List.getD_eq_getElem?_getD, List.getElem?_set_ne (by omega), ← List.getD_eq_getElem?_getD]
          exact h4 j hj
        · rw [List.getD_eq_getElem?_getD, List.getElem?_set_self (by omega), h3 j (Nat.le_refl _), h2]; rfl)
    (fun s ⟨h1, _⟩ => by rw [hst, h1, geD]; rfl) a.length 0 (k, a) (by omega) ⟨rfl, by simp [sumL_nil], fun _ _ => rfl, fun j hj => by omega⟩ (a.length + 1) (Nat.lt_succ_self _)
  rcases hh with ⟨⟨k1, xs⟩, hh, h1, h2, h3, h4⟩ | ⟨_, _, hh⟩
  case inr => exact hh.elim
  simp only at h1 h2 h3 h4
  have hh : runL (st a k) (a.length + 1) (k, 0, a) = .done (k1, (a.length : Int), xs) := hh
  have eF : F a k = (k1, xs) := by rw [hF, n0, hh]; rfl
  rw [List.take_of_length_le (Nat.le_refl _)] at h2
  rw [eF]
  refine ⟨h2, ?_⟩
  simp only
  have h5 := runL_rule (step := sh xs k) (fun (i : Nat) (s : Int) => (s, (i : Int))) xs.length (fun i s => s = k + sumL L (a.take i)) (fun _ => False)
    (fun i s hi h2 => by
      have hi' : i < a.length := by omega
      have hs := sumL_take L a hi'
      have hr := (hm (a.getD i default) (k + sumL L (a.take i)) (by omega) (by omega)).2
      rw [← h4 i hi', ← h2] at hr
      refine .inl ⟨h (xs.getD i default) s, ?_, ?_⟩
      · have := hsh xs k s (i : Int) (by omega) (by omega) (by rw [Int.toNat_natCast, hr]; omega)
        rw [Int.toNat_natCast] at this
        exact this
      · rw [hr, sumL_take_next L a hi']; omega)
    (fun s _ => hsd xs k s) xs.length 0 k (by omega) (by simp [sumL_nil]) (xs.length + 1) (Nat.lt_succ_self _)
  rcases h5 with ⟨k2, h5, h6⟩ | ⟨_, _, h5⟩
  case inr => exact h5.elim
  have h5 : runL (sh xs k) (xs.length + 1) (k, 0) = .done (k2, (xs.length : Int)) := h5
  rw [hH, n0, h5]
  show k2 = _
  rw [h6, List.take_of_length_le (by omega)]
theorem sz_loop {α : Type} [Inhabited α] (sz : α → Int → Int) (P : α → Prop) (h : ∀ x l, 0 ≤ l → l ≤ 1048576 → 0 ≤ sz x l → P x ∧ sz x l ≤ l) (a : List α) (step : Int × Int → Lp (Int × Int) Int) (l0 : Int) (h0 : 0 ≤ l0) (h1 : l0 ≤ 1048576)
    (hs : ∀ l i, step (l, i) = bif (decide (i < (a.length : Int))) then (bif (decide (sz (a.getD (Int.toNat i) default) l < 0)) then (.ret (-1)) else (.next (sz (a.getD (Int.toNat i) default) l, i + 1))) else (.done (l, i)))
    (hr : 0 ≤ (runL step ((Int.toNat ((a.length : Int) - 0)) + 1) (l0, 0)).fin (fun r => r) (fun s => s.1)) :
    (∀ k, k < a.length → P (a.getD k default)) ∧ (runL step ((Int.toNat ((a.length : Int) - 0)) + 1) (l0, 0)).fin (fun r => r) (fun s => s.1) ≤ l0 := by
  rw [n0] at hr ⊢
  have hh := runL_rule (step := step) (fun (i : Nat) (l : Int) => (l, (i : Int))) a.length (fun i l => 0 ≤ l ∧ l ≤ l0 ∧ ∀ k, k < i → P (a.getD k default)) (fun r => r = -1)
    (fun i l hi ⟨g1, g2, g3⟩ => by
      by_cases hx : sz (a.getD i default) l < 0
      · refine .inr ⟨-1, ?_, rfl⟩
        rw [hs, ltD hi, Int.toNat_natCast, decide_eq_true hx]; rfl
      · refine .inl ⟨sz (a.getD i default) l, ?_, by omega, ?_, fun k hk => ?_⟩
        · rw [hs, ltD hi, Int.toNat_natCast, decide_eq_false hx]; rfl
        · have := (h (a.getD i default) l g1 (by omega) (by omega)).2; omega
        · rcases Nat.lt_succ_iff_lt_or_eq.1 hk with hk | rfl
          · exact g3 k hk
          · exact (h _ l g1 (by omega) (by omega)).1)
    (fun l _ => by rw [hs, geD]; rfl) a.length 0 l0 (by omega) ⟨h0, Int.le_refl _, fun k hk => by omega⟩ (a.length + 1) (Nat.lt_succ_self _)
  rcases hh with ⟨l, hh, g1, g2, g3⟩ | ⟨r, hh, rfl⟩
  · have hh : runL step (a.length + 1) (l0, 0) = .done (l, (a.length : Int)) := hh
    rw [hh]
    exact ⟨g3, g2⟩
  · have hh : runL step (a.length + 1) (l0, 0) = .ret (-1) := hh
    rw [hh] at hr
    exact absurd hr (by decide)
theorem wrap_of {n : Int} (h1 : -9223372036854775808 ≤ n) (h2 : n ≤ 9223372036854775807) : IntKind.i64.wrap n = n := wrap_in h1 h2
theorem neg_lt {k : Int} (h : 0 ≤ k) : decide (k < 0) = false := by simp; omega
theorem hs_step {c : Bool} {v : Int} (h : 0 ≤ bif c then -1 else v) : c = false ∧ 0 ≤ v := by
  cases c
  · exact ⟨rfl, h⟩
  · have h : (0 : Int) ≤ -1 := h
    omega
theorem neI (a b : Int) : (a != b) = !decide (a = b) := by
  by_cases h : a = b <;> simp [h]
theorem neB (a b : Bool) : (!(a == b)) = !decide (a = b) := by
  cases a <;> cases b <;> rfl
theorem eqstep (p r : Bool) : (bif (!p) then false else r) = (p && r) := by cases p <;> rfl
theorem bandd (p q : Bool) : (bif p then q else false) = (p && q) := by cases p <;> rfl
theorem bord (p q : Bool) : (bif p then true else q) = (p || q) := by cases p <;> rfl
theorem geleD (a b : Int) : decide (a ≥ b) = decide (b ≤ a) := rfl
theorem gtltD (a b : Int) : decide (a > b) = decide (b < a) := rfl
theorem byteToList (a : ByteArray) : a.toList = a.data.toList := ByteArray.toList_eq a
theorem byte_inj {a b : ByteArray} (h : a.toList = b.toList) : a = b := by
  rw [byteToList, byteToList] at h
  cases a; cases b
  simp only [ByteArray.mk.injEq]
  exact Array.ext' h
theorem neS (a b : ByteArray) : (!(a.toList == b.toList)) = !decide (a = b) := by
  by_cases h : a = b
  · simp [h]
  · have : ¬ a.toList = b.toList := fun e => h (byte_inj e)
    simp [h, this]
end Go.Proofs.Ytjcgnlpimefhpaa
/-
  Plain tools: loops over a range: searches, and loops that are alike.
-/
namespace Go.Proofs.Ytjcgnlpimefhpaa
open Go.RowKit
def first (p : Nat → Bool) (n : Nat) : Option Nat := (List.range n).find? p
theorem first_some {p : Nat → Bool} {n k : Nat} : first p n = some k ↔ k < n ∧ p k = true ∧ ∀ j, j < k → p j = false := by
  unfold first
  rw [List.find?_range_eq_some]
  constructor
  · rintro ⟨h1, h2, h3⟩
    exact ⟨by simpa using h2, h1, fun j hj => by simpa using h3 j hj⟩
  · rintro ⟨h1, h2, h3⟩
    exact ⟨h2, by simpa using h1, fun j hj => by simpa using h3 j hj⟩
theorem first_none {p : Nat → Bool} {n : Nat} : first p n = none ↔ ∀ k, k < n → p k = false := by
  unfold first
  rw [List.find?_range_eq_none]
  simp
theorem first_congr {p q : Nat → Bool} {n : Nat} (h : ∀ k, k < n → p k = q k) : first p n = first q n := by
  cases e : first q n with
  | none =>
    rw [first_none] at *
    exact fun k hk => (h k hk).trans (e k hk)
  | some k =>
    rw [first_some] at *
    exact ⟨e.1, (h k e.1).trans e.2.1, fun j hj => (h j (by omega)).trans (e.2.2 j hj)⟩
theorem search {ρ τ : Type} (p : Nat → Bool) (r : Nat → ρ) (n : Nat) (step : Int → Lp Int ρ) (hs : ∀ k : Nat, k < n → step (k : Int) = bif p k then .ret (r k) else .next ((k : Int) + 1)) (he : step (n : Int) = .done (n : Int)) (f : ρ → τ) (g : Int → τ) :
    (runL step ((Int.toNat ((n : Int) - 0)) + 1) 0).fin f g = match first p n with | some k => f (r k) | none => g n := by
  have h := runL_rule (step := step) (fun (k : Nat) (_ : Unit) => (k : Int)) n (fun k _ => ∀ j, j < k → p j = false) (fun x => ∃ k, first p n = some k ∧ x = r k)
    (fun k _ hk hI => by
      cases hp : p k with
      | false =>
        refine .inl ⟨(), by rw [hs k hk, hp]; rfl, fun j hj => ?_⟩
        rcases Nat.lt_succ_iff_lt_or_eq.1 hj with h | rfl
        · exact hI j h
        · exact hp
      | true => exact .inr ⟨r k, by rw [hs k hk, hp]; rfl, k, first_some.2 ⟨hk, hp, hI⟩, rfl⟩)
    (fun _ _ => he) n 0 () (by omega) (fun j hj => by omega) (n + 1) (Nat.lt_succ_self _)
  rw [n0]
  rcases h with ⟨_, h, hI⟩ | ⟨x, h, k, hk, rfl⟩
  · have h : runL step (n + 1) 0 = .done (n : Int) := h
    rw [h, first_none.2 hI]; rfl
  · have h : runL step (n + 1) 0 = .ret (r k) := h
    rw [h, hk]; rfl
theorem allB (p : Nat → Bool) (n : Nat) (step : Int → Lp Int Bool) (hs : ∀ k : Nat, k < n → step (k : Int) = bif p k then .ret false else .next ((k : Int) + 1)) (he : step (n : Int) = .done (n : Int)) (g : Int → Bool) :
    (runL step ((Int.toNat ((n : Int) - 0)) + 1) 0).fin (fun r => r) g = ((first p n).isNone && g n) := by
  rw [search p (fun _ => false) n step hs he]
  cases first p n <;> rfl
theorem allB_iff {p : Nat → Bool} {n : Nat} : (first p n).isNone = true ↔ ∀ k, k < n → p k = false := by
  rw [Option.isNone_iff_eq_none, first_none]
theorem runL_congr {τ ρ : Type} {step step' : τ → Lp τ ρ} (I : τ → Prop) (h1 : ∀ s, I s → step s = step' s) (h2 : ∀ s s', I s → step s = .next s' → I s') : ∀ (m : Nat) (s : τ), I s → runL step m s = runL step' m s
  | 0, _, _ => rfl
  | m + 1, s, hs => by
    simp only [runL]
    rw [← h1 s hs]
    cases e : step s with
    | next s' => exact runL_congr I h1 h2 m s' (h2 s s' hs e)
    | done s' => rfl
    | ret r => rfl
def forS {σ ρ : Type} (body : Nat → σ → Lp σ ρ) : Nat → Nat → σ → Lp σ ρ
  | 0, _, s => .done s
  | m + 1, k, s => match body k s with
    | .next s' => forS body m (k + 1) s'
    | .done s' => .done s'
    | .ret r => .ret r
theorem app_loop {α β ρ : Type} [Inhabited α] (f : α → β) (a : List α) (init : List β) (step : Int × List β → Lp (Int × List β) ρ)
    (hs : ∀ (k : Nat) xs, k < a.length → step ((k : Int), xs) = .next ((k : Int) + 1, xs ++ [f (a.getD k default)])) (he : ∀ xs, step ((a.length : Int), xs) = .done ((a.length : Int), xs)) :
    runL step ((Int.toNat ((a.length : Int) - 0)) + 1) (0, init) = .done ((a.length : Int), init ++ a.map f) := by
  have h := runL_rule (step := step) (fun (k : Nat) (s : List β) => ((k : Int), s)) a.length (fun k s => s = init ++ (a.take k).map f) (fun _ => False)
    (fun k s hk hI => .inl ⟨s ++ [f (a.getD k default)], hs k s hk, by rw [hI, take_next hk, List.map_append, List.append_assoc]; rfl⟩)
    (fun s _ => he s) a.length 0 init (by omega) (by simp) (a.length + 1) (Nat.lt_succ_self _)
  rw [n0]
  rcases h with ⟨s', h, hI⟩ | ⟨_, _, h⟩
  · rw [List.take_length] at hI
    rw [← hI]; exact h
  · exact h.elim
def oix : Option Nat → Int
  | some k => (k : Int)
  | none => -1
theorem oix_lt {p : Nat → Bool} {n : Nat} : oix (first p n) < (n : Int) := by
  cases h : first p n with
  | none => simp only [oix]; omega
  | some k => have := (first_some.1 h).1; simp only [oix]; omega
theorem oix_ge (o : Option Nat) : -1 ≤ oix o := by cases o <;> simp only [oix] <;> omega
theorem oix_neg {o : Option Nat} : oix o < 0 ↔ o = none := by
  cases o with
  | none => simp [oix]
  | some k => simp [oix]
theorem oix_some {o : Option Nat} (h : ¬ oix o < 0) : o = some (oix o).toNat := by
  cases o with
  | none => exact absurd (by decide) h
  | some k => simp [oix]
def idxI {α : Type} [Inhabited α] (p : α → Bool) (xs : List α) : Int := oix (first (fun k => p (xs.getD k default)) xs.length)
theorem idx_loop {α : Type} [Inhabited α] (p : α → Bool) (xs : List α) (step : Int → Lp Int Int)
    (hs : ∀ i, step i = bif decide (i < (xs.length : Int)) then (bif p (xs.getD (Int.toNat i) default) then .ret i else .next (i + 1)) else .done i) :
    (runL step ((Int.toNat ((xs.length : Int) - 0)) + 1) 0).fin (fun r => r) (fun _ => -1) = idxI p xs := by
  rw [search (fun k => p (xs.getD k default)) (fun k => (k : Int)) xs.length step (fun k hk => by rw [hs, ltD hk, nn]; rfl) (by rw [hs, geD]; rfl)]
  unfold idxI
  cases first (fun k => p (xs.getD k default)) xs.length <;> rfl
theorem any_idx {α : Type} [Inhabited α] (p : α → Bool) (xs : List α) : decide (idxI p xs ≥ 0) = xs.any p := by
  rw [Bool.eq_iff_iff, decide_eq_true_eq, List.any_eq_true]
  constructor
  · intro h
    have h' : ¬ idxI p xs < 0 := by omega
    have h2 := first_some.1 (oix_some h')
    exact ⟨_, getD_mem xs h2.1, h2.2.1⟩
  · rintro ⟨x, hx, hp⟩
    obtain ⟨k, hk, rfl⟩ := mem_getD hx
    rcases Int.lt_or_le (idxI p xs) 0 with h | h
    · have := first_none.1 (oix_neg.1 h) k hk
      simp only [hp] at this
      cases this
    · exact h
theorem mem_idx {α : Type} [Inhabited α] [DecidableEq α] (v : α) (xs : List α) : xs.any (fun y => decide (v = y)) = decide (v ∈ xs) := by
  rw [Bool.eq_iff_iff, List.any_eq_true, decide_eq_true_eq]
  constructor
  · rintro ⟨x, hx, h⟩
    rw [of_decide_eq_true h]; exact hx
  · exact fun h => ⟨v, h, by simp⟩
theorem idxI_lt {α : Type} [Inhabited α] (p : α → Bool) (xs : List α) : idxI p xs < (xs.length : Int) := oix_lt
theorem idxI_ge {α : Type} [Inhabited α] (p : α → Bool) (xs : List α) : -1 ≤ idxI p xs := oix_ge _
theorem beqD (a b : Int) : (a == b) = decide (a = b) := by
  by_cases h : a = b <;> simp [h]
theorem toNat_pred (k : Nat) : Int.toNat ((k : Int) - 1) = k - 1 := by omega
theorem pos_cast (k : Nat) : decide ((k : Int) > 0) = decide (0 < k) := by simp
theorem ret_or {ρ : Type} (a b : Bool) (r : ρ) (s : Int) : (bif a then (Lp.ret r : Lp Int ρ) else bif b then .ret r else .next s) = bif (a || b) then .ret r else .next s := by cases a <;> rfl
theorem set_take_next {α : Type} (xs : List α) {i : Nat} (a : α) (h : i < xs.length) : (xs.set i a).take (i + 1) = xs.take i ++ [a] := by
  rw [List.take_add_one, List.take_set_of_le (Nat.le_refl _), List.getElem?_set_self h]; rfl
theorem filter_take_next {α : Type} [Inhabited α] (p : α → Bool) (s : List α) {k : Nat} (h : k < s.length) : (s.take (k + 1)).filter p = (s.take k).filter p ++ (if p (s.getD k default) then [s.getD k default] else []) := by
  rw [take_next h, List.filter_append]
  congr 1
  simp only [List.filter_cons, List.filter_nil]
theorem del_loop {α : Type} [Inhabited α] (del : α → Bool) (s : List α) (z : α) (step : Int × Int × List α → Lp (Int × Int × List α) (List α))
    (hs : ∀ i j xs, step (i, j, xs) = bif decide (j < (xs.length : Int)) then (bif (!(del (xs.getD (Int.toNat j) default))) then .next (i + 1, j + 1, xs.set (Int.toNat i) (xs.getD (Int.toNat j) default)) else .next (i, j + 1, xs)) else .done (i, j, xs)) :
    (bif (idxI del s == (-1)) then s else (((runL step ((Int.toNat ((s.length : Int) - (idxI del s + 1))) + 1) (idxI del s, idxI del s + 1, s)).fin Lp.ret (fun x => (Lp.done (x.2.2, x.1) : Lp (List α × Int) (List α)))).fin (fun r => r) (fun x => ((x.1.take (Int.toNat x.2) ++ List.replicate (x.1.drop (Int.toNat x.2)).length z ++ x.1.drop (Int.toNat x.2 + (x.1.drop (Int.toNat x.2)).length)).take (Int.toNat x.2))))) = s.filter (fun x => !(del x)) := by
  unfold idxI
  cases e : first (fun k => del (s.getD k default)) s.length with
  | none =>
    have hn := first_none.1 e
    have e1 : (oix (none : Option Nat) == (-1 : Int)) = true := rfl
    rw [e1, cond_true]
    symm
    refine List.filter_eq_self.2 fun x hx => ?_
    obtain ⟨k, hk, rfl⟩ := mem_getD hx
    simpa using hn k hk
  | some k0 =>
    obtain ⟨h1, h2, h3⟩ := first_some.1 e
    have e1 : (oix (some k0) == (-1 : Int)) = false := by rw [beqD]; exact decide_eq_false (by simp only [oix]; omega)
    rw [e1, cond_false]
    simp only [oix]
    have hpre : (s.take (k0 + 1)).filter (fun x => !(del x)) = s.take k0 := by
      rw [filter_take_next _ _ h1]
      simp only [h2, Bool.not_true, Bool.false_eq_true, if_false, List.append_nil]
      refine List.filter_eq_self.2 fun x hx => ?_
      obtain ⟨k, hk, rfl⟩ := List.mem_iff_getElem.1 hx
      have hk' : k < k0 := by simp at hk; omega
      have := h3 k hk'
      rw [getD_lt s (by omega)] at this
      simpa using this
    have h := runL_rule (step := step) (fun (k : Nat) (x : Nat × List α) => ((x.1 : Int), (k : Int), x.2)) s.length
      (fun k x => x.1 < k ∧ x.2.length = s.length ∧ x.2.take x.1 = (s.take k).filter (fun x => !(del x)) ∧ ∀ m, k ≤ m → x.2.getD m default = s.getD m default) (fun _ => False)
      (fun k x hk ⟨g1, g2, g3, g4⟩ => by
        obtain ⟨i, xs⟩ := x
        simp only at g1 g2 g3 g4
        have hx := g4 k (Nat.le_refl _)
        cases hd : del (s.getD k default) with
        | false =>
          refine .inl ⟨(i + 1, xs.set i (s.getD k default)), ?_, by simp only; omega, by simp [g2], ?_, fun m hm => ?_⟩
          · rw [hs, g2, ltD hk, nn, hx, hd]
            simp only [cond_true, Bool.not_false, nn]
            rfl
          · simp only
            rw [set_take_next xs _ (by omega), g3, filter_take_next _ _ hk, hd]
            rfl
          · simp only
            rw [List.getD_eq_getElem?_getD, List.getElem?_set_ne (by omega), ← List.getD_eq_getElem?_getD]
            exact g4 m (by omega)
        | true =>
          refine .inl ⟨(i, xs), ?_, by simp only; omega, g2, ?_, fun m hm => g4 m (by omega)⟩
          · rw [hs, g2, ltD hk, nn, hx, hd]
            simp only [cond_true, Bool.not_true, cond_false]
            rfl
          · simp only
            rw [g3, filter_take_next _ _ hk, hd]
            simp)
      (fun x ⟨_, g2, _, _⟩ => by rw [hs, g2, geD]; rfl) (s.length - (k0 + 1)) (k0 + 1) (k0, s) (by omega) ⟨Nat.lt_succ_self _, rfl, hpre.symm, fun _ _ => rfl⟩ (s.length - (k0 + 1) + 1) (Nat.lt_succ_self _)
    have ef : Int.toNat ((s.length : Int) - ((k0 : Int) + 1)) = s.length - (k0 + 1) := by omega
    rw [ef]
    rcases h with ⟨⟨i, xs⟩, h, g1, g2, g3, g4⟩ | ⟨_, _, h⟩
    · have h : runL step (s.length - (k0 + 1) + 1) ((k0 : Int), (k0 : Int) + 1, s) = .done ((i : Int), (s.length : Int), xs) := h
      simp only at g1 g2 g3
      rw [h]
      simp only [Lp.fin, nn]
      rw [List.take_length] at g3
      rw [← g3, List.append_assoc, List.take_append_of_le_length (by simp; omega), List.take_take, Nat.min_self]
    · exact h.elim
end Go.Proofs.Ytjcgnlpimefhpaa
/-
  The machine: structs of plain cells.
-/
namespace Go.Proofs.Ytjcgnlpimefhpaa
open Go.RowKit
set_option linter.unusedVariables false
set_option linter.unusedSimpArgs false
def datV : Dat → Value
  | .v x => x
  | _ => default
def Plain {α : Type} (k : Nat) (e : α → List Dat) : Prop := ∀ x, (e x).length = k ∧ ∀ d ∈ e x, ∃ v, d = .v v ∧ v.oneCell' = true
def encV {α : Type} (e : α → List Dat) (x : α) : List Value := (e x).map datV
theorem Plain.len {α : Type} {k : Nat} {e : α → List Dat} (h : Plain k e) (x : α) : (encV e x).length = k := by rw [encV, List.length_map, (h x).1]
theorem Plain.one {α : Type} {k : Nat} {e : α → List Dat} (h : Plain k e) (x : α) : ∀ v ∈ encV e x, v.oneCell' = true := fun v hv => by
  obtain ⟨d, hd, rfl⟩ := List.mem_map.1 hv
  obtain ⟨v, rfl, h1⟩ := (h x).2 d hd
  exact h1
theorem rd_plain {S : Nat → Prop} {w : World} : ∀ {ds : List Dat} {vs : List Value}, (∀ d ∈ ds, ∃ v, d = .v v ∧ v.oneCell' = true) → (RdVs S w ds vs ↔ vs = ds.map datV)
  | [], vs, _ => ⟨fun h => h, fun h => h⟩
  | d :: ds, vs, h => by
    obtain ⟨v, rfl, hv⟩ := h d List.mem_cons_self
    have ih := fun us => rd_plain (S := S) (w := w) (ds := ds) (vs := us) fun d hd => h d (List.mem_cons_of_mem _ hd)
    constructor
    · rintro ⟨u, us, rfl, ⟨rfl, _⟩, h2⟩
      rw [(ih us).1 h2]; rfl
    · rintro rfl
      exact ⟨v, _, rfl, ⟨rfl, hv⟩, (ih _).2 rfl⟩
theorem ow_plain {w : World} : ∀ {ds : List Dat} {vs : List Value} {fp : List Nat}, (∀ d ∈ ds, ∃ v, d = .v v ∧ v.oneCell' = true) → (OwVs w ds vs fp ↔ vs = ds.map datV ∧ fp = [])
  | [], vs, fp, _ => ⟨fun h => h, fun h => h⟩
  | d :: ds, vs, fp, h => by
    obtain ⟨v, rfl, hv⟩ := h d List.mem_cons_self
    have ih := fun us f => ow_plain (w := w) (ds := ds) (vs := us) (fp := f) fun d hd => h d (List.mem_cons_of_mem _ hd)
    constructor
    · rintro ⟨u, us, f, g, rfl, ⟨rfl, _, rfl⟩, h2, rfl, _⟩
      obtain ⟨e1, e2⟩ := (ih us _).1 h2
      rw [e1, e2]; exact ⟨rfl, rfl⟩
    · rintro ⟨rfl, rfl⟩
      exact ⟨v, _, [], [], rfl, ⟨rfl, hv, rfl⟩, (ih _ _).2 ⟨rfl, rfl⟩, rfl, List.nodup_nil⟩
end Go.Proofs.Ytjcgnlpimefhpaa
/-
  The machine: slices of structs of plain cells azz flat rows; copy at any size. What slices.Insert and slices.Delete stand on.
-/
namespace Go.Proofs.Ytjcgnlpimefhpaa
open Go.RowKit Go.Shelf
set_option linter.unusedVariables false
set_option linter.unusedSimpArgs false
def flat {α : Type} (e : α → List Dat) (xs : List α) : List Value := xs.flatMap (encV e)
theorem flat_app {α : Type} (e : α → List Dat) (xs ys : List α) : flat e (xs ++ ys) = flat e xs ++ flat e ys := List.flatMap_append
theorem flat_cons {α : Type} (e : α → List Dat) (x : α) (xs : List α) : flat e (x :: xs) = encV e x ++ flat e xs := List.flatMap_cons
section
variable {α : Type} {k : Nat} {e : α → List Dat} (he : Plain k e)
include he
theorem flat_len : ∀ xs : List α, (flat e xs).length = xs.length * k
  | [] => by simp [flat]
  | x :: xs => by rw [flat_cons, List.length_append, he.len, flat_len xs, List.length_cons, Nat.succ_mul, Nat.add_comm]
theorem flat_one : ∀ xs : List α, ∀ v ∈ flat e xs, v.oneCell' = true := fun xs v hv => by
  obtain ⟨x, _, hx⟩ := List.mem_flatMap.1 hv
  exact he.one x v hx
theorem flat_all (xs : List α) : ((flat e xs).all fun v => v.oneCell') = true := List.all_eq_true.2 (flat_one he xs)
theorem flat_take (xs : List α) (i : Nat) (hi : i ≤ xs.length) : (flat e xs).take (i * k) = flat e (xs.take i) := by
  conv => lhs; rw [← List.take_append_drop i xs, flat_app]
  have : (flat e (xs.take i)).length = i * k := by rw [flat_len he, List.length_take, Nat.min_eq_left hi]
  rw [← this, List.take_left]
theorem flat_drop (xs : List α) (i : Nat) (hi : i ≤ xs.length) : (flat e xs).drop (i * k) = flat e (xs.drop i) := by
  conv => lhs; rw [← List.take_append_drop i xs, flat_app]
  have : (flat e (xs.take i)).length = i * k := by rw [flat_len he, List.length_take, Nat.min_eq_left hi]
  rw [← this, List.drop_left]
theorem flat_get (xs : List α) (i : Nat) (x : α) (hx : xs[i]? = some x) : ((flat e xs).drop (i * k)).take k = encV e x := by
  obtain ⟨hi, rfl⟩ := List.getElem?_eq_some_iff.1 hx
  rw [flat_drop he xs i (by omega), List.drop_eq_getElem_cons hi, flat_cons, ← he.len xs[i], List.take_left]
theorem own_flat [Inhabited α] {w : World} {xs : List α} {v : Value} {fp : List Nat} (h : OwV w (.l k e xs) v fp) (hx : xs ≠ []) :
    ∃ b T c A R, v = .slice (some ⟨b, A.length, none⟩) xs.length c ∧ fp = [b] ∧ Box w b T (A ++ flat e xs ++ R) ∧ R.length = (c - xs.length) * k ∧ xs.length ≤ c ∧ xs.length ≤ 9223372036854775807 := by
  obtain ⟨a, c, rfl, hc, h63, hO⟩ := h
  rcases hO with ⟨_, rfl, _⟩ | ⟨b, o, T, cells, fps, rfl, hbox, hlen, hfl, hel, rfl, hnd⟩
  · exact absurd rfl hx
  have hle : o + xs.length * k ≤ cells.length := by rw [hlen]; exact Nat.add_le_add_left (Nat.mul_le_mul_right _ hc) _
  have hfe : fps.flatten = [] := by
    rw [List.flatten_eq_nil_iff]
    intro l hl
    obtain ⟨i, hi, rfl⟩ := List.getElem_of_mem hl
    exact ((ow_plain (he _).2).1 (hel i (xs[i]'(by omega)) fps[i] (List.getElem?_eq_getElem (by omega)) (List.getElem?_eq_getElem hi)).2).2
  have hch : ∀ m, m ≤ xs.length → (cells.drop o).take (m * k) = flat e (xs.take m) := by
    intro m
    induction m with
    | zero => intro _; simp [flat]
    | succ m ih =>
      intro hm
      have h1 := ih (by omega)
      have hxm : xs[m]? = some (xs[m]'(by omega)) := List.getElem?_eq_getElem (by omega)
      have h2 := ((ow_plain (he _).2).1 (hel m _ (fps[m]'(by omega)) hxm (List.getElem?_eq_getElem _)).2).1
      have e3 : xs.take (m + 1) = xs.take m ++ [xs[m]'(by omega)] := by rw [List.take_add_one, hxm]; rfl
      rw [Nat.succ_mul, List.take_add, h1, List.drop_drop, h2, e3, flat_app, flat_cons]
      show _ = _ ++ (encV e _ ++ [])
      rw [List.append_nil]; rfl
  refine ⟨b, T, c, cells.take o, cells.drop (o + xs.length * k), ?_, by rw [hfe], ?_, ?_, hc, h63⟩
  · rw [List.length_take, Nat.min_eq_left (by omega)]
  · have e1 := hch xs.length (Nat.le_refl _)
    rw [List.take_length] at e1
    rw [← e1, List.append_assoc, ← List.drop_drop, List.take_append_drop, List.take_append_drop]
    exact hbox
  · rw [List.length_drop, hlen, Nat.sub_mul]; omega
theorem flat_own [Inhabited α] {w : World} {xs : List α} {b T c : Nat} {A R : List Value} (hb : Box w b T (A ++ flat e xs ++ R)) (hR : R.length = (c - xs.length) * k) (hc : xs.length ≤ c) (h63 : xs.length ≤ 9223372036854775807) :
    OwV w (.l k e xs) (.slice (some ⟨b, A.length, none⟩) xs.length c) [b] := by
  refine ⟨_, c, rfl, hc, h63, .inr ⟨b, A.length, T, _, List.replicate xs.length [], rfl, hb, ?_, by simp, fun i x f hx hf => ?_, by simp, by simp⟩⟩
  · rw [List.length_append, List.length_append, flat_len he, hR, Nat.add_assoc, ← Nat.add_mul]
    congr 2; omega
  · have hf' : f = [] := by
      rw [List.getElem?_replicate] at hf
      split at hf
      · cases hf; rfl
      · cases hf
    have hi : i < xs.length := (List.getElem?_eq_some_iff.1 hx).1
    have h1 : ((A ++ flat e xs ++ R).drop (A.length + i * k)).take k = encV e x := by
      rw [List.append_assoc, ← List.drop_drop, List.drop_left, List.drop_append_of_le_length (by rw [flat_len he]; exact Nat.mul_le_mul_right _ (by omega)), List.take_append_of_le_length (by
        rw [flat_drop he xs i (by omega), flat_len he, List.length_drop]
        calc k = 1 * k := by omega
          _ ≤ _ := Nat.mul_le_mul_right _ (by omega)), flat_get he xs i x hx]
    rw [h1, hf']
    exact ⟨he.len x, (ow_plain (he x).2).2 ⟨rfl, rfl⟩⟩
end
theorem run_copyK {P : Program} {w : World} {t t' ty el b o T dLen dc sLen sc : Nat} {a : Addr} {i : TypeInfo} {cells news : List Value} (ht : P.underlying t = some (.slice el)) (hi : P.info? el = some i) (hb : Box w b T cells)
    (hl : news.length = Nat.min sLen dLen * i.size) (hn : news ≠ []) (hB : ∀ j v, news[j]? = some v → w.cell? (a.add j) = some v) (h1 : (news.all fun v => v.oneCell') = true) (hfit : o + news.length ≤ cells.length) :
    (Builtin.copy_ #[t, t'] ty #[.slice (some ⟨b, o, none⟩) dLen dc, .slice (some a) sLen sc]).run P w = .ok (goInt (Nat.min sLen dLen)) (setBlk w b (.cells (splice cells o news).toArray T (0, 0))) := by
  have hf := firstCells_ok (P := P) (w := w) (size := i.size) (m := Nat.min sLen dLen) (c := sc) (ay := some a) hl (fun h => by cases h) (fun a' h => by cases h; exact hB)
  have hf' := run_firstCells_some (P := P) w i.size (Nat.min sLen dLen) a sLen sc news hl hB
  have hst := run_storeCells (P := P) (o := o) news 0 w cells hb (by simpa using hfit) h1
  simp only [Nat.add_zero, if_neg hn] at hst
  simp [Builtin.copy_, run_underlying ht, sizeOf, typeInfo, hi, Builtin.lenOf, hf', hst]
end Go.Proofs.Ytjcgnlpimefhpaa
/- slices.Insert and slices.Delete at a struct of four numbers: hand-proved from the library's text. (Types 49, 51, 3, 4 are the seat's numbers of []HelloEntry, HelloEntry, int, bool.) -/
namespace Go.Proofs.Ytjcgnlpimefhpaa
open Go.RowKit Go.Shelf Go.Lib
set_option maxRecDepth 100000
set_option linter.unusedVariables false
set_option linter.unusedSimpArgs false
theorem box_shape {w : World} {b T : Nat} {cs : List Value} (h : Box w b T cs) : w.shape? b = some (T, cs.length) := by
  unfold Box at h
  simp [World.shape?, h]
theorem box_frozen {w : World} {b T : Nat} {cs : List Value} (h : Box w b T cs) (o : Nat) : w.frozen? ⟨b, o, none⟩ = false := by
  unfold Box at h
  simp [World.frozen?, h]
theorem box_drew {w : World} {b T : Nat} {cs : List Value} (h : Box w b T cs) : Box w.drew b T cs := h
theorem insMixed : Try.prog.follows .mixedOrders = true := Checked.mixed Try.checked
set_option maxHeartbeats 4000000 in
theorem ins_room {b T c vb Tv cv n m i o vo : Nat} {cells vcells news olds : List Value} {w : World} (hb : Box w b T cells) (hvb : Box w vb Tv vcells) (hne : vb ≠ b)
    (hi : i < n) (hm : 0 < m) (hroom : n + m ≤ c) (h63 : n + m ≤ 9223372036854775807) (hlen : cells.length = o + c * 4)
    (holds : olds.length = (n - i) * 4) (hold : (cells.drop (o + i * 4)).take olds.length = olds) (hnews : news.length = m * 4) (hnew : (vcells.drop vo).take news.length = news)
    (h1o : (olds.all fun v => v.oneCell') = true) (h1n : (news.all fun v => v.oneCell') = true) :
    Calls Try.prog 207 #[.slice (some ⟨b, o, none⟩) n c, .int .i64 i, .slice (some ⟨vb, vo, none⟩) m cv] w fun e w' =>
      e = .returned (.slice (some ⟨b, o, none⟩) (n + m) c) ∧ w' = setBlk (setBlk w.drew b (.cells (splice cells (o + (i + m) * 4) olds).toArray T (0, 0))) b (.cells (splice (splice cells (o + (i + m) * 4) olds) (o + i * 4) news).toArray T (0, 0)) := by
  have hz1 : ¬ ((m : Int) = 0) := by omega
  have hz2 : ¬ ((i : Int) = (n : Int)) := by omega
  have hw1 : IntKind.i64.wrap ((i : Int) + (m : Int)) = (i : Int) + (m : Int) := by rw [IntKind.wrap_i64]; omega
  have hb1 : (0 : Int) ≤ (i : Int) + (m : Int) := by omega
  have hin : i ≤ n := by omega
  have htn : ((i : Int) + (m : Int)).toNat = i + m := by omega
  have hb2 : ¬ (c = i + m) := by omega
  have hb3 : (i : Int) ≤ (n : Int) + (m : Int) := by omega
  have hb4 : ¬ (c = i) := by omega
  have hov : ∀ lb cb, (callFunc 226 #[.slice (some ⟨vb, vo, none⟩) m cv, .slice (some ⟨b, o + (i + m) * 4, none⟩) lb cb]).run Try.prog w = .ok (.value (.bool false)) w := fun lb cb => by
    rw [run_callFunc_extern Try.func226 (by kernel_rfl) (by kernel_rfl) (by kernel_rfl) (e := Extern.SlicesOverlaps.overlaps #[49, 49] #[4]) (by kernel_rfl),
      Lib.run_overlaps_apart w 49 4 51 Try.underlying49 4 Try.sizeOf51 ⟨vb, vo, none⟩ ⟨b, o + (i + m) * 4, none⟩ m cv lb cb hne Tv T _ _ (box_shape hvb) (box_shape hb) (by omega) (box_frozen hvb _) (box_frozen hvb _)]
    rfl
  have hno : olds ≠ [] := fun h => by rw [h] at holds; simp at holds; omega
  have hnn : news ≠ [] := fun h => by rw [h] at hnews; simp at hnews; omega
  have hmin1 : Nat.min (n + m - i) (n + m - (i + m)) = n - i := by simp only [Nat.min_def]; split <;> omega
  have hmin2 : Nat.min m (n + m - i) = m := by simp only [Nat.min_def]; split <;> omega
  have mx := insMixed
  have hcp1 : ∀ ty dc sc, (Builtin.copy_ #[49, 49] ty #[.slice (some ⟨b, o + (i + m) * 4, none⟩) (n + m - (i + m)) dc, .slice (some ⟨b, o + i * 4, none⟩) (n + m - i) sc]).run Try.prog w.drew = .ok (goInt ((n - i : Nat) : Int)) (setBlk w.drew b (.cells (splice cells (o + (i + m) * 4) olds).toArray T (0, 0))) := fun ty dc sc => by
    have h := run_copyK (P := Try.prog) (w := w.drew) (t := 49) (t' := 49) (ty := ty) (el := 51) (dLen := n + m - (i + m)) (dc := dc) (sLen := n + m - i) (sc := sc) (a := ⟨b, o + i * 4, none⟩) (i := Try.t51) (news := olds) Try.underlying49 (by kernel_rfl) (box_drew hb) (o := o + (i + m) * 4)
      (by rw [hmin1, holds]; rfl) hno (fun j v hj => by rw [Addr.add_lit]; exact (box_drew hb).has _ _ hold j v hj) h1o (by rw [holds, hlen]; omega)
    rw [hmin1] at h; exact h
  obtain ⟨C1, hC1⟩ : ∃ C1, C1 = splice cells (o + (i + m) * 4) olds := ⟨_, rfl⟩
  rw [← hC1] at hcp1 ⊢
  have hC1l : C1.length = cells.length := by
    rw [hC1, splice]; simp only [List.length_append, List.length_take, List.length_drop]; omega
  obtain ⟨W1, hW1⟩ : ∃ W1, W1 = setBlk w.drew b (.cells C1.toArray T (0, 0)) := ⟨_, rfl⟩
  rw [← hW1] at hcp1 ⊢
  have hB1 : Box W1 b T C1 := by rw [hW1]; exact setBlk_box (box_drew hb).lt T C1
  have hV1 : Box W1 vb Tv vcells := by rw [hW1]; exact (box_drew hvb).congr ((setBlk_chg _ _ _).block _ (box_drew hvb).lt hne)
  have hcp2 : ∀ ty dc, (Builtin.copy_ #[49, 49] ty #[.slice (some ⟨b, o + i * 4, none⟩) (n + m - i) dc, .slice (some ⟨vb, vo, none⟩) m cv]).run Try.prog W1 = .ok (goInt m) (setBlk W1 b (.cells (splice C1 (o + i * 4) news).toArray T (0, 0))) := fun ty dc => by
    have h := run_copyK (P := Try.prog) (w := W1) (t := 49) (t' := 49) (ty := ty) (el := 51) (dLen := n + m - i) (dc := dc) (sLen := m) (sc := cv) (a := ⟨vb, vo, none⟩) (i := Try.t51) (news := news) Try.underlying49 (by kernel_rfl) hB1 (o := o + i * 4)
      (by rw [hmin2, hnews]; rfl) hnn (fun j v hj => by rw [Addr.add_lit]; exact hV1.has _ _ hnew j v hj) h1n (by rw [hnews, hC1l, hlen]; omega)
    rw [hmin2] at h; exact h
  subst hW1
  subst hC1
  go_enter Try.func207, Try.ntmps207
  go_wp2_with (simp only [hov])
  go_region_law_o (refine step_copy_runI rfl _ _ 49 49 rfl _ _ (by simp [Act.eval, Act.put]) (by simp [Act.eval, Act.put]) (hcp1 _ _ _) ?_)
  go_wp2_with (at_builtin; refine wpList_copy_runI _ rfl _ _ 49 49 rfl _ _ rfl rfl (hcp2 _ _) ?_)
  go_ret
  exact ⟨rfl, rfl⟩
theorem alloc_box {w : World} {T : Nat} (cs : List Value) : Box (w.alloc (.cells cs.toArray T (0, 0))) w.heap.size T cs := by
  show (w.heap.push _)[w.heap.size]? = _
  rw [Array.getElem?_push_size]
set_option maxHeartbeats 4000000 in
theorem ins_grow {b T c vb Tv cv n m i o vo : Nat} {cells vcells news olds1 olds2 : List Value} {w : World} (hb : Box w b T cells) (hvb : Box w vb Tv vcells)
    (hi : i < n) (hm : 0 < m) (hnc : n ≤ c) (hroom : c < n + m) (hbig : (n + m) * 32 ≤ 140737488355328)
    (ho1 : olds1.length = i * 4) (hold1 : (cells.drop o).take olds1.length = olds1) (holds : olds2.length = (n - i) * 4) (hold : (cells.drop (o + i * 4)).take olds2.length = olds2) (hnews : news.length = m * 4) (hnew : (vcells.drop vo).take news.length = news)
    (h1o : (olds2.all fun v => v.oneCell') = true) (h1n : (news.all fun v => v.oneCell') = true) :
    Calls Try.prog 207 #[.slice (some ⟨b, o, none⟩) n c, .int .i64 i, .slice (some ⟨vb, vo, none⟩) m cv] w fun e w' =>
      ∃ (G : Nat) (ROW : List Value), (∃ R : List Value, ROW = olds1 ++ R ∧ R.length = (G - i) * 4) ∧ n + m ≤ G ∧ e = .returned (.slice (some ⟨w.heap.size, 0, none⟩) (n + m) G) ∧
        w' = setBlk (setBlk (w.alloc (.cells ROW.toArray 51 (0, 0))).drew w.heap.size (.cells (splice ROW (i * 4) news).toArray 51 (0, 0))).drew w.heap.size (.cells (splice (splice ROW (i * 4) news) ((i + m) * 4) olds2).toArray 51 (0, 0)) := by
  obtain ⟨G, hG⟩ : ∃ G, G = grownCap w (n + m) c 51 := ⟨_, rfl⟩
  have hGn : n + m ≤ G := by rw [hG]; exact grownCap_ge w _ _ _
  obtain ⟨R, hR⟩ : ∃ R : List Value, R = (Builtin.zeroCells #[Value.int IntKind.i64 0, Value.int IntKind.i64 0, Value.int IntKind.i64 0, Value.int IntKind.i64 0] (n + m - i)).toList ++ (Builtin.zeroCells #[Value.int IntKind.i64 0, Value.int IntKind.i64 0, Value.int IntKind.i64 0, Value.int IntKind.i64 0] (G - (n + m))).toList := ⟨_, rfl⟩
  have hRl : R.length = (G - i) * 4 := by
    rw [hR]; simp [Builtin.zeroCells]; omega
  obtain ⟨ROW, hROW⟩ : ∃ ROW : List Value, ROW = olds1 ++ R := ⟨_, rfl⟩
  have hROWl : ROW.length = G * 4 := by rw [hROW, List.length_append, ho1, hRl]; omega
  have hkk : (n : Int) + (m : Int) - (i : Int) = ((n + m - i : Nat) : Int) := by omega
  have hik : i + (n + m - i) = n + m := by omega
  have hof : (Builtin.firstCells Try.t51.size i (.slice (some ⟨b, o, none⟩) i c)).run Try.prog w.drew = .ok olds1.toArray w.drew :=
    run_firstCells_some w.drew 4 i ⟨b, o, none⟩ i c olds1 ho1 (fun j v hj => by rw [Addr.add_lit]; exact (box_drew hb).has _ _ hold1 j v hj)
  have hrz : ∀ ty, (Builtin.append_ #[49, 3] ty #[.slice (some ⟨b, o, none⟩) i c, .int .i64 ((n : Int) + (m : Int) - (i : Int))]).run Try.prog w =
      .ok (.slice (some ⟨w.heap.size, 0, none⟩) (n + m) G) (w.drew.alloc (.cells ROW.toArray 51 (0, 0))) := fun ty => by
    have h := Lib.run_append_grow_zeros (P := Try.prog) w 49 3 ty 51 Try.t51 (.agg #[Value.int IntKind.i64 0, Value.int IntKind.i64 0, Value.int IntKind.i64 0, Value.int IntKind.i64 0]) .i64 .i64 Try.underlying49 Try.underlying3 (by kernel_rfl) (by kernel_rfl) (some ⟨b, o, none⟩) i c olds1 hof (n + m - i) (by omega) (by show 0 < 4; omega) (by omega) (by omega)
      (by show (n + m - i) * 32 ≤ _; omega) (by rw [hik]; exact growslice_fits hroom hbig)
    rw [hik, ← hG] at h
    rw [hkk, h, hROW, hR]
    congr 3
    apply Array.ext'
    simp [List.append_assoc, Value.cells]
  clear hof hR
  have hno : olds2 ≠ [] := fun h => by rw [h] at holds; simp at holds; omega
  have hnn : news ≠ [] := fun h => by rw [h] at hnews; simp at hnews; omega
  have hmin1 : Nat.min m (n + m - i) = m := by simp only [Nat.min_def]; split <;> omega
  have hmin2 : Nat.min (n - i) (n + m - (i + m)) = n - i := by simp only [Nat.min_def]; split <;> omega
  have hbl := hb.lt
  have hvl := hvb.lt
  obtain ⟨W1, hW1⟩ : ∃ W1, W1 = (w.alloc (.cells ROW.toArray 51 (0, 0))).drew := ⟨_, rfl⟩
  have hB1 : Box W1 w.heap.size 51 ROW := by rw [hW1]; exact alloc_box (w := w) ROW
  have hbel : Bel w.heap.size w W1 := by rw [hW1]; exact ⟨⟨rfl, rfl, rfl, (by show w.heap.size ≤ (w.heap.push _).size; simp), fun k hk => (by show (w.heap.push _)[k]? = w.heap[k]?; simp [Array.getElem?_push, Nat.ne_of_lt hk])⟩, Nat.le_succ _⟩
  have hV1 : Box W1 vb Tv vcells := hvb.congr (hbel.block _ hvl)
  have hO1 : Box W1 b T cells := hb.congr (hbel.block _ hbl)
  have hcpA : ∀ ty dc, (Builtin.copy_ #[49, 49] ty #[.slice (some ⟨w.heap.size, i * 4, none⟩) (n + m - i) dc, .slice (some ⟨vb, vo, none⟩) m cv]).run Try.prog W1 = .ok (goInt (m : Int)) (setBlk W1 w.heap.size (.cells (splice ROW (i * 4) news).toArray 51 (0, 0))) := fun ty dc => by
    have h := run_copyK (P := Try.prog) (w := W1) (t := 49) (t' := 49) (ty := ty) (el := 51) (dLen := n + m - i) (dc := dc) (sLen := m) (sc := cv) (a := ⟨vb, vo, none⟩) (i := Try.t51) (news := news) Try.underlying49 (by kernel_rfl) hB1 (o := i * 4)
      (by rw [hmin1, hnews]; rfl) hnn (fun j v hj => by rw [Addr.add_lit]; exact hV1.has _ _ hnew j v hj) h1n (by rw [hnews, hROWl]; omega)
    rw [hmin1] at h; exact h
  obtain ⟨C2, hC2⟩ : ∃ C2, C2 = splice ROW (i * 4) news := ⟨_, rfl⟩
  have hC2l : C2.length = ROW.length := by
    rw [hC2, splice]; simp only [List.length_append, List.length_take, List.length_drop]; omega
  rw [← hC2] at hcpA
  obtain ⟨W2, hW2⟩ : ∃ W2, W2 = setBlk W1 w.heap.size (.cells C2.toArray 51 (0, 0)) := ⟨_, rfl⟩
  rw [← hW2] at hcpA
  have hB2 : Box W2.drew w.heap.size 51 C2 := by rw [hW2]; exact setBlk_box (w := W1) hB1.lt 51 C2
  have hO2 : Box W2.drew b T cells := by rw [hW2]; exact hO1.congr ((setBlk_chg _ _ _).block _ hO1.lt (Nat.ne_of_lt hbl))
  have hcpB : ∀ ty dc sc, (Builtin.copy_ #[49, 49] ty #[.slice (some ⟨w.heap.size, (i + m) * 4, none⟩) (n + m - (i + m)) dc, .slice (some ⟨b, o + i * 4, none⟩) (n - i) sc]).run Try.prog W2.drew = .ok (goInt ((n - i : Nat) : Int)) (setBlk W2.drew w.heap.size (.cells (splice C2 ((i + m) * 4) olds2).toArray 51 (0, 0))) := fun ty dc sc => by
    have h := run_copyK (P := Try.prog) (w := W2.drew) (t := 49) (t' := 49) (ty := ty) (el := 51) (dLen := n + m - (i + m)) (dc := dc) (sLen := n - i) (sc := sc) (a := ⟨b, o + i * 4, none⟩) (i := Try.t51) (news := olds2) Try.underlying49 (by kernel_rfl) hB2 (o := (i + m) * 4)
      (by rw [hmin2, holds]; rfl) hno (fun j v hj => by rw [Addr.add_lit]; exact hO2.has _ _ hold j v hj) h1o (by rw [holds, hC2l, hROWl]; omega)
    rw [hmin2] at h; exact h
  have hGi : ¬ (G = i) := by omega
  have hGim : ¬ (G = i + m) := by omega
  have hci : ¬ (c = i) := by omega
  have hz1 : ¬ ((m : Int) = 0) := by omega
  have hz2 : ¬ ((i : Int) = (n : Int)) := by omega
  have hz3 : (c : Int) < (n : Int) + (m : Int) := by omega
  have hw1 : IntKind.i64.wrap ((i : Int) + (m : Int)) = (i : Int) + (m : Int) := by rw [IntKind.wrap_i64]; omega
  have hb1 : (0 : Int) ≤ (i : Int) + (m : Int) := by omega
  have hin : i ≤ n := by omega
  have htn : ((i : Int) + (m : Int)).toNat = i + m := by omega
  have hb3 : (i : Int) ≤ (n : Int) := by omega
  have mx := insMixed
  subst hW2
  subst hC2
  subst hW1
  have hfin : ∃ R : List Value, ROW = olds1 ++ R ∧ R.length = (G - i) * 4 := ⟨R, hROW, hRl⟩
  clear hkk hik hG hROW hRl
  go_enter Try.func207, Try.ntmps207
  go_wp2_with (first
    | (at_builtin; refine Lib.wpList_append_run _ rfl _ _ _ _ rfl _ _ rfl rfl _ _ (hrz _) ?_)
    | (at_builtin; refine wpList_copy_runI _ rfl _ _ 49 49 rfl _ _ rfl rfl (hcpA _ _) ?_))
  go_region_law_o (refine step_copy_runI rfl _ _ 49 49 rfl _ _ (by simp [Act.eval, Act.put]) (by simp [Act.eval, Act.put]) (hcpB _ _ _) ?_)
  go_wp2
  go_ret
  exact ⟨G, ROW, hfin, hGn, rfl, rfl⟩
set_option maxHeartbeats 4000000 in
theorem ins_end {a : Option Addr} {n c m cv : Nat} {ay : Option Addr} {rv : Value} {w w2 : World} (hm : 0 < m) (hnc : n ≤ c) (hr : (Builtin.append_ #[49, 49] 49 #[.slice a n c, .slice ay m cv]).run Try.prog w = .ok rv w2) :
    Calls Try.prog 207 #[.slice a n c, .int .i64 n, .slice ay m cv] w fun e w' => e = .returned rv ∧ w' = w2 := by
  have hz1 : ¬ ((m : Int) = 0) := by omega
  have mx := insMixed
  go_enter Try.func207, Try.ntmps207
  go_wp2_with (at_builtin; refine Lib.wpList_append_run _ rfl _ _ _ _ rfl _ _ rfl rfl _ _ hr ?_)
  all_goals (go_ret; exact ⟨rfl, rfl⟩)
theorem splice_mid (L1 M L2 X : List Value) (h : M.length = X.length) : splice (L1 ++ M ++ L2) L1.length X = L1 ++ X ++ L2 := by
  unfold splice
  rw [List.append_assoc L1 M L2, List.take_left, ← List.drop_drop, List.drop_left, ← h, List.drop_left]
theorem splice_shift (A P Q R V : List Value) (hR : V.length ≤ R.length) :
    splice (splice (A ++ P ++ Q ++ R) (A.length + P.length + V.length) Q) (A.length + P.length) V = A ++ P ++ V ++ Q ++ R.drop V.length := by
  have e1 : A ++ P ++ Q ++ R = (A ++ P ++ (Q ++ R).take V.length) ++ ((Q ++ R).drop V.length).take Q.length ++ R.drop V.length := by
    have h1 : ((Q ++ R).drop V.length).drop Q.length = R.drop V.length := by
      rw [List.drop_drop, Nat.add_comm, ← List.drop_drop, List.drop_left]
    rw [List.append_assoc (A ++ P ++ (Q ++ R).take V.length), ← h1, List.take_append_drop]
    simp only [List.append_assoc, List.take_append_drop]
  have l1 : (A ++ P ++ (Q ++ R).take V.length).length = A.length + P.length + V.length := by
    simp only [List.length_append, List.length_take]; omega
  have l2 : (((Q ++ R).drop V.length).take Q.length).length = Q.length := by
    simp only [List.length_append, List.length_take, List.length_drop]; omega
  rw [e1, ← l1, splice_mid _ _ _ _ l2]
  have l3 : ((Q ++ R).take V.length).length = V.length := by simp only [List.length_append, List.length_take]; omega
  have e2 : A ++ P ++ (Q ++ R).take V.length ++ Q ++ R.drop V.length = (A ++ P) ++ (Q ++ R).take V.length ++ (Q ++ R.drop V.length) := by simp only [List.append_assoc]
  have l4 : A.length + P.length = (A ++ P).length := by rw [List.length_append]
  rw [e2, l4, splice_mid _ _ _ _ l3]
  simp only [List.append_assoc]
theorem splice_new (P Q R V : List Value) (hR : V.length + Q.length ≤ R.length) :
    splice (splice (P ++ R) P.length V) (P.length + V.length) Q = P ++ V ++ Q ++ R.drop (V.length + Q.length) := by
  have e1 : P ++ R = P ++ R.take V.length ++ R.drop V.length := by rw [List.append_assoc, List.take_append_drop]
  have l1 : (R.take V.length).length = V.length := by rw [List.length_take]; omega
  rw [e1, splice_mid _ _ _ _ l1]
  have e2 : P ++ V ++ R.drop V.length = (P ++ V) ++ (R.drop V.length).take Q.length ++ R.drop (V.length + Q.length) := by
    rw [← List.drop_drop, List.append_assoc (P ++ V), List.take_append_drop]
  have l2 : ((R.drop V.length).take Q.length).length = Q.length := by rw [List.length_take, List.length_drop]; omega
  have l3 : P.length + V.length = (P ++ V).length := by rw [List.length_append]
  rw [e2, l3, splice_mid _ _ _ _ l2]
theorem Chg.andThen {C : Nat → Prop} {w1 w2 w3 : World} (h : Chg C w1 w2) (k : Chg C w2 w3) : Chg C w1 w3 :=
  ⟨k.os.trans h.os, k.tape.trans h.tape, k.output.trans h.output, Nat.le_trans h.size k.size, fun i hi hn => (k.block i (Nat.lt_of_lt_of_le hi h.size) hn).trans (h.block i hi hn), Nat.le_trans h.drawn k.drawn⟩
theorem Chg.drew1 (C : Nat → Prop) (w : World) : Chg C w w.drew := ⟨rfl, rfl, rfl, Nat.le_refl _, fun _ _ _ => rfl, Nat.le_succ _⟩
theorem insert_ok {α : Type} [Inhabited α] (e : α → List Dat) (he : Plain 4 e) (xs vs : List α) (i : Int) :
    Spec.ok Try.prog 207 ⟨[.ow (.l 4 e xs) none, .r (.c (.v (.int .i64 i))), .ow (.l 4 e vs) none], .ow (.l 4 e (xs.take i.toNat ++ vs ++ xs.drop i.toNat)), 0 ≤ i ∧ i ≤ (xs.length : Int) ∧ 1 ≤ vs.length ∧ xs.length ≤ 1000000000 ∧ vs.length ≤ 1000000000⟩ := by
  intro ⟨h0, h1, hv, hl1, hl2⟩ S w args fp hS hA
  obtain ⟨u, us, f, g, rfl, hO, ⟨u2, us2, f2, g2, rfl, ⟨⟨rfl, _⟩, rfl⟩, ⟨u3, us3, f3, g3, rfl, hV, ⟨rfl, rfl⟩, rfl, _⟩, rfl, _⟩, rfl, hnd⟩ := hA
  obtain ⟨k, rfl⟩ := Int.eq_ofNat_of_zero_le h0
  simp only [List.append_nil, List.nil_append, Int.toNat_natCast] at *
  have hk : k ≤ xs.length := by omega
  have hvn : vs ≠ [] := fun h => by rw [h] at hv; simp at hv
  obtain ⟨vb, Tv, cv, Av, Rv, rfl, rfl, hvb, hvR, hvc, hv63⟩ := own_flat he hV hvn
  have hbeh : ∀ w', BehsOK w' [.ow (.l 4 e xs) none, .r (.c (.v (.int .i64 (k : Int)))), .ow (.l 4 e vs) none] [u, .int .i64 (k : Int), .slice (some ⟨vb, Av.length, none⟩) vs.length cv] [] := fun w' =>
    ⟨_, _, [], [], rfl, rfl, ⟨_, _, [], [], rfl, rfl, ⟨_, _, [], [], rfl, rfl, rfl, rfl⟩, rfl⟩, rfl⟩
  have hnewt : ((Av ++ flat e vs ++ Rv).drop Av.length).take (flat e vs).length = flat e vs := by
    rw [List.append_assoc, List.drop_left, List.take_left]
  have hnl : (flat e vs).length = vs.length * 4 := flat_len he vs
  have hyl : (xs.take k ++ vs ++ xs.drop k).length = xs.length + vs.length := by
    simp only [List.length_append, List.length_take, List.length_drop]; omega
  by_cases hkn : k = xs.length
  · -- at the end
    subst hkn
    have hO' := hO
    obtain ⟨a, c, rfl, hc, h63, _⟩ := hO
    have hE : AppEl 4 e w vs (List.replicate vs.length []) (flat e vs) := ⟨hnl, by simp, fun j y gg hy hg => by
        have : gg = [] := by
          rw [List.getElem?_replicate] at hg
          split at hg
          · cases hg; rfl
          · cases hg
        rw [flat_get he vs j y hy, this]
        exact ⟨he.len y, (ow_plain (he y).2).2 ⟨rfl, rfl⟩⟩, by simp, flat_all he vs⟩
    obtain ⟨a', c', fp', w', hrun, ho, hch, hf⟩ := run_append (P := Try.prog) (w := w) (ty := 49) (cy := cv) (ay := some ⟨vb, Av.length, none⟩) Try.underlying49 (inf := Try.t51) (e := 51) (by kernel_rfl) (z := .agg #[Value.int IntKind.i64 0, Value.int IntKind.i64 0, Value.int IntKind.i64 0, Value.int IntKind.i64 0]) (by kernel_rfl) (sz := 4) (by kernel_rfl) (by kernel_rfl) (by omega) hO' hE (fun h => by cases h) (fun ad had j v hj => by cases had; rw [Addr.add_lit]; exact hvb.has _ _ hnewt j v hj) (fun b hb => by simp at hb) (by omega) (by show (xs.length + vs.length) * 32 ≤ _; omega)
    have hxy : xs.take xs.length ++ vs ++ xs.drop xs.length = xs ++ vs := by simp
    refine (ins_end (by omega) hc hrun).mono fun e' w2 ⟨h1', h2'⟩ => ⟨_, fp', [], h1', ?_, hbeh _, ?_, fun b hb => ?_, ?_⟩
    · rw [h2', hxy]; exact ho
    · obtain ⟨b, T, c2, A, R, _, rfl, _⟩ := own_flat he ho (by simp [hvn])
      simp
    · rw [List.append_nil] at hb
      rw [h2']
      refine ⟨OwV.lt _ _ _ ho b hb, ?_⟩
      rcases hf b hb with h | h | h
      · exact .inl (List.mem_append_left _ h)
      · simp at h
      · exact .inr h
    · rw [h2']; exact hch.mono fun q _ hq => List.mem_append_left _ hq
  · have hlt : k < xs.length := by omega
    have hxn : xs ≠ [] := fun h => by rw [h] at hlt; simp at hlt
    obtain ⟨b, T, c, A, R, rfl, rfl, hb, hR, hc, h63⟩ := own_flat he hO hxn
    have hne : vb ≠ b := fun h => by subst h; simp at hnd
    have hxl : (flat e xs).length = xs.length * 4 := flat_len he xs
    have hsp : flat e xs = flat e (xs.take k) ++ flat e (xs.drop k) := by rw [← flat_app, List.take_append_drop]
    have hpl : (flat e (xs.take k)).length = k * 4 := by rw [flat_len he, List.length_take, Nat.min_eq_left hk]
    have hql : (flat e (xs.drop k)).length = (xs.length - k) * 4 := by rw [flat_len he, List.length_drop]
    have hcl : (A ++ flat e xs ++ R).length = A.length + c * 4 := by
      simp only [List.length_append, hxl, hR]; omega
    have hold : ((A ++ flat e xs ++ R).drop (A.length + k * 4)).take (flat e (xs.drop k)).length = flat e (xs.drop k) := by
      rw [List.append_assoc, ← List.drop_drop, List.drop_left, hsp, List.append_assoc, ← hpl, List.drop_left, List.take_left]
    have hold1 : ((A ++ flat e xs ++ R).drop A.length).take (flat e (xs.take k)).length = flat e (xs.take k) := by
      rw [List.append_assoc, List.drop_left, hsp, List.append_assoc, List.take_left]
    by_cases hroom : xs.length + vs.length ≤ c
    · refine (ins_room hb hvb hne hlt (by omega) hroom (by omega) hcl hql hold hnl hnewt (flat_all he _) (flat_all he _)).mono fun e' w2 ⟨h1', h2'⟩ => ?_
      have hsh : splice (splice (A ++ flat e xs ++ R) (A.length + (k + vs.length) * 4) (flat e (xs.drop k))) (A.length + k * 4) (flat e vs) = A ++ flat e (xs.take k ++ vs ++ xs.drop k) ++ R.drop (vs.length * 4) := by
        have h := splice_shift A (flat e (xs.take k)) (flat e (xs.drop k)) R (flat e vs) (by rw [hnl, hR]; omega)
        rw [hpl, hnl] at h
        have p1 : A.length + (k + vs.length) * 4 = A.length + k * 4 + vs.length * 4 := by omega
        have p2 : A ++ flat e xs ++ R = A ++ flat e (xs.take k) ++ flat e (xs.drop k) ++ R := by rw [hsp]; simp only [List.append_assoc]
        rw [p1, p2, h, flat_app, flat_app]
        simp only [List.append_assoc]
      have hbx : Box w2 b T (A ++ flat e (xs.take k ++ vs ++ xs.drop k) ++ R.drop (vs.length * 4)) := by
        rw [h2', ← hsh]
        exact setBlk_box (w := setBlk w.drew b _) (by show b < (w.heap.setIfInBounds _ _).size; rw [Array.size_setIfInBounds]; exact hb.lt) T _
      have hch : Chg (· = b) w w2 := by
        rw [h2']
        exact (Chg.drew1 _ w).andThen ((setBlk_chg _ _ _).andThen (setBlk_chg _ _ _))
      refine ⟨_, [b], [], h1', ?_, hbeh _, by simp, fun q hq => ?_, hch.mono fun q _ hq => by subst hq; simp⟩
      · have := flat_own he (c := c) hbx (by rw [List.length_drop, hR, hyl]; omega) (by rw [hyl]; exact hroom) (by rw [hyl]; omega)
        rw [hyl] at this
        exact this
      · have : q = b := by simpa using hq
        subst this
        exact ⟨hbx.lt, .inl (by simp)⟩
    · refine (ins_grow hb hvb hlt (by omega) hc (by omega) (by omega) hpl hold1 hql hold hnl hnewt (flat_all he _) (flat_all he _)).mono fun e' w2 ⟨G, ROW, ⟨R2, hROW, hR2⟩, hG, h1', h2'⟩ => ?_
      have hsh : splice (splice ROW (k * 4) (flat e vs)) ((k + vs.length) * 4) (flat e (xs.drop k)) = [] ++ flat e (xs.take k ++ vs ++ xs.drop k) ++ R2.drop (vs.length * 4 + (xs.length - k) * 4) := by
        have h := splice_new (flat e (xs.take k)) (flat e (xs.drop k)) R2 (flat e vs) (by rw [hnl, hql, hR2]; omega)
        rw [hpl, hnl, hql] at h
        have p1 : (k + vs.length) * 4 = k * 4 + vs.length * 4 := by omega
        rw [hROW, p1, h, flat_app, flat_app]
        simp only [List.nil_append, List.append_assoc]
      have hbx : Box w2 w.heap.size 51 ([] ++ flat e (xs.take k ++ vs ++ xs.drop k) ++ R2.drop (vs.length * 4 + (xs.length - k) * 4)) := by
        rw [h2', ← hsh]
        exact setBlk_box (by show w.heap.size < ((w.heap.push _).setIfInBounds _ _).size; rw [Array.size_setIfInBounds, Array.size_push]; omega) 51 _
      have hch : Chg (fun q => w.heap.size ≤ q) w w2 := by
        rw [h2']
        refine Chg.andThen (w2 := (w.alloc (.cells ROW.toArray 51 (0, 0))).drew) ?_ (((setBlk_chg _ _ _).andThen ((Chg.drew1 _ _).andThen (setBlk_chg _ _ _))).mono fun q _ hq => by subst hq; exact Nat.le_refl _)
        exact Chg.of_below ⟨⟨rfl, rfl, rfl, (by show w.heap.size ≤ (w.heap.push _).size; simp), fun k hk => (by show (w.heap.push _)[k]? = w.heap[k]?; simp [Array.getElem?_push, Nat.ne_of_lt hk])⟩, Nat.le_succ _⟩
      refine ⟨_, [w.heap.size], [], h1', ?_, hbeh _, by simp, fun q hq => ?_, hch.mono fun q hq1 hq => absurd hq1 (by omega)⟩
      · have := flat_own he (c := G) (A := []) hbx (by rw [List.length_drop, hR2, hyl]; omega) (by rw [hyl]; exact hG) (by rw [hyl]; omega)
        rw [hyl] at this
        exact this
      · have : q = w.heap.size := by simpa using hq
        subst this
        exact ⟨hbx.lt, .inr (Nat.le_refl _)⟩
theorem step_app_runI {P : Program} {ops : Array Oper} {o : Oper} {a : Act} {w : World} {K : Act → World → Prop} {Q : Exit → Act → World → Prop} {E : Prop}
    (hg : o.guard = none) (d x : Operand) (dT sT : TypeId) (hop : o.op = Op.call { callee := Callee.builtin Builtin.append, args := #[d, x], argTypes := #[dT, sT] })
    (v u : Value) (hd : a.eval d = v) (hx : a.eval x = u) {v' : Value} {w' : World} (hr : (Builtin.append_ #[dT, sT] o.type #[v, u]).run P w = .ok v' w') (hK : K (a.put o.dst v') w') :
    if Region.wanted o (yielded ops a.tmps) = true then Oper.wp P o a w K Q else E := by
  have hw : Region.wanted o (yielded ops a.tmps) = true := by simp [Region.wanted, hg]
  rw [if_pos hw]
  unfold Oper.wp
  simp [execOp, hop, resolve, invoke, builtin, hd, hx, hr, Result.andThen]
  exact hK
theorem wp_clear_runI {P : Program} (w : World) {o : Oper} {a : Act} {K : Act → World → Prop} {Q : Exit → Act → World → Prop} (d : Operand) (t : TypeId)
    (ho : o.op = .call { callee := .builtin .clear, args := #[d], argTypes := #[t] }) (v : Value) (hd : a.eval d = v) {v' : Value} {w' : World}
    (hr : (Builtin.clear_ #[t] o.type #[v]).run P w = .ok v' w') (h : K (a.put o.dst v') w') : o.wp P a w K Q := by
  unfold Oper.wp execOp
  simp only [ho, resolve, invoke, builtin, Sem.run_bind, Sem.run_pure, Result.andThen_ok, List.map_toArray, List.map_cons, List.map_nil, hd, hr]
  exact h
theorem wpList_clear_runI {P : Program} (w : World) {ops : Array Oper} {rest : List Oper} {o : Oper} {a : Act} {Q : Exit → Act → World → Prop} (hgd : o.guard = none) (d : Operand) (t : TypeId)
    (ho : o.op = .call { callee := .builtin .clear, args := #[d], argTypes := #[t] }) (v : Value) (hd : a.eval d = v) {v' : Value} {w' : World}
    (hr : (Builtin.clear_ #[t] o.type #[v]).run P w = .ok v' w') (h : wpList P ops Q rest (a.put o.dst v') w') : wpList P ops Q (o :: rest) a w :=
  wpList_plain hgd fun _ hK => wp_clear_runI w d t ho v hd hr (hK _ _ h)
set_option maxHeartbeats 4000000 in
theorem del_walk {b o n c i j : Nat} {A : Option Addr} {w W1 W2 : World} (hij : i < j) (hjn : j ≤ n) (hnc : n ≤ c) (hA : A = if c = j then some ⟨b, o, none⟩ else some ⟨b, o + j * 4, none⟩)
    (hr : ∀ ty, (Builtin.append_ #[49, 49] ty #[.slice (some ⟨b, o, none⟩) i c, .slice A (n - j) (c - j)]).run Try.prog w.drew = .ok (.slice (some ⟨b, o, none⟩) (i + (n - j)) c) W1)
    (hcl : ∀ ty, (Builtin.clear_ #[49] ty #[.slice (some ⟨b, o + (i + (n - j)) * 4, none⟩) (n - (i + (n - j))) (c - (i + (n - j)))]).run Try.prog W1 = .ok (.tuple #[]) W2) :
    Calls Try.prog 208 #[.slice (some ⟨b, o, none⟩) n c, .int .i64 i, .int .i64 j] w fun e w' => e = .returned (.slice (some ⟨b, o, none⟩) (i + (n - j)) c) ∧ w' = W2 := by
  have hne : ¬ i = j := by omega
  have hic : i ≤ c := by omega
  have hjc : j ≤ c := by omega
  have hx : ¬ c = i + (n - j) := by omega
  have hy : i + (n - j) ≤ n := by omega
  have hij' : i ≤ j := by omega
  have hin : i ≤ n := by omega
  have mx := insMixed
  by_cases hcj : c = j
  · rw [if_pos hcj] at hA
    subst hA
    subst hcj
    obtain rfl : c = n := by omega
    simp only [Nat.sub_self, Nat.add_zero] at hr hcl hx hy ⊢
    go_enter Try.func208, Try.ntmps208
    go_wp2
    go_region_law_o (refine step_app_runI rfl (.tmp 22) (.tmp 25) 49 49 rfl (.slice (some ⟨b, o, none⟩) i c) (.slice (some ⟨b, o, none⟩) 0 0) (by simp [Act.eval, Act.put]) (by simp [Act.eval, Act.put]) (hr _) ?_)
    go_wp2_with (at_builtin; refine wpList_clear_runI _ rfl _ 49 rfl _ rfl (hcl _) ?_)
    go_ret
    exact ⟨rfl, rfl⟩
  · rw [if_neg hcj] at hA
    subst hA
    go_enter Try.func208, Try.ntmps208
    go_wp2
    go_region_law_o (refine step_app_runI rfl (.tmp 22) (.tmp 25) 49 49 rfl (.slice (some ⟨b, o, none⟩) i c) (.slice (some ⟨b, o + j * 4, none⟩) (n - j) (c - j)) (by simp [Act.eval, Act.put]) (by simp [Act.eval, Act.put, hcj]) (hr _) ?_)
    go_wp2_with (at_builtin; refine wpList_clear_runI _ rfl _ 49 rfl _ rfl (hcl _) ?_)
    go_ret
    exact ⟨rfl, rfl⟩
theorem del_same {a : Option Addr} {n c i : Nat} {w : World} (hin : i ≤ n) (hnc : n ≤ c) :
    Calls Try.prog 208 #[.slice a n c, .int .i64 i, .int .i64 i] w fun e w' => e = .returned (.slice a n c) ∧ w' = w := by
  have mx := insMixed
  go_enter Try.func208, Try.ntmps208
  go_wp2
  all_goals (go_ret; exact ⟨rfl, rfl⟩)
theorem splice_del (A P M Q R Z : List Value) (hZ : Z.length = M.length) :
    splice (splice (A ++ P ++ M ++ Q ++ R) (A.length + P.length) Q) (A.length + P.length + Q.length) Z = A ++ P ++ Q ++ Z ++ R := by
  have e1 : A ++ P ++ M ++ Q ++ R = (A ++ P) ++ (M ++ Q).take Q.length ++ ((M ++ Q).drop Q.length ++ R) := by
    simp only [List.append_assoc]
    rw [← List.append_assoc ((M ++ Q).take Q.length), List.take_append_drop]
    simp only [List.append_assoc]
  have l0 : A.length + P.length = (A ++ P).length := by rw [List.length_append]
  have l1 : ((M ++ Q).take Q.length).length = Q.length := by rw [List.length_take, List.length_append]; omega
  have l2 : ((M ++ Q).drop Q.length).length = Z.length := by rw [List.length_drop, List.length_append]; omega
  rw [e1, l0, splice_mid _ _ _ _ l1]
  have e2 : A ++ P ++ Q ++ ((M ++ Q).drop Q.length ++ R) = (A ++ P ++ Q) ++ (M ++ Q).drop Q.length ++ R := by simp only [List.append_assoc]
  have l3 : (A ++ P).length + Q.length = (A ++ P ++ Q).length := by simp only [List.length_append]
  rw [e2, l3, splice_mid _ _ _ _ l2]
theorem run_clearK {P : Program} {w : World} {t ty el b o T n c : Nat} {i : TypeInfo} {z : Value} {cells : List Value} (ht : P.underlying t = some (.slice el)) (hi : P.info? el = some i) (hz : i.zero = some z) (hb : Box w b T cells) (hn : 0 < n)
    (h1 : ((Builtin.zeroCells z.cells n).toList.all fun v => v.oneCell') = true) (hne : (Builtin.zeroCells z.cells n).toList ≠ []) (hfit : o + (Builtin.zeroCells z.cells n).toList.length ≤ cells.length) :
    (Builtin.clear_ #[t] ty #[.slice (some ⟨b, o, none⟩) n c]).run P w = .ok (.tuple #[]) (setBlk w b (.cells (splice cells o (Builtin.zeroCells z.cells n).toList).toArray T (0, 0))) := by
  have hst := run_storeCells (P := P) (o := o) (Builtin.zeroCells z.cells n).toList 0 w cells hb (by simpa using hfit) h1
  simp only [Nat.add_zero, if_neg hne] at hst
  cases n with
  | zero => omega
  | succ n => simp [Builtin.clear_, run_underlying ht, zeroValue, typeInfo, hi, hz, hst]
theorem zero_one (n : Nat) : ((Builtin.zeroCells (Value.agg #[Value.int IntKind.i64 0, Value.int IntKind.i64 0, Value.int IntKind.i64 0, Value.int IntKind.i64 0]).cells n).toList.all fun v => v.oneCell') = true := by
  have e : (Value.agg #[Value.int IntKind.i64 0, Value.int IntKind.i64 0, Value.int IntKind.i64 0, Value.int IntKind.i64 0]).cells = #[Value.int IntKind.i64 0, Value.int IntKind.i64 0, Value.int IntKind.i64 0, Value.int IntKind.i64 0] := by simp [Value.cells]
  rw [e]
  refine List.all_eq_true.2 fun v hv => ?_
  simp only [Builtin.zeroCells, Array.mem_toList_iff, Array.mem_map] at hv
  obtain ⟨q, _, rfl⟩ := hv
  have hq : q % 4 < 4 := Nat.mod_lt _ (by omega)
  show (#[Value.int IntKind.i64 0, Value.int IntKind.i64 0, Value.int IntKind.i64 0, Value.int IntKind.i64 0][q % 4]!).oneCell' = true
  generalize q % 4 = r at hq
  match r, hq with
  | 0, _ => rfl
  | 1, _ => rfl
  | 2, _ => rfl
  | 3, _ => rfl
theorem delete_ok {α : Type} [Inhabited α] (e : α → List Dat) (he : Plain 4 e) (xs : List α) (i j : Int) :
    Spec.ok Try.prog 208 ⟨[.ow (.l 4 e xs) none, .r (.c (.v (.int .i64 i))), .r (.c (.v (.int .i64 j)))], .ow (.l 4 e (xs.take i.toNat ++ xs.drop j.toNat)), 0 ≤ i ∧ i ≤ j ∧ j ≤ (xs.length : Int)⟩ := by
  intro ⟨h0, h1, h2⟩ S w args fp hS hA
  obtain ⟨u, us, f, g, rfl, hO, ⟨u2, us2, f2, g2, rfl, ⟨⟨rfl, _⟩, rfl⟩, ⟨u3, us3, f3, g3, rfl, ⟨⟨rfl, _⟩, rfl⟩, ⟨rfl, rfl⟩, rfl, _⟩, rfl, _⟩, rfl, hnd⟩ := hA
  obtain ⟨k, rfl⟩ := Int.eq_ofNat_of_zero_le h0
  obtain ⟨l, rfl⟩ := Int.eq_ofNat_of_zero_le (Int.le_trans h0 h1)
  simp only [List.append_nil, List.nil_append, Int.toNat_natCast] at *
  have hkl : k ≤ l := by omega
  have hl : l ≤ xs.length := by omega
  have hbeh : ∀ w', BehsOK w' [.ow (.l 4 e xs) none, .r (.c (.v (.int .i64 (k : Int)))), .r (.c (.v (.int .i64 (l : Int))))] [u, .int .i64 (k : Int), .int .i64 (l : Int)] [] := fun w' =>
    ⟨_, _, [], [], rfl, rfl, ⟨_, _, [], [], rfl, rfl, ⟨_, _, [], [], rfl, rfl, rfl, rfl⟩, rfl⟩, rfl⟩
  by_cases hkl' : k = l
  · subst hkl'
    have hO' := hO
    obtain ⟨a, c, rfl, hc, h63, _⟩ := hO
    refine (del_same hl hc).mono fun e' w2 ⟨h1', h2'⟩ => ⟨_, f, [], h1', ?_, hbeh _, by simpa using hnd, fun b hb => ?_, ?_⟩
    · rw [h2', List.take_append_drop]; exact hO'
    · rw [List.append_nil] at hb
      rw [h2']
      exact ⟨OwV.lt _ _ _ hO' b hb, .inl hb⟩
    · rw [h2']; exact Chg.of_below (Bel.refl _ _)
  · have hxn : xs ≠ [] := fun h => by subst h; simp at hl; omega
    obtain ⟨b, T, c, A, R, rfl, rfl, hb, hR, hc, h63⟩ := own_flat he hO hxn
    have hsp : flat e xs = flat e (xs.take k) ++ flat e ((xs.take l).drop k) ++ flat e (xs.drop l) := by
      rw [← flat_app, ← flat_app]
      congr 1
      have e1 : xs.take k = (xs.take l).take k := by rw [List.take_take, Nat.min_eq_left hkl]
      rw [e1, List.take_append_drop, List.take_append_drop]
    have hpl : (flat e (xs.take k)).length = k * 4 := by rw [flat_len he, List.length_take, Nat.min_eq_left (by omega)]
    have hml : (flat e ((xs.take l).drop k)).length = (l - k) * 4 := by rw [flat_len he, List.length_drop, List.length_take, Nat.min_eq_left hl]
    have hql : (flat e (xs.drop l)).length = (xs.length - l) * 4 := by rw [flat_len he, List.length_drop]
    have hxl : (flat e xs).length = xs.length * 4 := flat_len he xs
    have hcl : (A ++ flat e xs ++ R).length = A.length + c * 4 := by
      simp only [List.length_append, hxl, hR]; omega
    have hold : ((A ++ flat e xs ++ R).drop (A.length + l * 4)).take (flat e (xs.drop l)).length = flat e (xs.drop l) := by
      have e3 : A ++ flat e xs ++ R = (A ++ (flat e (xs.take k) ++ flat e ((xs.take l).drop k))) ++ (flat e (xs.drop l) ++ R) := by rw [hsp]; simp only [List.append_assoc]
      have e4 : A.length + l * 4 = (A ++ (flat e (xs.take k) ++ flat e ((xs.take l).drop k))).length := by simp only [List.length_append, hpl, hml]; omega
      rw [e3, e4, List.drop_left, List.take_left]
    obtain ⟨W1, hW1⟩ : ∃ W1, W1 = (if flat e (xs.drop l) = [] then w.drew else setBlk w.drew b (.cells (splice (A ++ flat e xs ++ R) (A.length + k * 4) (flat e (xs.drop l))).toArray T (0, 0))) := ⟨_, rfl⟩
    obtain ⟨ay, hay⟩ : ∃ ay : Option Addr, ay = if c = l then some ⟨b, A.length, none⟩ else some ⟨b, A.length + l * 4, none⟩ := ⟨_, rfl⟩
    have hr : ∀ ty, (Builtin.append_ #[49, 49] ty #[.slice (some ⟨b, A.length, none⟩) k c, .slice ay (xs.length - l) (c - l)]).run Try.prog w.drew = .ok (.slice (some ⟨b, A.length, none⟩) (k + (xs.length - l)) c) W1 := fun ty => by
      rw [hW1]
      refine run_app_room (P := Try.prog) (w := w.drew) (i := Try.t51) (e := 51) Try.underlying49 (by kernel_rfl) (box_drew hb) hcl hql (fun h => ?_) (fun a ha q v hq => ?_) (flat_all he _) (by omega)
      · rw [hay] at h; split at h <;> cases h
      · rw [hay] at ha
        split at ha
        · rename_i hcl2
          have : (flat e (xs.drop l)).length = 0 := by rw [hql]; omega
          rw [List.length_eq_zero_iff.1 this] at hq
          simp at hq
        · cases ha
          rw [Addr.add_lit]
          exact (box_drew hb).has _ _ hold q v hq
    have hst := store_chg (w := w.drew) (o := A.length + k * 4) (vs := flat e (xs.drop l)) (box_drew hb)
    rw [← hW1] at hst
    have hzl : (Builtin.zeroCells (Value.agg #[Value.int IntKind.i64 0, Value.int IntKind.i64 0, Value.int IntKind.i64 0, Value.int IntKind.i64 0]).cells (xs.length - (k + (xs.length - l)))).toList.length = (l - k) * 4 := by
      simp [Builtin.zeroCells, Value.cells]; omega
    have hsl : (splice (A ++ flat e xs ++ R) (A.length + k * 4) (flat e (xs.drop l))).length = (A ++ flat e xs ++ R).length := by
      unfold splice; simp only [List.length_append, List.length_take, List.length_drop, hxl, hql, hR]; omega
    have hclr : ∀ ty, (Builtin.clear_ #[49] ty #[.slice (some ⟨b, A.length + (k + (xs.length - l)) * 4, none⟩) (xs.length - (k + (xs.length - l))) (c - (k + (xs.length - l)))]).run Try.prog W1 = .ok (.tuple #[]) _ := fun ty =>
      run_clearK (P := Try.prog) (i := Try.t51) (el := 51) (z := .agg #[Value.int IntKind.i64 0, Value.int IntKind.i64 0, Value.int IntKind.i64 0, Value.int IntKind.i64 0]) Try.underlying49 (by kernel_rfl) (by kernel_rfl) hst.2 (by omega)
        (zero_one _)
        (fun h => by rw [h] at hzl; simp at hzl; omega) (by rw [hzl, hsl, hcl]; omega)
    refine (del_walk (by omega) hl hc hay hr hclr).mono fun e' w2 ⟨h1', h2'⟩ => ?_
    have hsh : splice (splice (A ++ flat e xs ++ R) (A.length + k * 4) (flat e (xs.drop l))) (A.length + (k + (xs.length - l)) * 4) (Builtin.zeroCells (Value.agg #[Value.int IntKind.i64 0, Value.int IntKind.i64 0, Value.int IntKind.i64 0, Value.int IntKind.i64 0]).cells (xs.length - (k + (xs.length - l)))).toList
        = A ++ flat e (xs.take k ++ xs.drop l) ++ ((Builtin.zeroCells (Value.agg #[Value.int IntKind.i64 0, Value.int IntKind.i64 0, Value.int IntKind.i64 0, Value.int IntKind.i64 0]).cells (xs.length - (k + (xs.length - l)))).toList ++ R) := by
      have h := splice_del A (flat e (xs.take k)) (flat e ((xs.take l).drop k)) (flat e (xs.drop l)) R (Builtin.zeroCells (Value.agg #[Value.int IntKind.i64 0, Value.int IntKind.i64 0, Value.int IntKind.i64 0, Value.int IntKind.i64 0]).cells (xs.length - (k + (xs.length - l)))).toList (by rw [hzl, hml])
      rw [hpl, hql] at h
      have p1 : A.length + (k + (xs.length - l)) * 4 = A.length + k * 4 + (xs.length - l) * 4 := by omega
      have p2 : A ++ flat e xs ++ R = A ++ flat e (xs.take k) ++ flat e ((xs.take l).drop k) ++ flat e (xs.drop l) ++ R := by rw [hsp]; simp only [List.append_assoc]
      rw [p1, p2, h, flat_app]
      simp only [List.append_assoc]
    have hbx : Box w2 b T (A ++ flat e (xs.take k ++ xs.drop l) ++ ((Builtin.zeroCells (Value.agg #[Value.int IntKind.i64 0, Value.int IntKind.i64 0, Value.int IntKind.i64 0, Value.int IntKind.i64 0]).cells (xs.length - (k + (xs.length - l)))).toList ++ R)) := by
      rw [h2', ← hsh]
      exact setBlk_box hst.2.lt T _
    have hch : Chg (· = b) w w2 := by
      rw [h2']
      exact (Chg.drew1 _ w).andThen (hst.1.andThen (setBlk_chg _ _ _))
    have hyl : (xs.take k ++ xs.drop l).length = k + (xs.length - l) := by
      simp only [List.length_append, List.length_take, List.length_drop]; omega
    refine ⟨_, [b], [], h1', ?_, hbeh _, by simp, fun q hq => ?_, hch.mono fun q _ hq => by subst hq; simp⟩
    · have := flat_own he (c := c) hbx (by rw [List.length_append, hzl, hR, hyl]; omega) (by rw [hyl]; omega) (by rw [hyl]; omega)
      rw [hyl] at this
      exact this
    · have : q = b := by simpa using hq
      subst this
      exact ⟨hbx.lt, .inl (by simp)⟩
end Go.Proofs.Ytjcgnlpimefhpaa
/- functions, through the machine -/
namespace Go.Proofs.Ytjcgnlpimefhpaa
theorem ai {a b : Prop} (h : a) (k : b) : a ∧ b := ⟨h, k⟩
abbrev vI (x : Int) : Value := .int .i64 x
open Go.RowKit
set_option maxRecDepth 100000
set_option linter.unusedVariables false
set_option linter.unusedSimpArgs false
theorem mixed : Try.prog.follows .mixedOrders = true := Checked.mixed Try.checked
def F216_s0 (n : Int) : (Int × Int) → Lp (Int × Int) Int := fun (out, i40) =>
  bif (decide (i40 < 16)) then (.next ((IntKind.i64.wrap (out * 2)), (i40 + 1))) else (.done (out, i40))
def F216 (n : Int) : Int :=
  (runL (F216_s0 n) ((Int.toNat (16 - n)) + 1) (1, n)).fin (fun r => r) (fun (out, i40) => out)
def S216 (R : Int) (n : Int) : Spec := ⟨[.r (.c (.v (vI n)))], .v (vI R), 0 ≤ n ∧ n ≤ 16⟩
theorem ok216 (n : Int) : (S216 (F216 n) n).ok Try.prog 216 :=
  fnG_ok mixed (fn := Try.f216) (ct := .seq (.no) (.seq (.no) (.seq (.seq (.no) (.blk (.loop (ι := Nat × (Int × Int)) (fun i => (fun (out : Int) (i40 : Int) => (⟨[(3, some (.v (vI out))), (4, some (.v (vI i40)))], [], 0⟩ : St)) i.2.1 i.2.2) (fun i => runL (F216_s0 n) i.1 i.2 = (runL (F216_s0 n) ((Int.toNat (16 - n)) + 1) (1, n)) ∧ (fun (out : Int) (i40 : Int) => (Int.toNat (16 - i40) < i.1 ∧ 0 ≤ i40)) i.2.1 i.2.2) (fun i => i.1) (((Int.toNat (16 - n)) + 1), (1, n)) (fun i => (fun (out : Int) (i40 : Int) => (.seq (.seq (.no) (.cond (.no) (.no))) (.seq (.blk (.no)) (.reg [(1, .bnd)])))) i.2.1 i.2.2)))) (.seq (.no) (.no))))) Try.func216 (fun (hp : 0 ≤ n ∧ n ≤ 16) => (fun (hpre0 : 0 ≤ n) (hpre1 : n ≤ 16) => ai (ai (rfl) (ai (rfl) ((ai (rfl : runL (F216_s0 n) ((Int.toNat (16 - n)) + 1) (1, n) = (runL (F216_s0 n) ((Int.toNat (16 - n)) + 1) (1, n))) (ai ((Nat.lt_succ_self _ : Int.toNat (16 - n) < ((Int.toNat (16 - n)) + 1))) ((by omega : 0 ≤ n)))))) : ((.int .i64 1 : Value) = .int .i64 1) ∧ ((.int .i64 n : Value) = .int .i64 n) ∧ (runL (F216_s0 n) ((Int.toNat (16 - n)) + 1) (1, n) = (runL (F216_s0 n) ((Int.toNat (16 - n)) + 1) (1, n)) ∧ Int.toNat (16 - n) < ((Int.toNat (16 - n)) + 1) ∧ 0 ≤ n)) (fun (i0 : Nat × (Int × Int)) (hi0 : runL (F216_s0 n) i0.1 i0.2 = (runL (F216_s0 n) ((Int.toNat (16 - n)) + 1) (1, n)) ∧ (fun (out : Int) (i40 : Int) => (Int.toNat (16 - i40) < i0.1 ∧ 0 ≤ i40)) i0.2.1 i0.2.2) => (fun (m0 : Nat) (out : Int) (i40 : Int) (hI0 : runL (F216_s0 n) (m0 + 1) (out, i40) = (runL (F216_s0 n) ((Int.toNat (16 - n)) + 1) (1, n))) (_ : Int.toNat (16 - i40) < m0 + 1) (hl0 : m0 < i0.1) (_ : 0 ≤ i40) => ai (fun h2 : (decide (i40 < 16)) = true => (fun _ : i40 < 16 => ai ((by unfold i64ok; omega : i64ok (i40 + 1))) (Exists.intro (p := fun j : Nat × (Int × Int) => (fun (out_ : Int) (i40_ : Int) => (((.int .i64 (IntKind.i64.wrap (out * 2)) : Value) = .int .i64 out_) ∧ ((.int .i64 (i40 + 1) : Value) = .int .i64 i40_) ∧ ((runL (F216_s0 n) j.1 j.2 = (runL (F216_s0 n) ((Int.toNat (16 - n)) + 1) (1, n)) ∧ Int.toNat (16 - i40_) < j.1 ∧ 0 ≤ i40_) ∧ j.1 < i0.1))) j.2.1 j.2.2) (m0, ((IntKind.i64.wrap (out * 2)), (i40 + 1))) (ai (rfl) (ai (rfl) (ai (ai (runL_next hI0 (condT h2 (rfl))) (ai ((by omega : Int.toNat (16 - (i40 + 1)) < m0)) ((by omega : 0 ≤ (i40 + 1))))) hl0))))) (of_decide_eq_true h2)) (fun h2 : (decide (i40 < 16)) = false => (fun _ : ¬ i40 < 16 => (fun hD0_3 : (runL (F216_s0 n) ((Int.toNat (16 - n)) + 1) (1, n)) = Lp.done (out, i40) => (fun hF : (out : Int) = (F216 n) => ai (congrArg (fun r : Int => (.int .i64 r : Value)) hF) (trivial)) (finD hD0_3 (rfl))) (runL_done hI0 (condF h2 (rfl)))) (of_decide_eq_false h2))) (i0.1 - 1) i0.2.1 i0.2.2 (hd1 hi0.1 hi0.2.1) (hd2 hi0.2.1) (hd3 hi0.2.1) hi0.2.2)) hp.1 hp.2) (by kernel_rfl)
structure NetPrefix where
  Addr : Int
  Len : Int
  deriving DecidableEq, Inhabited
def eNetPrefix (x : NetPrefix) : List Dat := [.v (vI x.Addr), .v (vI x.Len)]
def F223 (p : NetPrefix) : Int :=
  (IntKind.i64.wrap (1 * 2 ^ (min (16 - p.Len).toNat IntKind.i64.bits)))
def S223 (R : Int) (p : NetPrefix) : Spec := ⟨[.r (.g (eNetPrefix p))], .v (vI R), 0 ≤ p.Len ∧ p.Len ≤ 16⟩
theorem ok223 (p : NetPrefix) : (S223 (F223 p) p).ok Try.prog 223 :=
  fnG_ok mixed (fn := Try.f223) (ct := .seq (.no) (.seq (.reg [(2, .bnd)]) (.no))) Try.func223 (fun (hp : 0 ≤ p.Len ∧ p.Len ≤ 16) => (fun (hpre0 : 0 ≤ p.Len) (hpre1 : p.Len ≤ 16) => ai ((by unfold i64ok; omega : i64ok (16 - p.Len))) (ai ((by omega : 0 ≤ (16 - p.Len))) ((fun hF : ((IntKind.i64.wrap (1 * 2 ^ (min (16 - p.Len).toNat IntKind.i64.bits))) : Int) = (F223 p) => ai (congrArg (fun r : Int => (.int .i64 r : Value)) hF) (trivial)) (rfl)))) hp.1 hp.2) (by kernel_rfl)
end Go.Proofs.Ytjcgnlpimefhpaa
/- Plain laws: the size of a prefix. -/
namespace Go.Proofs.Ytjcgnlpimefhpaa
open Go.RowKit
set_option maxRecDepth 100000
set_option linter.unusedVariables false
set_option linter.unusedSimpArgs false
def szP (n : Int) : Int := 2 ^ (16 - n).toNat
theorem szP_pos (n : Int) : 1 ≤ szP n := by
  unfold szP
  have := Int.pow_pos (n := 2) (m := (16 - n).toNat) (by decide)
  omega
theorem szP_pos' (p : NetPrefix) : 1 ≤ szP p.Len := szP_pos _
theorem as216 (n : Int) (h0 : 0 ≤ n) (h1 : n ≤ 16) : F216 n = szP n := by
  have hd : ∀ k, k < 16 → IntKind.i64.wrap ((2 : Int) ^ k * 2) = 2 ^ (k + 1) := by decide
  unfold F216
  have hr := runL_rule (step := F216_s0 n) (fun (k : Nat) (_ : Unit) => ((2 : Int) ^ k, n + (k : Int))) (16 - n).toNat (fun _ _ => True) (fun _ => False)
    (fun k _ hk _ => .inl ⟨(), by
      simp only [F216_s0]
      rw [decide_eq_true (by omega), cond_true, hd k (by omega)]
      have : n + (k : Int) + 1 = n + ((k + 1 : Nat) : Int) := by omega
      rw [this], trivial⟩)
    (fun _ _ => by
      simp only [F216_s0]
      rw [decide_eq_false (by omega), cond_false])
    (16 - n).toNat 0 () (by omega) trivial ((16 - n).toNat + 1) (by omega)
  rcases hr with ⟨_, hr, _⟩ | ⟨_, _, hr⟩
  · have hr' : runL (F216_s0 n) ((16 - n).toNat + 1) (1, n + ((0 : Nat) : Int)) = _ := hr
    rw [Int.natCast_zero, Int.add_zero] at hr'
    rw [hr']; rfl
  · exact hr.elim
theorem as223 (p : NetPrefix) (h0 : 0 ≤ p.Len) (h1 : p.Len ≤ 16) : F223 p = szP p.Len := by
  have hd : ∀ q, q < 17 → IntKind.i64.wrap (1 * (2 : Int) ^ (min q IntKind.i64.bits)) = 2 ^ q := by decide
  unfold F223 szP
  exact hd _ (by omega)
theorem half_eq (a b : Int) (h0 : 0 ≤ a) (h1 : a < b) (h2 : b ≤ 1000000000) : IntKind.i64.wrap ((IntKind.u64.wrap (a + b)).fdiv (2 ^ (min (1 : Int).toNat IntKind.u64.bits))) = (a + b) / 2 := by
  have e1 : IntKind.u64.wrap (a + b) = a + b := IntWalk.u64_in _ (by omega)
  have e2 : (2 : Int) ^ (min (1 : Int).toNat IntKind.u64.bits) = 2 := by decide
  rw [e1, e2, Int.fdiv_eq_ediv_of_nonneg _ (by decide), wrap_of (by omega) (by omega)]
theorem half_in (a b : Int) (h0 : 0 ≤ a) (h1 : a < b) (h2 : b ≤ 1000000000) : a ≤ IntKind.i64.wrap ((IntKind.u64.wrap (a + b)).fdiv (2 ^ (min (1 : Int).toNat IntKind.u64.bits))) ∧ IntKind.i64.wrap ((IntKind.u64.wrap (a + b)).fdiv (2 ^ (min (1 : Int).toNat IntKind.u64.bits))) < b := by
  rw [half_eq a b h0 h1 h2]; omega
end Go.Proofs.Ytjcgnlpimefhpaa
/- functions, through the machine -/
namespace Go.Proofs.Ytjcgnlpimefhpaa
open Go.RowKit
set_option maxRecDepth 100000
set_option linter.unusedVariables false
set_option linter.unusedSimpArgs false
def T216 (R : Int) (n : Int) : Spec := ⟨(S216 R n).args, (S216 R n).res, 0 ≤ n ∧ n ≤ 16⟩
theorem oa216 (n : Int) : (T216 (szP n) n).ok Try.prog 216 := by
  intro hp; have h := ok216 n hp; rw [as216 n hp.1 hp.2] at h; exact h
def T223 (R : Int) (p : NetPrefix) : Spec := ⟨(S223 R p).args, (S223 R p).res, 0 ≤ p.Len ∧ p.Len ≤ 16⟩
theorem oa223 (p : NetPrefix) : (T223 (szP p.Len) p).ok Try.prog 223 := by
  intro hp; have h := ok223 p hp; rw [as223 p hp.1 hp.2] at h; exact h
def F140 (n : Int) (low : Int) (high : Int) : Bool :=
  (bif decide (n ≥ low) then decide (n ≤ high) else false)
def S140 (R : Bool) (n : Int) (low : Int) (high : Int) : Spec := ⟨[.r (.c (.v (vI n))), .r (.c (.v (vI low))), .r (.c (.v (vI high)))], .v (.bool R), True⟩
theorem ok140 (n : Int) (low : Int) (high : Int) : (S140 (F140 n low high) n low high).ok Try.prog 140 :=
  fnG_ok mixed (fn := Try.f140) (ct := .seq (.no) (.seq (.no) (.no))) Try.func140 (fun (_ : True) => (fun hF : ((bif decide (n ≥ low) then decide (n ≤ high) else false) : Bool) = (F140 n low high) => ai (congrArg (fun r : Bool => (.bool r : Value)) hF) (trivial)) (rfl)) (by kernel_rfl)
theorem as140 (n : Int) (low : Int) (high : Int) : F140 n low high = (decide (low ≤ n ∧ n ≤ high)) := by
  simp only [F140, Bool.decide_and, bandd, geleD]
theorem oa140 (n : Int) (low : Int) (high : Int) : (S140 (decide (low ≤ n ∧ n ≤ high)) n low high).ok Try.prog 140 := by
  intro hp; have h := ok140 n low high hp; rw [as140 n low high] at h; exact h
structure HelloEntry where
  Addr : Int
  Len : Int
  Cost : Int
  Label : Int
  deriving DecidableEq, Inhabited
def eHelloEntry (x : HelloEntry) : List Dat := [.v (vI x.Addr), .v (vI x.Len), .v (vI x.Cost), .v (vI x.Label)]
def F202 (e1 : HelloEntry) : Bool :=
  (bif (bif (decide (0 ≤ e1.Len ∧ e1.Len ≤ 16)) then (decide (0 ≤ e1.Addr ∧ e1.Addr ≤ 65535)) else false) then ((e1.Addr.tmod (szP e1.Len)) == 0) else false)
def S202 (e1 : HelloEntry) : Spec := ⟨[.r (.g (eHelloEntry e1))], .v (.bool (F202 e1)), True⟩
theorem ok202 (e1 : HelloEntry) : (S202 e1).ok Try.prog 202 :=
  fnG_ok mixed (fn := Try.f202) (ct := .seq (.no) (.seq (.reg [(2, .call 140 (S140 (decide (0 ≤ e1.Len ∧ e1.Len ≤ 16)) e1.Len 0 16) (oa140 e1.Len 0 16) none), (6, .call 140 (S140 (decide (0 ≤ e1.Addr ∧ e1.Addr ≤ 65535)) e1.Addr 0 65535) (oa140 e1.Addr 0 65535) none), (13, .call 216 (T216 (szP e1.Len) e1.Len) (oa216 e1.Len) none)]) (.no))) Try.func202 (fun (_ : True) => ai (trivial) (ai ((Imp.refl (.v (vI e1.Len)))) (ai ((Imp.refl (.v (vI 0)))) (ai ((Imp.refl (.v (vI 16)))) (ai ((fun k1 : (decide (0 ≤ e1.Len ∧ e1.Len ≤ 16)) = true => (fun _ : 0 ≤ e1.Len ∧ e1.Len ≤ 16 => trivial) (of_decide_eq_true k1))) (ai ((fun k2 : (decide (0 ≤ e1.Len ∧ e1.Len ≤ 16)) = true => (fun _ : 0 ≤ e1.Len ∧ e1.Len ≤ 16 => (Imp.refl (.v (vI e1.Addr)))) (of_decide_eq_true k2))) (ai ((fun k3 : (decide (0 ≤ e1.Len ∧ e1.Len ≤ 16)) = true => (fun _ : 0 ≤ e1.Len ∧ e1.Len ≤ 16 => (Imp.refl (.v (vI 0)))) (of_decide_eq_true k3))) (ai ((fun k4 : (decide (0 ≤ e1.Len ∧ e1.Len ≤ 16)) = true => (fun _ : 0 ≤ e1.Len ∧ e1.Len ≤ 16 => (Imp.refl (.v (vI 65535)))) (of_decide_eq_true k4))) (ai ((fun k6 : (bif (decide (0 ≤ e1.Len ∧ e1.Len ≤ 16)) then (decide (0 ≤ e1.Addr ∧ e1.Addr ≤ 65535)) else false) = true => (fun _ : 0 ≤ e1.Addr ∧ e1.Addr ≤ 65535 => (fun _ : 0 ≤ e1.Len ∧ e1.Len ≤ 16 => (ai ((by omega : 0 ≤ e1.Len)) ((by omega : e1.Len ≤ 16)))) (of_decide_eq_true (andT1 k6))) (of_decide_eq_true (andT2 k6)))) (ai ((fun k7 : (bif (decide (0 ≤ e1.Len ∧ e1.Len ≤ 16)) then (decide (0 ≤ e1.Addr ∧ e1.Addr ≤ 65535)) else false) = true => (fun _ : 0 ≤ e1.Addr ∧ e1.Addr ≤ 65535 => (fun _ : 0 ≤ e1.Len ∧ e1.Len ≤ 16 => (Imp.refl (.v (vI e1.Len)))) (of_decide_eq_true (andT1 k7))) (of_decide_eq_true (andT2 k7)))) ((fun gv5 : 1 ≤ (szP e1.Len) => ai ((fun k8 : (bif (decide (0 ≤ e1.Len ∧ e1.Len ≤ 16)) then (decide (0 ≤ e1.Addr ∧ e1.Addr ≤ 65535)) else false) = true => (fun _ : 0 ≤ e1.Addr ∧ e1.Addr ≤ 65535 => (fun _ : 0 ≤ e1.Len ∧ e1.Len ≤ 16 => (by omega : ¬ (szP e1.Len) = 0)) (of_decide_eq_true (andT1 k8))) (of_decide_eq_true (andT2 k8)))) ((fun hF : ((bif (bif (decide (0 ≤ e1.Len ∧ e1.Len ≤ 16)) then (decide (0 ≤ e1.Addr ∧ e1.Addr ≤ 65535)) else false) then ((e1.Addr.tmod (szP e1.Len)) == 0) else false) : Bool) = (F202 e1) => ai (congrArg (fun r : Bool => (.bool r : Value)) hF) (trivial)) (rfl))) (szP_pos e1.Len)))))))))))) (by kernel_rfl)
def F137 (e1 : HelloEntry) : Bool :=
  (bif (bif (F202 e1) then (decide (1 ≤ e1.Cost ∧ e1.Cost ≤ 255)) else false) then (decide (0 ≤ e1.Label ∧ e1.Label ≤ 1000)) else false)
def S137 (e1 : HelloEntry) : Spec := ⟨[.r (.g (eHelloEntry e1))], .v (.bool (F137 e1)), True⟩
theorem ok137 (e1 : HelloEntry) : (S137 e1).ok Try.prog 137 :=
  fnG_ok mixed (fn := Try.f137) (ct := .seq (.no) (.seq (.reg [(1, .call 202 (S202 e1) (ok202 e1) none), (5, .call 140 (S140 (decide (1 ≤ e1.Cost ∧ e1.Cost ≤ 255)) e1.Cost 1 255) (oa140 e1.Cost 1 255) none), (10, .call 140 (S140 (decide (0 ≤ e1.Label ∧ e1.Label ≤ 1000)) e1.Label 0 1000) (oa140 e1.Label 0 1000) none)]) (.no))) Try.func137 (fun (_ : True) => ai (trivial) (ai ((Imps.refl (eHelloEntry e1))) (ai ((fun k1 : (F202 e1) = true => trivial)) (ai ((fun k2 : (F202 e1) = true => (Imp.refl (.v (vI e1.Cost))))) (ai ((fun k3 : (F202 e1) = true => (Imp.refl (.v (vI 1))))) (ai ((fun k4 : (F202 e1) = true => (Imp.refl (.v (vI 255))))) (ai ((fun k5 : (bif (F202 e1) then (decide (1 ≤ e1.Cost ∧ e1.Cost ≤ 255)) else false) = true => (fun _ : 1 ≤ e1.Cost ∧ e1.Cost ≤ 255 => trivial) (of_decide_eq_true (andT2 k5)))) (ai ((fun k6 : (bif (F202 e1) then (decide (1 ≤ e1.Cost ∧ e1.Cost ≤ 255)) else false) = true => (fun _ : 1 ≤ e1.Cost ∧ e1.Cost ≤ 255 => (Imp.refl (.v (vI e1.Label)))) (of_decide_eq_true (andT2 k6)))) (ai ((fun k7 : (bif (F202 e1) then (decide (1 ≤ e1.Cost ∧ e1.Cost ≤ 255)) else false) = true => (fun _ : 1 ≤ e1.Cost ∧ e1.Cost ≤ 255 => (Imp.refl (.v (vI 0)))) (of_decide_eq_true (andT2 k7)))) (ai ((fun k8 : (bif (F202 e1) then (decide (1 ≤ e1.Cost ∧ e1.Cost ≤ 255)) else false) = true => (fun _ : 1 ≤ e1.Cost ∧ e1.Cost ≤ 255 => (Imp.refl (.v (vI 1000)))) (of_decide_eq_true (andT2 k8)))) ((fun hF : ((bif (bif (F202 e1) then (decide (1 ≤ e1.Cost ∧ e1.Cost ≤ 255)) else false) then (decide (0 ≤ e1.Label ∧ e1.Label ≤ 1000)) else false) : Bool) = (F137 e1) => ai (congrArg (fun r : Bool => (.bool r : Value)) hF) (trivial)) (rfl)))))))))))) (by kernel_rfl)
def F138 (a : HelloEntry) (b : HelloEntry) : Bool :=
  (bif decide (a.Addr < b.Addr) then true else (bif (a.Addr == b.Addr) then decide (a.Len < b.Len) else false))
def S138 (a : HelloEntry) (b : HelloEntry) : Spec := ⟨[.r (.g (eHelloEntry a)), .r (.g (eHelloEntry b))], .v (.bool (F138 a b)), True⟩
theorem ok138 (a : HelloEntry) (b : HelloEntry) : (S138 a b).ok Try.prog 138 :=
  fnG_ok mixed (fn := Try.f138) (ct := .seq (.no) (.seq (.no) (.no))) Try.func138 (fun (_ : True) => (fun hF : ((bif decide (a.Addr < b.Addr) then true else (bif (a.Addr == b.Addr) then decide (a.Len < b.Len) else false)) : Bool) = (F138 a b) => ai (congrArg (fun r : Bool => (.bool r : Value)) hF) (trivial)) (rfl)) (by kernel_rfl)
def F59_s0 (table : List HelloEntry) : Int → Lp Int Bool := fun i40 =>
  bif (decide (i40 < (table.length : Int))) then (bif (bif (!(F137 (table.getD (Int.toNat i40) default))) then true else (bif decide (i40 > 0) then (!(F138 (table.getD (Int.toNat (i40 - 1)) default) (table.getD (Int.toNat i40) default))) else false)) then (.ret false) else (.next (i40 + 1))) else (.done i40)
def F59 (table : List HelloEntry) : Bool :=
  bif (decide ((table.length : Int) > 8)) then false else ((runL (F59_s0 table) ((Int.toNat ((table.length : Int) - 0)) + 1) 0).fin (fun r => r) (fun i40 => true))
def S59 (table : List HelloEntry) : Spec := ⟨[.r (.c (.l 4 eHelloEntry table))], .v (.bool (F59 table)), True⟩
theorem ok59 (table : List HelloEntry) : (S59 table).ok Try.prog 59 :=
  fnG_ok mixed (fn := Try.f59) (ct := .seqk [(0, 0)] (.no) (.seq (.seq (.no) (.cond (.seq (.no) (.no)) (.no))) (.seq (.seqk [(0, 0)] (.no) (.blk (.loop (ι := Nat × Int) (fun i => (fun (i40 : Int) => (⟨[(0, some (.h 0 0)), (3, some (.v (vI i40)))], [(0, some (.shr none (.l 4 eHelloEntry table)))], 1⟩ : St)) i.2) (fun i => runL (F59_s0 table) i.1 i.2 = (runL (F59_s0 table) ((Int.toNat ((table.length : Int) - 0)) + 1) 0) ∧ (fun (i40 : Int) => (Int.toNat ((table.length : Int) - i40) < i.1 ∧ (0 : Int) ≤ i40)) i.2) (fun i => i.1) (((Int.toNat ((table.length : Int) - 0)) + 1), 0) (fun i => (fun (i40 : Int) => (.seq (.seq (.no) (.cond (.no) (.no))) (.seq (.blk (.seq (.reg [(4, .call 137 (S137 (table.getD (Int.toNat i40) default)) (ok137 (table.getD (Int.toNat i40) default)) none), (12, .bnd), (19, .call 138 (S138 (table.getD (Int.toNat (i40 - 1)) default) (table.getD (Int.toNat i40) default)) (ok138 (table.getD (Int.toNat (i40 - 1)) default) (table.getD (Int.toNat i40) default)) none)]) (.cond (.seq (.no) (.no)) (.no)))) (.reg [(1, .bnd)])))) i.2)))) (.seq (.no) (.no))))) Try.func59 (fun (_ : True) => fun (_ : table.length ≤ 9223372036854775807) => ai (fun h1 : (decide ((table.length : Int) > 8)) = true => (fun _ : (table.length : Int) > 8 => (fun hF : (false : Bool) = (F59 table) => ai (congrArg (fun r : Bool => (.bool r : Value)) hF) (trivial)) (condT h1 (rfl))) (of_decide_eq_true h1)) (fun h1 : (decide ((table.length : Int) > 8)) = false => (fun _ : ¬ (table.length : Int) > 8 => fun (_ : table.length ≤ 9223372036854775807) => ai (ai (rfl) (ai ((Imp.refl _)) ((ai (rfl : runL (F59_s0 table) ((Int.toNat ((table.length : Int) - 0)) + 1) 0 = (runL (F59_s0 table) ((Int.toNat ((table.length : Int) - 0)) + 1) 0)) (ai ((Nat.lt_succ_self _ : Int.toNat ((table.length : Int) - 0) < ((Int.toNat ((table.length : Int) - 0)) + 1))) ((by omega : (0 : Int) ≤ 0)))))) : ((.int .i64 0 : Value) = .int .i64 0) ∧ (Imp (.l 4 eHelloEntry table) (.l 4 eHelloEntry table)) ∧ (runL (F59_s0 table) ((Int.toNat ((table.length : Int) - 0)) + 1) 0 = (runL (F59_s0 table) ((Int.toNat ((table.length : Int) - 0)) + 1) 0) ∧ Int.toNat ((table.length : Int) - 0) < ((Int.toNat ((table.length : Int) - 0)) + 1) ∧ (0 : Int) ≤ 0)) (fun (i0 : Nat × Int) (hi0 : runL (F59_s0 table) i0.1 i0.2 = (runL (F59_s0 table) ((Int.toNat ((table.length : Int) - 0)) + 1) 0) ∧ (fun (i40 : Int) => (Int.toNat ((table.length : Int) - i40) < i0.1 ∧ (0 : Int) ≤ i40)) i0.2) => (fun (m0 : Nat) (i40 : Int) (hI0 : runL (F59_s0 table) (m0 + 1) i40 = (runL (F59_s0 table) ((Int.toNat ((table.length : Int) - 0)) + 1) 0)) (_ : Int.toNat ((table.length : Int) - i40) < m0 + 1) (hl0 : m0 < i0.1) (_ : (0 : Int) ≤ i40) => ai (fun h3 : (decide (i40 < (table.length : Int))) = true => (fun _ : i40 < (table.length : Int) => ai ((by omega : 0 ≤ i40 ∧ i40 < (table.length : Int))) (ai (trivial) (ai ((Imps.refl (eHelloEntry (table.getD (Int.toNat i40) default)))) (ai ((fun k5 : (decide (i40 > 0)) = true => (fun _ : i40 > 0 => (fun k4 : (!(F137 (table.getD (Int.toNat i40) default))) = false => (by unfold i64ok; omega : i64ok (i40 - 1)))) (of_decide_eq_true k5))) (ai ((fun k7 : (decide (i40 > 0)) = true => (fun _ : i40 > 0 => (fun k6 : (!(F137 (table.getD (Int.toNat i40) default))) = false => (by omega : 0 ≤ (i40 - 1) ∧ (i40 - 1) < (table.length : Int)))) (of_decide_eq_true k7))) (ai ((fun k9 : (decide (i40 > 0)) = true => (fun _ : i40 > 0 => (fun k8 : (!(F137 (table.getD (Int.toNat i40) default))) = false => (by omega : 0 ≤ i40 ∧ i40 < (table.length : Int)))) (of_decide_eq_true k9))) (ai ((fun k11 : (decide (i40 > 0)) = true => (fun _ : i40 > 0 => (fun k10 : (!(F137 (table.getD (Int.toNat i40) default))) = false => trivial)) (of_decide_eq_true k11))) (ai ((fun k13 : (decide (i40 > 0)) = true => (fun _ : i40 > 0 => (fun k12 : (!(F137 (table.getD (Int.toNat i40) default))) = false => (Imps.refl (eHelloEntry (table.getD (Int.toNat (i40 - 1)) default))))) (of_decide_eq_true k13))) (ai ((fun k15 : (decide (i40 > 0)) = true => (fun _ : i40 > 0 => (fun k14 : (!(F137 (table.getD (Int.toNat i40) default))) = false => (Imps.refl (eHelloEntry (table.getD (Int.toNat i40) default))))) (of_decide_eq_true k15))) (ai (fun h16 : (bif (!(F137 (table.getD (Int.toNat i40) default))) then true else (bif decide (i40 > 0) then (!(F138 (table.getD (Int.toNat (i40 - 1)) default) (table.getD (Int.toNat i40) default))) else false)) = true => (fun hF : (false : Bool) = (F59 table) => ai (congrArg (fun r : Bool => (.bool r : Value)) hF) (trivial)) (condF h1 (finR (runL_ret hI0 (condT h3 (condT h16 (rfl)))) rfl))) (fun h16 : (bif (!(F137 (table.getD (Int.toNat i40) default))) then true else (bif decide (i40 > 0) then (!(F138 (table.getD (Int.toNat (i40 - 1)) default) (table.getD (Int.toNat i40) default))) else false)) = false => ai ((by unfold i64ok; omega : i64ok (i40 + 1))) (Exists.intro (p := fun j : Nat × Int => (fun (i40_ : Int) => (((.int .i64 (i40 + 1) : Value) = .int .i64 i40_) ∧ (Imp (.l 4 eHelloEntry table) (.l 4 eHelloEntry table)) ∧ ((runL (F59_s0 table) j.1 j.2 = (runL (F59_s0 table) ((Int.toNat ((table.length : Int) - 0)) + 1) 0) ∧ Int.toNat ((table.length : Int) - i40_) < j.1 ∧ (0 : Int) ≤ i40_) ∧ j.1 < i0.1))) j.2) (m0, (i40 + 1)) (ai (rfl) (ai ((Imp.refl _)) (ai (ai (runL_next hI0 (condT h3 (condF h16 (rfl)))) (ai ((by omega : Int.toNat ((table.length : Int) - (i40 + 1)) < m0)) ((by omega : (0 : Int) ≤ (i40 + 1))))) hl0))))))))))))))) (of_decide_eq_true h3)) (fun h3 : (decide (i40 < (table.length : Int))) = false => (fun _ : ¬ i40 < (table.length : Int) => (fun hD0_17 : (runL (F59_s0 table) ((Int.toNat ((table.length : Int) - 0)) + 1) 0) = Lp.done i40 => (fun hF : (true : Bool) = (F59 table) => ai (congrArg (fun r : Bool => (.bool r : Value)) hF) (trivial)) (condF h1 (finD hD0_17 (rfl)))) (runL_done hI0 (condF h3 (rfl)))) (of_decide_eq_false h3))) (i0.1 - 1) i0.2 (hd1 hi0.1 hi0.2.1) (hd2 hi0.2.1) (hd3 hi0.2.1) hi0.2.2)) (of_decide_eq_false h1))) (by kernel_rfl)
def F136 (e1 : HelloEntry) : NetPrefix :=
  (⟨e1.Addr, e1.Len⟩ : NetPrefix)
def S136 (e1 : HelloEntry) : Spec := ⟨[.r (.g (eHelloEntry e1))], .ag [.v (vI ((F136 e1).Addr)), .v (vI ((F136 e1).Len))], True⟩
theorem ok136 (e1 : HelloEntry) : (S136 e1).ok Try.prog 136 :=
  fnG_ok mixed (fn := Try.f136) (ct := .seq (.no) (.seq (.no) (.no))) Try.func136 (fun (_ : True) => (fun hF : ((⟨e1.Addr, e1.Len⟩ : NetPrefix) : NetPrefix) = (F136 e1) => ai (congrArg (fun r : NetPrefix => (.int .i64 r.Addr : Value)) hF) (ai (congrArg (fun r : NetPrefix => (.int .i64 r.Len : Value)) hF) (trivial))) (rfl)) (by kernel_rfl)
def F139 (n : Int) (low : Int) (high : Int) : Bool :=
  (bif decide (low ≤ n) then decide (n ≤ high) else false)
def S139 (R : Bool) (n : Int) (low : Int) (high : Int) : Spec := ⟨[.r (.c (.v (vI n))), .r (.c (.v (vI low))), .r (.c (.v (vI high)))], .v (.bool R), True⟩
theorem ok139 (n : Int) (low : Int) (high : Int) : (S139 (F139 n low high) n low high).ok Try.prog 139 :=
  fnG_ok mixed (fn := Try.f139) (ct := .seq (.no) (.seq (.no) (.no))) Try.func139 (fun (_ : True) => (fun hF : ((bif decide (low ≤ n) then decide (n ≤ high) else false) : Bool) = (F139 n low high) => ai (congrArg (fun r : Bool => (.bool r : Value)) hF) (trivial)) (rfl)) (by kernel_rfl)
theorem as139 (n : Int) (low : Int) (high : Int) : F139 n low high = (decide (low ≤ n ∧ n ≤ high)) := by
  simp only [F139, Bool.decide_and, bandd]
theorem oa139 (n : Int) (low : Int) (high : Int) : (S139 (decide (low ≤ n ∧ n ≤ high)) n low high).ok Try.prog 139 := by
  intro hp; have h := ok139 n low high hp; rw [as139 n low high] at h; exact h
def F201 (p : NetPrefix) : Bool :=
  (bif (bif (decide (0 ≤ p.Len ∧ p.Len ≤ 16)) then (decide (0 ≤ p.Addr ∧ p.Addr ≤ 65535)) else false) then ((p.Addr.tmod (szP p.Len)) == 0) else false)
def S201 (p : NetPrefix) : Spec := ⟨[.r (.g (eNetPrefix p))], .v (.bool (F201 p)), True⟩
theorem ok201 (p : NetPrefix) : (S201 p).ok Try.prog 201 :=
  fnG_ok mixed (fn := Try.f201) (ct := .seq (.no) (.seq (.reg [(2, .call 139 (S139 (decide (0 ≤ p.Len ∧ p.Len ≤ 16)) p.Len 0 16) (oa139 p.Len 0 16) none), (6, .call 139 (S139 (decide (0 ≤ p.Addr ∧ p.Addr ≤ 65535)) p.Addr 0 65535) (oa139 p.Addr 0 65535) none), (12, .call 223 (T223 (szP p.Len) p) (oa223 p) none)]) (.no))) Try.func201 (fun (_ : True) => ai (trivial) (ai ((Imp.refl (.v (vI p.Len)))) (ai ((Imp.refl (.v (vI 0)))) (ai ((Imp.refl (.v (vI 16)))) (ai ((fun k1 : (decide (0 ≤ p.Len ∧ p.Len ≤ 16)) = true => (fun _ : 0 ≤ p.Len ∧ p.Len ≤ 16 => trivial) (of_decide_eq_true k1))) (ai ((fun k2 : (decide (0 ≤ p.Len ∧ p.Len ≤ 16)) = true => (fun _ : 0 ≤ p.Len ∧ p.Len ≤ 16 => (Imp.refl (.v (vI p.Addr)))) (of_decide_eq_true k2))) (ai ((fun k3 : (decide (0 ≤ p.Len ∧ p.Len ≤ 16)) = true => (fun _ : 0 ≤ p.Len ∧ p.Len ≤ 16 => (Imp.refl (.v (vI 0)))) (of_decide_eq_true k3))) (ai ((fun k4 : (decide (0 ≤ p.Len ∧ p.Len ≤ 16)) = true => (fun _ : 0 ≤ p.Len ∧ p.Len ≤ 16 => (Imp.refl (.v (vI 65535)))) (of_decide_eq_true k4))) (ai ((fun k6 : (bif (decide (0 ≤ p.Len ∧ p.Len ≤ 16)) then (decide (0 ≤ p.Addr ∧ p.Addr ≤ 65535)) else false) = true => (fun _ : 0 ≤ p.Addr ∧ p.Addr ≤ 65535 => (fun _ : 0 ≤ p.Len ∧ p.Len ≤ 16 => (ai ((by omega : 0 ≤ p.Len)) ((by omega : p.Len ≤ 16)))) (of_decide_eq_true (andT1 k6))) (of_decide_eq_true (andT2 k6)))) (ai ((fun k7 : (bif (decide (0 ≤ p.Len ∧ p.Len ≤ 16)) then (decide (0 ≤ p.Addr ∧ p.Addr ≤ 65535)) else false) = true => (fun _ : 0 ≤ p.Addr ∧ p.Addr ≤ 65535 => (fun _ : 0 ≤ p.Len ∧ p.Len ≤ 16 => (Imps.refl (eNetPrefix p))) (of_decide_eq_true (andT1 k7))) (of_decide_eq_true (andT2 k7)))) ((fun gv5 : 1 ≤ (szP p.Len) => ai ((fun k8 : (bif (decide (0 ≤ p.Len ∧ p.Len ≤ 16)) then (decide (0 ≤ p.Addr ∧ p.Addr ≤ 65535)) else false) = true => (fun _ : 0 ≤ p.Addr ∧ p.Addr ≤ 65535 => (fun _ : 0 ≤ p.Len ∧ p.Len ≤ 16 => (by omega : ¬ (szP p.Len) = 0)) (of_decide_eq_true (andT1 k8))) (of_decide_eq_true (andT2 k8)))) ((fun hF : ((bif (bif (decide (0 ≤ p.Len ∧ p.Len ≤ 16)) then (decide (0 ≤ p.Addr ∧ p.Addr ≤ 65535)) else false) then ((p.Addr.tmod (szP p.Len)) == 0) else false) : Bool) = (F201 p) => ai (congrArg (fun r : Bool => (.bool r : Value)) hF) (trivial)) (rfl))) (szP_pos' p)))))))))))) (by kernel_rfl)
def F134 (e1 : HelloEntry) : Bool :=
  (bif (bif (F201 (F136 e1)) then (decide (1 ≤ e1.Cost ∧ e1.Cost ≤ 255)) else false) then (decide (0 ≤ e1.Label ∧ e1.Label ≤ 1000)) else false)
def S134 (e1 : HelloEntry) : Spec := ⟨[.r (.g (eHelloEntry e1))], .v (.bool (F134 e1)), True⟩
theorem ok134 (e1 : HelloEntry) : (S134 e1).ok Try.prog 134 :=
  fnG_ok mixed (fn := Try.f134) (ct := .seq (.no) (.seq (.reg [(1, .call 136 (S136 e1) (ok136 e1) none), (2, .call 201 (S201 (F136 e1)) (ok201 (F136 e1)) none), (6, .call 139 (S139 (decide (1 ≤ e1.Cost ∧ e1.Cost ≤ 255)) e1.Cost 1 255) (oa139 e1.Cost 1 255) none), (11, .call 139 (S139 (decide (0 ≤ e1.Label ∧ e1.Label ≤ 1000)) e1.Label 0 1000) (oa139 e1.Label 0 1000) none)]) (.no))) Try.func134 (fun (_ : True) => ai (trivial) (ai ((Imps.refl (eHelloEntry e1))) (ai (trivial) (ai ((Imps.refl (eNetPrefix (F136 e1)))) (ai ((fun k1 : (F201 (F136 e1)) = true => trivial)) (ai ((fun k2 : (F201 (F136 e1)) = true => (Imp.refl (.v (vI e1.Cost))))) (ai ((fun k3 : (F201 (F136 e1)) = true => (Imp.refl (.v (vI 1))))) (ai ((fun k4 : (F201 (F136 e1)) = true => (Imp.refl (.v (vI 255))))) (ai ((fun k5 : (bif (F201 (F136 e1)) then (decide (1 ≤ e1.Cost ∧ e1.Cost ≤ 255)) else false) = true => (fun _ : 1 ≤ e1.Cost ∧ e1.Cost ≤ 255 => trivial) (of_decide_eq_true (andT2 k5)))) (ai ((fun k6 : (bif (F201 (F136 e1)) then (decide (1 ≤ e1.Cost ∧ e1.Cost ≤ 255)) else false) = true => (fun _ : 1 ≤ e1.Cost ∧ e1.Cost ≤ 255 => (Imp.refl (.v (vI e1.Label)))) (of_decide_eq_true (andT2 k6)))) (ai ((fun k7 : (bif (F201 (F136 e1)) then (decide (1 ≤ e1.Cost ∧ e1.Cost ≤ 255)) else false) = true => (fun _ : 1 ≤ e1.Cost ∧ e1.Cost ≤ 255 => (Imp.refl (.v (vI 0)))) (of_decide_eq_true (andT2 k7)))) (ai ((fun k8 : (bif (F201 (F136 e1)) then (decide (1 ≤ e1.Cost ∧ e1.Cost ≤ 255)) else false) = true => (fun _ : 1 ≤ e1.Cost ∧ e1.Cost ≤ 255 => (Imp.refl (.v (vI 1000)))) (of_decide_eq_true (andT2 k8)))) ((fun hF : ((bif (bif (F201 (F136 e1)) then (decide (1 ≤ e1.Cost ∧ e1.Cost ≤ 255)) else false) then (decide (0 ≤ e1.Label ∧ e1.Label ≤ 1000)) else false) : Bool) = (F134 e1) => ai (congrArg (fun r : Bool => (.bool r : Value)) hF) (trivial)) (rfl)))))))))))))) (by kernel_rfl)
def F135 (p : NetPrefix) (q : NetPrefix) : Int :=
  bif (p.Addr != q.Addr) then (IntKind.i64.wrap (p.Addr - q.Addr)) else (IntKind.i64.wrap (p.Len - q.Len))
def S135 (p : NetPrefix) (q : NetPrefix) : Spec := ⟨[.r (.g (eNetPrefix p)), .r (.g (eNetPrefix q))], .v (vI (F135 p q)), True⟩
theorem ok135 (p : NetPrefix) (q : NetPrefix) : (S135 p q).ok Try.prog 135 :=
  fnG_ok mixed (fn := Try.f135) (ct := .seq (.no) (.seq (.seq (.no) (.cond (.seq (.no) (.no)) (.no))) (.seq (.no) (.no)))) Try.func135 (fun (_ : True) => ai (fun h1 : (p.Addr != q.Addr) = true => (fun _ : ¬ p.Addr = q.Addr => (fun hF : ((IntKind.i64.wrap (p.Addr - q.Addr)) : Int) = (F135 p q) => ai (congrArg (fun r : Int => (.int .i64 r : Value)) hF) (trivial)) (condT h1 (rfl))) (bneT h1)) (fun h1 : (p.Addr != q.Addr) = false => (fun _ : p.Addr = q.Addr => (fun hF : ((IntKind.i64.wrap (p.Len - q.Len)) : Int) = (F135 p q) => ai (congrArg (fun r : Int => (.int .i64 r : Value)) hF) (trivial)) (condF h1 (rfl))) (bneF h1))) (by kernel_rfl)
def F58_s0 (table : List HelloEntry) : Int → Lp Int Bool := fun v7 =>
  bif (decide (v7 < (table.length : Int))) then (bif (bif (!(F134 (table.getD (Int.toNat v7) default))) then true else (bif decide (v7 > 0) then decide ((F135 (F136 (table.getD (Int.toNat (v7 - 1)) default)) (F136 (table.getD (Int.toNat v7) default))) ≥ 0) else false)) then (.ret false) else (.next (v7 + 1))) else (.done v7)
def F58 (table : List HelloEntry) : Bool :=
  (runL (F58_s0 table) ((Int.toNat ((table.length : Int) - 0)) + 1) 0).fin (fun r => r) (fun v7 => decide ((table.length : Int) ≤ 8))
def S58 (table : List HelloEntry) : Spec := ⟨[.r (.c (.l 4 eHelloEntry table))], .v (.bool (F58 table)), True⟩
theorem ok58 (table : List HelloEntry) : (S58 table).ok Try.prog 58 :=
  fnG_ok mixed (fn := Try.f58) (ct := .seqk [(0, 0)] (.no) (.seq (.seqk [(0, 0), (5, 0)] (.no) (.blk (.loop (ι := Nat × Int) (fun i => (fun (v7 : Int) => (⟨[(0, some (.h 0 0)), (5, some (.h 0 0)), (6, some (.v (vI (table.length : Int)))), (7, some (.v (vI v7)))], [(0, some (.shr none (.l 4 eHelloEntry table)))], 1⟩ : St)) i.2) (fun i => runL (F58_s0 table) i.1 i.2 = (runL (F58_s0 table) ((Int.toNat ((table.length : Int) - 0)) + 1) 0) ∧ (fun (v7 : Int) => (Int.toNat ((table.length : Int) - v7) < i.1 ∧ (0 : Int) ≤ v7)) i.2) (fun i => i.1) (((Int.toNat ((table.length : Int) - 0)) + 1), 0) (fun i => (fun (v7 : Int) => (.seq (.no) (.seq (.cond (.no) (.no)) (.seq (.blk (.seq (.no) (.seq (.reg [(1, .call 134 (S134 (table.getD (Int.toNat v7) default)) (ok134 (table.getD (Int.toNat v7) default)) none), (9, .bnd), (12, .call 136 (S136 (table.getD (Int.toNat (v7 - 1)) default)) (ok136 (table.getD (Int.toNat (v7 - 1)) default)) none), (14, .call 136 (S136 (table.getD (Int.toNat v7) default)) (ok136 (table.getD (Int.toNat v7) default)) none), (15, .call 135 (S135 (F136 (table.getD (Int.toNat (v7 - 1)) default)) (F136 (table.getD (Int.toNat v7) default))) (ok135 (F136 (table.getD (Int.toNat (v7 - 1)) default)) (F136 (table.getD (Int.toNat v7) default))) none)]) (.cond (.seq (.no) (.no)) (.no))))) (.reg [(0, .bnd)]))))) i.2)))) (.seq (.no) (.no)))) Try.func58 (fun (_ : True) => fun (_ : table.length ≤ 9223372036854775807) => fun (_ : table.length ≤ 9223372036854775807) => fun (_ : table.length ≤ 9223372036854775807) => ai (ai (rfl) (ai (rfl) (ai ((Imp.refl _)) ((ai (rfl : runL (F58_s0 table) ((Int.toNat ((table.length : Int) - 0)) + 1) 0 = (runL (F58_s0 table) ((Int.toNat ((table.length : Int) - 0)) + 1) 0)) (ai ((Nat.lt_succ_self _ : Int.toNat ((table.length : Int) - 0) < ((Int.toNat ((table.length : Int) - 0)) + 1))) ((by omega : (0 : Int) ≤ 0))))))) : ((.int .i64 (table.length : Int) : Value) = .int .i64 (table.length : Int)) ∧ ((.int .i64 0 : Value) = .int .i64 0) ∧ (Imp (.l 4 eHelloEntry table) (.l 4 eHelloEntry table)) ∧ (runL (F58_s0 table) ((Int.toNat ((table.length : Int) - 0)) + 1) 0 = (runL (F58_s0 table) ((Int.toNat ((table.length : Int) - 0)) + 1) 0) ∧ Int.toNat ((table.length : Int) - 0) < ((Int.toNat ((table.length : Int) - 0)) + 1) ∧ (0 : Int) ≤ 0)) (fun (i0 : Nat × Int) (hi0 : runL (F58_s0 table) i0.1 i0.2 = (runL (F58_s0 table) ((Int.toNat ((table.length : Int) - 0)) + 1) 0) ∧ (fun (v7 : Int) => (Int.toNat ((table.length : Int) - v7) < i0.1 ∧ (0 : Int) ≤ v7)) i0.2) => (fun (m0 : Nat) (v7 : Int) (hI0 : runL (F58_s0 table) (m0 + 1) v7 = (runL (F58_s0 table) ((Int.toNat ((table.length : Int) - 0)) + 1) 0)) (_ : Int.toNat ((table.length : Int) - v7) < m0 + 1) (hl0 : m0 < i0.1) (_ : (0 : Int) ≤ v7) => ai (fun h2 : (decide (v7 < (table.length : Int))) = true => (fun _ : v7 < (table.length : Int) => ai ((by omega : 0 ≤ v7 ∧ v7 < (table.length : Int))) (ai (trivial) (ai ((Imps.refl (eHelloEntry (table.getD (Int.toNat v7) default)))) (ai ((fun k4 : (decide (v7 > 0)) = true => (fun _ : v7 > 0 => (fun k3 : (!(F134 (table.getD (Int.toNat v7) default))) = false => (by unfold i64ok; omega : i64ok (v7 - 1)))) (of_decide_eq_true k4))) (ai ((fun k6 : (decide (v7 > 0)) = true => (fun _ : v7 > 0 => (fun k5 : (!(F134 (table.getD (Int.toNat v7) default))) = false => (by omega : 0 ≤ (v7 - 1) ∧ (v7 - 1) < (table.length : Int)))) (of_decide_eq_true k6))) (ai ((fun k8 : (decide (v7 > 0)) = true => (fun _ : v7 > 0 => (fun k7 : (!(F134 (table.getD (Int.toNat v7) default))) = false => trivial)) (of_decide_eq_true k8))) (ai ((fun k10 : (decide (v7 > 0)) = true => (fun _ : v7 > 0 => (fun k9 : (!(F134 (table.getD (Int.toNat v7) default))) = false => (Imps.refl (eHelloEntry (table.getD (Int.toNat (v7 - 1)) default))))) (of_decide_eq_true k10))) (ai ((fun k12 : (decide (v7 > 0)) = true => (fun _ : v7 > 0 => (fun k11 : (!(F134 (table.getD (Int.toNat v7) default))) = false => trivial)) (of_decide_eq_true k12))) (ai ((fun k14 : (decide (v7 > 0)) = true => (fun _ : v7 > 0 => (fun k13 : (!(F134 (table.getD (Int.toNat v7) default))) = false => (Imps.refl (eHelloEntry (table.getD (Int.toNat v7) default))))) (of_decide_eq_true k14))) (ai ((fun k16 : (decide (v7 > 0)) = true => (fun _ : v7 > 0 => (fun k15 : (!(F134 (table.getD (Int.toNat v7) default))) = false => trivial)) (of_decide_eq_true k16))) (ai ((fun k18 : (decide (v7 > 0)) = true => (fun _ : v7 > 0 => (fun k17 : (!(F134 (table.getD (Int.toNat v7) default))) = false => (Imps.refl (eNetPrefix (F136 (table.getD (Int.toNat (v7 - 1)) default)))))) (of_decide_eq_true k18))) (ai ((fun k20 : (decide (v7 > 0)) = true => (fun _ : v7 > 0 => (fun k19 : (!(F134 (table.getD (Int.toNat v7) default))) = false => (Imps.refl (eNetPrefix (F136 (table.getD (Int.toNat v7) default)))))) (of_decide_eq_true k20))) (ai (fun h21 : (bif (!(F134 (table.getD (Int.toNat v7) default))) then true else (bif decide (v7 > 0) then decide ((F135 (F136 (table.getD (Int.toNat (v7 - 1)) default)) (F136 (table.getD (Int.toNat v7) default))) ≥ 0) else false)) = true => (fun hF : (false : Bool) = (F58 table) => ai (congrArg (fun r : Bool => (.bool r : Value)) hF) (trivial)) (finR (runL_ret hI0 (condT h2 (condT h21 (rfl)))) rfl)) (fun h21 : (bif (!(F134 (table.getD (Int.toNat v7) default))) then true else (bif decide (v7 > 0) then decide ((F135 (F136 (table.getD (Int.toNat (v7 - 1)) default)) (F136 (table.getD (Int.toNat v7) default))) ≥ 0) else false)) = false => ai ((by unfold i64ok; omega : i64ok (v7 + 1))) (Exists.intro (p := fun j : Nat × Int => (fun (v7_ : Int) => (((.int .i64 (table.length : Int) : Value) = .int .i64 (table.length : Int)) ∧ ((.int .i64 (v7 + 1) : Value) = .int .i64 v7_) ∧ (Imp (.l 4 eHelloEntry table) (.l 4 eHelloEntry table)) ∧ ((runL (F58_s0 table) j.1 j.2 = (runL (F58_s0 table) ((Int.toNat ((table.length : Int) - 0)) + 1) 0) ∧ Int.toNat ((table.length : Int) - v7_) < j.1 ∧ (0 : Int) ≤ v7_) ∧ j.1 < i0.1))) j.2) (m0, (v7 + 1)) (ai (rfl) (ai (rfl) (ai ((Imp.refl _)) (ai (ai (runL_next hI0 (condT h2 (condF h21 (rfl)))) (ai ((by omega : Int.toNat ((table.length : Int) - (v7 + 1)) < m0)) ((by omega : (0 : Int) ≤ (v7 + 1))))) hl0))))))))))))))))))) (of_decide_eq_true h2)) (fun h2 : (decide (v7 < (table.length : Int))) = false => (fun _ : ¬ v7 < (table.length : Int) => (fun hD0_22 : (runL (F58_s0 table) ((Int.toNat ((table.length : Int) - 0)) + 1) 0) = Lp.done v7 => (fun hF : (decide ((table.length : Int) ≤ 8) : Bool) = (F58 table) => ai (congrArg (fun r : Bool => (.bool r : Value)) hF) (trivial)) (finD hD0_22 (rfl))) (runL_done hI0 (condF h2 (rfl)))) (of_decide_eq_false h2))) (i0.1 - 1) i0.2 (hd1 hi0.1 hi0.2.1) (hd2 hi0.2.1) (hd3 hi0.2.1) hi0.2.2)) (by kernel_rfl)
structure HelloKey where
  Id : Int
  Secret : Int
  deriving DecidableEq, Inhabited
def eHelloKey (x : HelloKey) : List Dat := [.v (vI x.Id), .v (vI x.Secret)]
def F61_s0 (keys : List HelloKey) : Int → Lp Int Bool := fun i40 =>
  bif (decide (i40 < (keys.length : Int))) then (bif (bif (bif (!(decide (1 ≤ ((keys.getD (Int.toNat i40) default).Id) ∧ ((keys.getD (Int.toNat i40) default).Id) ≤ 9))) then true else (!(decide (1 ≤ ((keys.getD (Int.toNat i40) default).Secret) ∧ ((keys.getD (Int.toNat i40) default).Secret) ≤ 2147483646)))) then true else (bif decide (i40 > 0) then decide ((keys.getD (Int.toNat (i40 - 1)) default).Id ≥ (keys.getD (Int.toNat i40) default).Id) else false)) then (.ret false) else (.next (i40 + 1))) else (.done i40)
def F61 (keys : List HelloKey) : Bool :=
  bif (!(decide (1 ≤ (keys.length : Int) ∧ (keys.length : Int) ≤ 3))) then false else ((runL (F61_s0 keys) ((Int.toNat ((keys.length : Int) - 0)) + 1) 0).fin (fun r => r) (fun i40 => true))
def S61 (keys : List HelloKey) : Spec := ⟨[.r (.c (.l 2 eHelloKey keys))], .v (.bool (F61 keys)), True⟩
theorem ok61 (keys : List HelloKey) : (S61 keys).ok Try.prog 61 :=
  fnG_ok mixed (fn := Try.f61) (ct := .seqk [(0, 0)] (.no) (.seq (.seq (.reg [(2, .call 140 (S140 (decide (1 ≤ (keys.length : Int) ∧ (keys.length : Int) ≤ 3)) (keys.length : Int) 1 3) (oa140 (keys.length : Int) 1 3) none)]) (.cond (.seq (.no) (.no)) (.no))) (.seq (.seqk [(0, 0)] (.no) (.blk (.loop (ι := Nat × Int) (fun i => (fun (i40 : Int) => (⟨[(0, some (.h 0 0)), (3, some (.v (vI i40)))], [(0, some (.shr none (.l 2 eHelloKey keys)))], 1⟩ : St)) i.2) (fun i => runL (F61_s0 keys) i.1 i.2 = (runL (F61_s0 keys) ((Int.toNat ((keys.length : Int) - 0)) + 1) 0) ∧ (fun (i40 : Int) => (Int.toNat ((keys.length : Int) - i40) < i.1 ∧ (0 : Int) ≤ i40)) i.2) (fun i => i.1) (((Int.toNat ((keys.length : Int) - 0)) + 1), 0) (fun i => (fun (i40 : Int) => (.seq (.seq (.no) (.cond (.no) (.no))) (.seq (.blk (.seq (.reg [(5, .call 140 (S140 (decide (1 ≤ ((keys.getD (Int.toNat i40) default).Id) ∧ ((keys.getD (Int.toNat i40) default).Id) ≤ 9)) ((keys.getD (Int.toNat i40) default).Id) 1 9) (oa140 ((keys.getD (Int.toNat i40) default).Id) 1 9) none), (13, .call 140 (S140 (decide (1 ≤ ((keys.getD (Int.toNat i40) default).Secret) ∧ ((keys.getD (Int.toNat i40) default).Secret) ≤ 2147483646)) ((keys.getD (Int.toNat i40) default).Secret) 1 2147483646) (oa140 ((keys.getD (Int.toNat i40) default).Secret) 1 2147483646) none), (22, .bnd)]) (.cond (.seq (.no) (.no)) (.no)))) (.reg [(1, .bnd)])))) i.2)))) (.seq (.no) (.no))))) Try.func61 (fun (_ : True) => fun (_ : keys.length ≤ 9223372036854775807) => ai (trivial) (ai ((Imp.refl (.v (vI (keys.length : Int))))) (ai ((Imp.refl (.v (vI 1)))) (ai ((Imp.refl (.v (vI 3)))) (ai (fun h1 : (!(decide (1 ≤ (keys.length : Int) ∧ (keys.length : Int) ≤ 3))) = true => (fun _ : ¬ (1 ≤ (keys.length : Int) ∧ (keys.length : Int) ≤ 3) => (fun hF : (false : Bool) = (F61 keys) => ai (congrArg (fun r : Bool => (.bool r : Value)) hF) (trivial)) (condT h1 (rfl))) (of_decide_eq_false (notET h1))) (fun h1 : (!(decide (1 ≤ (keys.length : Int) ∧ (keys.length : Int) ≤ 3))) = false => (fun _ : 1 ≤ (keys.length : Int) ∧ (keys.length : Int) ≤ 3 => fun (_ : keys.length ≤ 9223372036854775807) => ai (ai (rfl) (ai ((Imp.refl _)) ((ai (rfl : runL (F61_s0 keys) ((Int.toNat ((keys.length : Int) - 0)) + 1) 0 = (runL (F61_s0 keys) ((Int.toNat ((keys.length : Int) - 0)) + 1) 0)) (ai ((Nat.lt_succ_self _ : Int.toNat ((keys.length : Int) - 0) < ((Int.toNat ((keys.length : Int) - 0)) + 1))) ((by omega : (0 : Int) ≤ 0)))))) : ((.int .i64 0 : Value) = .int .i64 0) ∧ (Imp (.l 2 eHelloKey keys) (.l 2 eHelloKey keys)) ∧ (runL (F61_s0 keys) ((Int.toNat ((keys.length : Int) - 0)) + 1) 0 = (runL (F61_s0 keys) ((Int.toNat ((keys.length : Int) - 0)) + 1) 0) ∧ Int.toNat ((keys.length : Int) - 0) < ((Int.toNat ((keys.length : Int) - 0)) + 1) ∧ (0 : Int) ≤ 0)) (fun (i0 : Nat × Int) (hi0 : runL (F61_s0 keys) i0.1 i0.2 = (runL (F61_s0 keys) ((Int.toNat ((keys.length : Int) - 0)) + 1) 0) ∧ (fun (i40 : Int) => (Int.toNat ((keys.length : Int) - i40) < i0.1 ∧ (0 : Int) ≤ i40)) i0.2) => (fun (m0 : Nat) (i40 : Int) (hI0 : runL (F61_s0 keys) (m0 + 1) i40 = (runL (F61_s0 keys) ((Int.toNat ((keys.length : Int) - 0)) + 1) 0)) (_ : Int.toNat ((keys.length : Int) - i40) < m0 + 1) (hl0 : m0 < i0.1) (_ : (0 : Int) ≤ i40) => ai (fun h3 : (decide (i40 < (keys.length : Int))) = true => (fun _ : i40 < (keys.length : Int) => ai ((by omega : 0 ≤ i40 ∧ i40 < (keys.length : Int))) (ai (trivial) (ai ((Imp.refl (.v (vI ((keys.getD (Int.toNat i40) default).Id))))) (ai ((Imp.refl (.v (vI 1)))) (ai ((Imp.refl (.v (vI 9)))) (ai ((fun k4 : (!(decide (1 ≤ ((keys.getD (Int.toNat i40) default).Id) ∧ ((keys.getD (Int.toNat i40) default).Id) ≤ 9))) = false => (fun _ : 1 ≤ ((keys.getD (Int.toNat i40) default).Id) ∧ ((keys.getD (Int.toNat i40) default).Id) ≤ 9 => (by omega : 0 ≤ i40 ∧ i40 < (keys.length : Int))) (of_decide_eq_true (notEF k4)))) (ai ((fun k5 : (!(decide (1 ≤ ((keys.getD (Int.toNat i40) default).Id) ∧ ((keys.getD (Int.toNat i40) default).Id) ≤ 9))) = false => (fun _ : 1 ≤ ((keys.getD (Int.toNat i40) default).Id) ∧ ((keys.getD (Int.toNat i40) default).Id) ≤ 9 => trivial) (of_decide_eq_true (notEF k5)))) (ai ((fun k6 : (!(decide (1 ≤ ((keys.getD (Int.toNat i40) default).Id) ∧ ((keys.getD (Int.toNat i40) default).Id) ≤ 9))) = false => (fun _ : 1 ≤ ((keys.getD (Int.toNat i40) default).Id) ∧ ((keys.getD (Int.toNat i40) default).Id) ≤ 9 => (Imp.refl (.v (vI ((keys.getD (Int.toNat i40) default).Secret))))) (of_decide_eq_true (notEF k6)))) (ai ((fun k7 : (!(decide (1 ≤ ((keys.getD (Int.toNat i40) default).Id) ∧ ((keys.getD (Int.toNat i40) default).Id) ≤ 9))) = false => (fun _ : 1 ≤ ((keys.getD (Int.toNat i40) default).Id) ∧ ((keys.getD (Int.toNat i40) default).Id) ≤ 9 => (Imp.refl (.v (vI 1)))) (of_decide_eq_true (notEF k7)))) (ai ((fun k8 : (!(decide (1 ≤ ((keys.getD (Int.toNat i40) default).Id) ∧ ((keys.getD (Int.toNat i40) default).Id) ≤ 9))) = false => (fun _ : 1 ≤ ((keys.getD (Int.toNat i40) default).Id) ∧ ((keys.getD (Int.toNat i40) default).Id) ≤ 9 => (Imp.refl (.v (vI 2147483646)))) (of_decide_eq_true (notEF k8)))) (ai ((fun k10 : (decide (i40 > 0)) = true => (fun _ : i40 > 0 => (fun k9 : (bif (!(decide (1 ≤ ((keys.getD (Int.toNat i40) default).Id) ∧ ((keys.getD (Int.toNat i40) default).Id) ≤ 9))) then true else (!(decide (1 ≤ ((keys.getD (Int.toNat i40) default).Secret) ∧ ((keys.getD (Int.toNat i40) default).Secret) ≤ 2147483646)))) = false => (fun _ : 1 ≤ ((keys.getD (Int.toNat i40) default).Secret) ∧ ((keys.getD (Int.toNat i40) default).Secret) ≤ 2147483646 => (fun _ : 1 ≤ ((keys.getD (Int.toNat i40) default).Id) ∧ ((keys.getD (Int.toNat i40) default).Id) ≤ 9 => (by unfold i64ok; omega : i64ok (i40 - 1))) (of_decide_eq_true (notEF (orF1 k9)))) (of_decide_eq_true (notEF (orF2 k9))))) (of_decide_eq_true k10))) (ai ((fun k12 : (decide (i40 > 0)) = true => (fun _ : i40 > 0 => (fun k11 : (bif (!(decide (1 ≤ ((keys.getD (Int.toNat i40) default).Id) ∧ ((keys.getD (Int.toNat i40) default).Id) ≤ 9))) then true else (!(decide (1 ≤ ((keys.getD (Int.toNat i40) default).Secret) ∧ ((keys.getD (Int.toNat i40) default).Secret) ≤ 2147483646)))) = false => (fun _ : 1 ≤ ((keys.getD (Int.toNat i40) default).Secret) ∧ ((keys.getD (Int.toNat i40) default).Secret) ≤ 2147483646 => (fun _ : 1 ≤ ((keys.getD (Int.toNat i40) default).Id) ∧ ((keys.getD (Int.toNat i40) default).Id) ≤ 9 => (by omega : 0 ≤ (i40 - 1) ∧ (i40 - 1) < (keys.length : Int))) (of_decide_eq_true (notEF (orF1 k11)))) (of_decide_eq_true (notEF (orF2 k11))))) (of_decide_eq_true k12))) (ai ((fun k14 : (decide (i40 > 0)) = true => (fun _ : i40 > 0 => (fun k13 : (bif (!(decide (1 ≤ ((keys.getD (Int.toNat i40) default).Id) ∧ ((keys.getD (Int.toNat i40) default).Id) ≤ 9))) then true else (!(decide (1 ≤ ((keys.getD (Int.toNat i40) default).Secret) ∧ ((keys.getD (Int.toNat i40) default).Secret) ≤ 2147483646)))) = false => (fun _ : 1 ≤ ((keys.getD (Int.toNat i40) default).Secret) ∧ ((keys.getD (Int.toNat i40) default).Secret) ≤ 2147483646 => (fun _ : 1 ≤ ((keys.getD (Int.toNat i40) default).Id) ∧ ((keys.getD (Int.toNat i40) default).Id) ≤ 9 => (by omega : 0 ≤ i40 ∧ i40 < (keys.length : Int))) (of_decide_eq_true (notEF (orF1 k13)))) (of_decide_eq_true (notEF (orF2 k13))))) (of_decide_eq_true k14))) (ai (fun h15 : (bif (bif (!(decide (1 ≤ ((keys.getD (Int.toNat i40) default).Id) ∧ ((keys.getD (Int.toNat i40) default).Id) ≤ 9))) then true else (!(decide (1 ≤ ((keys.getD (Int.toNat i40) default).Secret) ∧ ((keys.getD (Int.toNat i40) default).Secret) ≤ 2147483646)))) then true else (bif decide (i40 > 0) then decide ((keys.getD (Int.toNat (i40 - 1)) default).Id ≥ (keys.getD (Int.toNat i40) default).Id) else false)) = true => (fun hF : (false : Bool) = (F61 keys) => ai (congrArg (fun r : Bool => (.bool r : Value)) hF) (trivial)) (condF h1 (finR (runL_ret hI0 (condT h3 (condT h15 (rfl)))) rfl))) (fun h15 : (bif (bif (!(decide (1 ≤ ((keys.getD (Int.toNat i40) default).Id) ∧ ((keys.getD (Int.toNat i40) default).Id) ≤ 9))) then true else (!(decide (1 ≤ ((keys.getD (Int.toNat i40) default).Secret) ∧ ((keys.getD (Int.toNat i40) default).Secret) ≤ 2147483646)))) then true else (bif decide (i40 > 0) then decide ((keys.getD (Int.toNat (i40 - 1)) default).Id ≥ (keys.getD (Int.toNat i40) default).Id) else false)) = false => (fun _ : 1 ≤ ((keys.getD (Int.toNat i40) default).Secret) ∧ ((keys.getD (Int.toNat i40) default).Secret) ≤ 2147483646 => (fun _ : 1 ≤ ((keys.getD (Int.toNat i40) default).Id) ∧ ((keys.getD (Int.toNat i40) default).Id) ≤ 9 => ai ((by unfold i64ok; omega : i64ok (i40 + 1))) (Exists.intro (p := fun j : Nat × Int => (fun (i40_ : Int) => (((.int .i64 (i40 + 1) : Value) = .int .i64 i40_) ∧ (Imp (.l 2 eHelloKey keys) (.l 2 eHelloKey keys)) ∧ ((runL (F61_s0 keys) j.1 j.2 = (runL (F61_s0 keys) ((Int.toNat ((keys.length : Int) - 0)) + 1) 0) ∧ Int.toNat ((keys.length : Int) - i40_) < j.1 ∧ (0 : Int) ≤ i40_) ∧ j.1 < i0.1))) j.2) (m0, (i40 + 1)) (ai (rfl) (ai ((Imp.refl _)) (ai (ai (runL_next hI0 (condT h3 (condF h15 (rfl)))) (ai ((by omega : Int.toNat ((keys.length : Int) - (i40 + 1)) < m0)) ((by omega : (0 : Int) ≤ (i40 + 1))))) hl0))))) (of_decide_eq_true (notEF (orF1 (orF1 h15))))) (of_decide_eq_true (notEF (orF2 (orF1 h15))))))))))))))))))) (of_decide_eq_true h3)) (fun h3 : (decide (i40 < (keys.length : Int))) = false => (fun _ : ¬ i40 < (keys.length : Int) => (fun hD0_16 : (runL (F61_s0 keys) ((Int.toNat ((keys.length : Int) - 0)) + 1) 0) = Lp.done i40 => (fun hF : (true : Bool) = (F61 keys) => ai (congrArg (fun r : Bool => (.bool r : Value)) hF) (trivial)) (condF h1 (finD hD0_16 (rfl)))) (runL_done hI0 (condF h3 (rfl)))) (of_decide_eq_false h3))) (i0.1 - 1) i0.2 (hd1 hi0.1 hi0.2.1) (hd2 hi0.2.1) (hd3 hi0.2.1) hi0.2.2)) (of_decide_eq_true (notEF h1)))))))) (by kernel_rfl)
def F60_s0 (keys : List HelloKey) : Int → Lp Int Bool := fun v7 =>
  bif (decide (v7 < (keys.length : Int))) then (bif (bif (bif (!(decide (1 ≤ ((keys.getD (Int.toNat v7) default).Id) ∧ ((keys.getD (Int.toNat v7) default).Id) ≤ 9))) then true else (!(decide (1 ≤ ((keys.getD (Int.toNat v7) default).Secret) ∧ ((keys.getD (Int.toNat v7) default).Secret) ≤ 2147483646)))) then true else (bif decide (v7 > 0) then decide ((keys.getD (Int.toNat (v7 - 1)) default).Id ≥ (keys.getD (Int.toNat v7) default).Id) else false)) then (.ret false) else (.next (v7 + 1))) else (.done v7)
def F60 (keys : List HelloKey) : Bool :=
  (runL (F60_s0 keys) ((Int.toNat ((keys.length : Int) - 0)) + 1) 0).fin (fun r => r) (fun v7 => (decide (1 ≤ (keys.length : Int) ∧ (keys.length : Int) ≤ 3)))
def S60 (keys : List HelloKey) : Spec := ⟨[.r (.c (.l 2 eHelloKey keys))], .v (.bool (F60 keys)), True⟩
theorem ok60 (keys : List HelloKey) : (S60 keys).ok Try.prog 60 :=
  fnG_ok mixed (fn := Try.f60) (ct := .seqk [(0, 0)] (.no) (.seq (.seqk [(0, 0), (5, 0)] (.no) (.blk (.loop (ι := Nat × Int) (fun i => (fun (v7 : Int) => (⟨[(0, some (.h 0 0)), (5, some (.h 0 0)), (6, some (.v (vI (keys.length : Int)))), (7, some (.v (vI v7)))], [(0, some (.shr none (.l 2 eHelloKey keys)))], 1⟩ : St)) i.2) (fun i => runL (F60_s0 keys) i.1 i.2 = (runL (F60_s0 keys) ((Int.toNat ((keys.length : Int) - 0)) + 1) 0) ∧ (fun (v7 : Int) => (Int.toNat ((keys.length : Int) - v7) < i.1 ∧ (0 : Int) ≤ v7)) i.2) (fun i => i.1) (((Int.toNat ((keys.length : Int) - 0)) + 1), 0) (fun i => (fun (v7 : Int) => (.seq (.no) (.seq (.cond (.no) (.no)) (.seq (.blk (.seq (.no) (.seq (.reg [(2, .call 139 (S139 (decide (1 ≤ ((keys.getD (Int.toNat v7) default).Id) ∧ ((keys.getD (Int.toNat v7) default).Id) ≤ 9)) ((keys.getD (Int.toNat v7) default).Id) 1 9) (oa139 ((keys.getD (Int.toNat v7) default).Id) 1 9) none), (7, .call 139 (S139 (decide (1 ≤ ((keys.getD (Int.toNat v7) default).Secret) ∧ ((keys.getD (Int.toNat v7) default).Secret) ≤ 2147483646)) ((keys.getD (Int.toNat v7) default).Secret) 1 2147483646) (oa139 ((keys.getD (Int.toNat v7) default).Secret) 1 2147483646) none), (16, .bnd)]) (.cond (.seq (.no) (.no)) (.no))))) (.reg [(0, .bnd)]))))) i.2)))) (.seq (.reg [(2, .call 139 (S139 (decide (1 ≤ (keys.length : Int) ∧ (keys.length : Int) ≤ 3)) (keys.length : Int) 1 3) (oa139 (keys.length : Int) 1 3) none)]) (.no)))) Try.func60 (fun (_ : True) => fun (_ : keys.length ≤ 9223372036854775807) => fun (_ : keys.length ≤ 9223372036854775807) => fun (_ : keys.length ≤ 9223372036854775807) => ai (ai (rfl) (ai (rfl) (ai ((Imp.refl _)) ((ai (rfl : runL (F60_s0 keys) ((Int.toNat ((keys.length : Int) - 0)) + 1) 0 = (runL (F60_s0 keys) ((Int.toNat ((keys.length : Int) - 0)) + 1) 0)) (ai ((Nat.lt_succ_self _ : Int.toNat ((keys.length : Int) - 0) < ((Int.toNat ((keys.length : Int) - 0)) + 1))) ((by omega : (0 : Int) ≤ 0))))))) : ((.int .i64 (keys.length : Int) : Value) = .int .i64 (keys.length : Int)) ∧ ((.int .i64 0 : Value) = .int .i64 0) ∧ (Imp (.l 2 eHelloKey keys) (.l 2 eHelloKey keys)) ∧ (runL (F60_s0 keys) ((Int.toNat ((keys.length : Int) - 0)) + 1) 0 = (runL (F60_s0 keys) ((Int.toNat ((keys.length : Int) - 0)) + 1) 0) ∧ Int.toNat ((keys.length : Int) - 0) < ((Int.toNat ((keys.length : Int) - 0)) + 1) ∧ (0 : Int) ≤ 0)) (fun (i0 : Nat × Int) (hi0 : runL (F60_s0 keys) i0.1 i0.2 = (runL (F60_s0 keys) ((Int.toNat ((keys.length : Int) - 0)) + 1) 0) ∧ (fun (v7 : Int) => (Int.toNat ((keys.length : Int) - v7) < i0.1 ∧ (0 : Int) ≤ v7)) i0.2) => (fun (m0 : Nat) (v7 : Int) (hI0 : runL (F60_s0 keys) (m0 + 1) v7 = (runL (F60_s0 keys) ((Int.toNat ((keys.length : Int) - 0)) + 1) 0)) (_ : Int.toNat ((keys.length : Int) - v7) < m0 + 1) (hl0 : m0 < i0.1) (_ : (0 : Int) ≤ v7) => ai (fun h2 : (decide (v7 < (keys.length : Int))) = true => (fun _ : v7 < (keys.length : Int) => ai ((by omega : 0 ≤ v7 ∧ v7 < (keys.length : Int))) (ai (trivial) (ai ((Imp.refl (.v (vI ((keys.getD (Int.toNat v7) default).Id))))) (ai ((Imp.refl (.v (vI 1)))) (ai ((Imp.refl (.v (vI 9)))) (ai ((fun k3 : (!(decide (1 ≤ ((keys.getD (Int.toNat v7) default).Id) ∧ ((keys.getD (Int.toNat v7) default).Id) ≤ 9))) = false => (fun _ : 1 ≤ ((keys.getD (Int.toNat v7) default).Id) ∧ ((keys.getD (Int.toNat v7) default).Id) ≤ 9 => trivial) (of_decide_eq_true (notEF k3)))) (ai ((fun k4 : (!(decide (1 ≤ ((keys.getD (Int.toNat v7) default).Id) ∧ ((keys.getD (Int.toNat v7) default).Id) ≤ 9))) = false => (fun _ : 1 ≤ ((keys.getD (Int.toNat v7) default).Id) ∧ ((keys.getD (Int.toNat v7) default).Id) ≤ 9 => (Imp.refl (.v (vI ((keys.getD (Int.toNat v7) default).Secret))))) (of_decide_eq_true (notEF k4)))) (ai ((fun k5 : (!(decide (1 ≤ ((keys.getD (Int.toNat v7) default).Id) ∧ ((keys.getD (Int.toNat v7) default).Id) ≤ 9))) = false => (fun _ : 1 ≤ ((keys.getD (Int.toNat v7) default).Id) ∧ ((keys.getD (Int.toNat v7) default).Id) ≤ 9 => (Imp.refl (.v (vI 1)))) (of_decide_eq_true (notEF k5)))) (ai ((fun k6 : (!(decide (1 ≤ ((keys.getD (Int.toNat v7) default).Id) ∧ ((keys.getD (Int.toNat v7) default).Id) ≤ 9))) = false => (fun _ : 1 ≤ ((keys.getD (Int.toNat v7) default).Id) ∧ ((keys.getD (Int.toNat v7) default).Id) ≤ 9 => (Imp.refl (.v (vI 2147483646)))) (of_decide_eq_true (notEF k6)))) (ai ((fun k8 : (decide (v7 > 0)) = true => (fun _ : v7 > 0 => (fun k7 : (bif (!(decide (1 ≤ ((keys.getD (Int.toNat v7) default).Id) ∧ ((keys.getD (Int.toNat v7) default).Id) ≤ 9))) then true else (!(decide (1 ≤ ((keys.getD (Int.toNat v7) default).Secret) ∧ ((keys.getD (Int.toNat v7) default).Secret) ≤ 2147483646)))) = false => (fun _ : 1 ≤ ((keys.getD (Int.toNat v7) default).Secret) ∧ ((keys.getD (Int.toNat v7) default).Secret) ≤ 2147483646 => (fun _ : 1 ≤ ((keys.getD (Int.toNat v7) default).Id) ∧ ((keys.getD (Int.toNat v7) default).Id) ≤ 9 => (by unfold i64ok; omega : i64ok (v7 - 1))) (of_decide_eq_true (notEF (orF1 k7)))) (of_decide_eq_true (notEF (orF2 k7))))) (of_decide_eq_true k8))) (ai ((fun k10 : (decide (v7 > 0)) = true => (fun _ : v7 > 0 => (fun k9 : (bif (!(decide (1 ≤ ((keys.getD (Int.toNat v7) default).Id) ∧ ((keys.getD (Int.toNat v7) default).Id) ≤ 9))) then true else (!(decide (1 ≤ ((keys.getD (Int.toNat v7) default).Secret) ∧ ((keys.getD (Int.toNat v7) default).Secret) ≤ 2147483646)))) = false => (fun _ : 1 ≤ ((keys.getD (Int.toNat v7) default).Secret) ∧ ((keys.getD (Int.toNat v7) default).Secret) ≤ 2147483646 => (fun _ : 1 ≤ ((keys.getD (Int.toNat v7) default).Id) ∧ ((keys.getD (Int.toNat v7) default).Id) ≤ 9 => (by omega : 0 ≤ (v7 - 1) ∧ (v7 - 1) < (keys.length : Int))) (of_decide_eq_true (notEF (orF1 k9)))) (of_decide_eq_true (notEF (orF2 k9))))) (of_decide_eq_true k10))) (ai (fun h11 : (bif (bif (!(decide (1 ≤ ((keys.getD (Int.toNat v7) default).Id) ∧ ((keys.getD (Int.toNat v7) default).Id) ≤ 9))) then true else (!(decide (1 ≤ ((keys.getD (Int.toNat v7) default).Secret) ∧ ((keys.getD (Int.toNat v7) default).Secret) ≤ 2147483646)))) then true else (bif decide (v7 > 0) then decide ((keys.getD (Int.toNat (v7 - 1)) default).Id ≥ (keys.getD (Int.toNat v7) default).Id) else false)) = true => (fun hF : (false : Bool) = (F60 keys) => ai (congrArg (fun r : Bool => (.bool r : Value)) hF) (trivial)) (finR (runL_ret hI0 (condT h2 (condT h11 (rfl)))) rfl)) (fun h11 : (bif (bif (!(decide (1 ≤ ((keys.getD (Int.toNat v7) default).Id) ∧ ((keys.getD (Int.toNat v7) default).Id) ≤ 9))) then true else (!(decide (1 ≤ ((keys.getD (Int.toNat v7) default).Secret) ∧ ((keys.getD (Int.toNat v7) default).Secret) ≤ 2147483646)))) then true else (bif decide (v7 > 0) then decide ((keys.getD (Int.toNat (v7 - 1)) default).Id ≥ (keys.getD (Int.toNat v7) default).Id) else false)) = false => (fun _ : 1 ≤ ((keys.getD (Int.toNat v7) default).Secret) ∧ ((keys.getD (Int.toNat v7) default).Secret) ≤ 2147483646 => (fun _ : 1 ≤ ((keys.getD (Int.toNat v7) default).Id) ∧ ((keys.getD (Int.toNat v7) default).Id) ≤ 9 => ai ((by unfold i64ok; omega : i64ok (v7 + 1))) (Exists.intro (p := fun j : Nat × Int => (fun (v7_ : Int) => (((.int .i64 (keys.length : Int) : Value) = .int .i64 (keys.length : Int)) ∧ ((.int .i64 (v7 + 1) : Value) = .int .i64 v7_) ∧ (Imp (.l 2 eHelloKey keys) (.l 2 eHelloKey keys)) ∧ ((runL (F60_s0 keys) j.1 j.2 = (runL (F60_s0 keys) ((Int.toNat ((keys.length : Int) - 0)) + 1) 0) ∧ Int.toNat ((keys.length : Int) - v7_) < j.1 ∧ (0 : Int) ≤ v7_) ∧ j.1 < i0.1))) j.2) (m0, (v7 + 1)) (ai (rfl) (ai (rfl) (ai ((Imp.refl _)) (ai (ai (runL_next hI0 (condT h2 (condF h11 (rfl)))) (ai ((by omega : Int.toNat ((keys.length : Int) - (v7 + 1)) < m0)) ((by omega : (0 : Int) ≤ (v7 + 1))))) hl0)))))) (of_decide_eq_true (notEF (orF1 (orF1 h11))))) (of_decide_eq_true (notEF (orF2 (orF1 h11))))))))))))))))) (of_decide_eq_true h2)) (fun h2 : (decide (v7 < (keys.length : Int))) = false => (fun _ : ¬ v7 < (keys.length : Int) => (fun hD0_12 : (runL (F60_s0 keys) ((Int.toNat ((keys.length : Int) - 0)) + 1) 0) = Lp.done v7 => ai (trivial) (ai ((Imp.refl (.v (vI (keys.length : Int))))) (ai ((Imp.refl (.v (vI 1)))) (ai ((Imp.refl (.v (vI 3)))) ((fun hF : ((decide (1 ≤ (keys.length : Int) ∧ (keys.length : Int) ≤ 3)) : Bool) = (F60 keys) => ai (congrArg (fun r : Bool => (.bool r : Value)) hF) (trivial)) (finD hD0_12 (rfl))))))) (runL_done hI0 (condF h2 (rfl)))) (of_decide_eq_false h2))) (i0.1 - 1) i0.2 (hd1 hi0.1 hi0.2.1) (hd2 hi0.2.1) (hd3 hi0.2.1) hi0.2.2)) (by kernel_rfl)
structure HelloChange where
  Kind : Int
  Entry : HelloEntry
  deriving DecidableEq, Inhabited
def eHelloChange (x : HelloChange) : List Dat := [.v (vI x.Kind), .v (vI x.Entry.Addr), .v (vI x.Entry.Len), .v (vI x.Entry.Cost), .v (vI x.Entry.Label)]
theorem eqlT51 (x0 y0 : Int) (x1 y1 : Int) (x2 y2 : Int) (x3 y3 : Int) (p q : Operand) (w : World) : (do eqGuard .eql 51 p q (.agg #[.int .i64 x0, .int .i64 x1, .int .i64 x2, .int .i64 x3]) (.agg #[.int .i64 y0, .int .i64 y1, .int .i64 y2, .int .i64 y3]); binOp .eql 51 (.agg #[.int .i64 x0, .int .i64 x1, .int .i64 x2, .int .i64 x3]) (.agg #[.int .i64 y0, .int .i64 y1, .int .i64 y2, .int .i64 y3])).run Try.prog w = .ok (.bool ((x0 == y0) && ((x1 == y1) && ((x2 == y2) && (x3 == y3))))) w := by
  by_cases h0 : x0 = y0
  case neg => simp [go_sem, h0]
  by_cases h1 : x1 = y1
  case neg => simp [go_sem, h0, h1]
  by_cases h2 : x2 = y2
  case neg => simp [go_sem, h0, h1, h2]
  by_cases h3 : x3 = y3
  case neg => simp [go_sem, h0, h1, h2, h3]
  simp [go_sem, h0, h1, h2, h3]
def F142 (c : HelloChange) : Bool :=
  bif (c.Kind == 0) then (bif (c.Kind == 0) then ((c.Entry.Addr == 0) && ((c.Entry.Len == 0) && ((c.Entry.Cost == 0) && (c.Entry.Label == 0)))) else (bif (c.Kind == 1) then (F137 c.Entry) else (bif (c.Kind == 2) then (bif (bif (F202 c.Entry) then (c.Entry.Cost == 0) else false) then (c.Entry.Label == 0) else false) else false))) else (bif (c.Kind == 3) then ((c.Entry.Addr == 0) && ((c.Entry.Len == 0) && ((c.Entry.Cost == 0) && (c.Entry.Label == 0)))) else (bif (c.Kind == 1) then (F137 c.Entry) else (bif (c.Kind == 2) then (bif (bif (F202 c.Entry) then (c.Entry.Cost == 0) else false) then (c.Entry.Label == 0) else false) else false)))
def S142 (c : HelloChange) : Spec := ⟨[.r (.g (eHelloChange c))], .v (.bool (F142 c)), True⟩
theorem ok142 (c : HelloChange) : (S142 c).ok Try.prog 142 :=
  fnG_ok mixed (fn := Try.f142) (ct := .seq (.no) (.seq (.seq (.no) (.blk (.seq (.seq (.no) (.cond (.no) (.no))) (.cond (.seq (.reg [(3, .bin .eql 51 (.agg #[.int .i64 c.Entry.Addr, .int .i64 c.Entry.Len, .int .i64 c.Entry.Cost, .int .i64 c.Entry.Label]) (.agg #[.int .i64 0, .int .i64 0, .int .i64 0, .int .i64 0]) (.bool ((c.Entry.Addr == 0) && ((c.Entry.Len == 0) && ((c.Entry.Cost == 0) && (c.Entry.Label == 0))))) rfl (eqlT51 c.Entry.Addr 0 c.Entry.Len 0 c.Entry.Cost 0 c.Entry.Label 0))]) (.no)) (.seq (.no) (.cond (.seq (.reg [(2, .call 137 (S137 c.Entry) (ok137 c.Entry) none)]) (.no)) (.seq (.no) (.cond (.seq (.reg [(2, .call 202 (S202 c.Entry) (ok202 c.Entry) none)]) (.no)) (.no))))))))) (.seq (.no) (.no)))) Try.func142 (fun (_ : True) => ai (fun h1 : (c.Kind == 0) = true => (fun _ : c.Kind = 0 => ai (fun h2 : (c.Kind == 0) = true => (fun _ : c.Kind = 0 => ai ((Eq.refl (.agg #[.int .i64 c.Entry.Addr, .int .i64 c.Entry.Len, .int .i64 c.Entry.Cost, .int .i64 c.Entry.Label] : Value))) (ai ((Eq.refl (.agg #[.int .i64 0, .int .i64 0, .int .i64 0, .int .i64 0] : Value))) ((fun hF : (((c.Entry.Addr == 0) && ((c.Entry.Len == 0) && ((c.Entry.Cost == 0) && (c.Entry.Label == 0)))) : Bool) = (F142 c) => ai (congrArg (fun r : Bool => (.bool r : Value)) hF) (trivial)) (condT h1 (condT h2 (rfl)))))) (eq_of_beq h2)) (fun h2 : (c.Kind == 0) = false => (fun _ : ¬ c.Kind = 0 => ai (fun h3 : (c.Kind == 1) = true => (fun _ : c.Kind = 1 => ai (trivial) (ai ((Imps.refl (eHelloEntry c.Entry))) ((fun hF : ((F137 c.Entry) : Bool) = (F142 c) => ai (congrArg (fun r : Bool => (.bool r : Value)) hF) (trivial)) (condT h1 (condF h2 (condT h3 (rfl))))))) (eq_of_beq h3)) (fun h3 : (c.Kind == 1) = false => (fun _ : ¬ c.Kind = 1 => ai (fun h4 : (c.Kind == 2) = true => (fun _ : c.Kind = 2 => ai (trivial) (ai ((Imps.refl (eHelloEntry c.Entry))) ((fun hF : ((bif (bif (F202 c.Entry) then (c.Entry.Cost == 0) else false) then (c.Entry.Label == 0) else false) : Bool) = (F142 c) => ai (congrArg (fun r : Bool => (.bool r : Value)) hF) (trivial)) (condT h1 (condF h2 (condF h3 (condT h4 (rfl)))))))) (eq_of_beq h4)) (fun h4 : (c.Kind == 2) = false => (fun _ : ¬ c.Kind = 2 => (fun hF : (false : Bool) = (F142 c) => ai (congrArg (fun r : Bool => (.bool r : Value)) hF) (trivial)) (condT h1 (condF h2 (condF h3 (condF h4 (rfl)))))) (beqF h4))) (beqF h3))) (beqF h2))) (eq_of_beq h1)) (fun h1 : (c.Kind == 0) = false => (fun _ : ¬ c.Kind = 0 => ai (fun h5 : (c.Kind == 3) = true => (fun _ : c.Kind = 3 => ai ((Eq.refl (.agg #[.int .i64 c.Entry.Addr, .int .i64 c.Entry.Len, .int .i64 c.Entry.Cost, .int .i64 c.Entry.Label] : Value))) (ai ((Eq.refl (.agg #[.int .i64 0, .int .i64 0, .int .i64 0, .int .i64 0] : Value))) ((fun hF : (((c.Entry.Addr == 0) && ((c.Entry.Len == 0) && ((c.Entry.Cost == 0) && (c.Entry.Label == 0)))) : Bool) = (F142 c) => ai (congrArg (fun r : Bool => (.bool r : Value)) hF) (trivial)) (condF h1 (condT h5 (rfl)))))) (eq_of_beq h5)) (fun h5 : (c.Kind == 3) = false => (fun _ : ¬ c.Kind = 3 => ai (fun h6 : (c.Kind == 1) = true => (fun _ : c.Kind = 1 => ai (trivial) (ai ((Imps.refl (eHelloEntry c.Entry))) ((fun hF : ((F137 c.Entry) : Bool) = (F142 c) => ai (congrArg (fun r : Bool => (.bool r : Value)) hF) (trivial)) (condF h1 (condF h5 (condT h6 (rfl))))))) (eq_of_beq h6)) (fun h6 : (c.Kind == 1) = false => (fun _ : ¬ c.Kind = 1 => ai (fun h7 : (c.Kind == 2) = true => (fun _ : c.Kind = 2 => ai (trivial) (ai ((Imps.refl (eHelloEntry c.Entry))) ((fun hF : ((bif (bif (F202 c.Entry) then (c.Entry.Cost == 0) else false) then (c.Entry.Label == 0) else false) : Bool) = (F142 c) => ai (congrArg (fun r : Bool => (.bool r : Value)) hF) (trivial)) (condF h1 (condF h5 (condF h6 (condT h7 (rfl)))))))) (eq_of_beq h7)) (fun h7 : (c.Kind == 2) = false => (fun _ : ¬ c.Kind = 2 => (fun hF : (false : Bool) = (F142 c) => ai (congrArg (fun r : Bool => (.bool r : Value)) hF) (trivial)) (condF h1 (condF h5 (condF h6 (condF h7 (rfl)))))) (beqF h7))) (beqF h6))) (beqF h5))) (beqF h1))) (by kernel_rfl)
def F141 (c : HelloChange) : Bool :=
  bif (c.Kind == 0) then (bif (c.Kind == 0) then ((c.Entry.Addr == 0) && ((c.Entry.Len == 0) && ((c.Entry.Cost == 0) && (c.Entry.Label == 0)))) else (bif (c.Kind == 1) then (F134 c.Entry) else (bif (c.Kind == 2) then (bif (bif (F201 (F136 c.Entry)) then (c.Entry.Cost == 0) else false) then (c.Entry.Label == 0) else false) else false))) else (bif (c.Kind == 3) then ((c.Entry.Addr == 0) && ((c.Entry.Len == 0) && ((c.Entry.Cost == 0) && (c.Entry.Label == 0)))) else (bif (c.Kind == 1) then (F134 c.Entry) else (bif (c.Kind == 2) then (bif (bif (F201 (F136 c.Entry)) then (c.Entry.Cost == 0) else false) then (c.Entry.Label == 0) else false) else false)))
def S141 (c : HelloChange) : Spec := ⟨[.r (.g (eHelloChange c))], .v (.bool (F141 c)), True⟩
theorem ok141 (c : HelloChange) : (S141 c).ok Try.prog 141 :=
  fnG_ok mixed (fn := Try.f141) (ct := .seq (.no) (.seq (.seq (.no) (.blk (.seq (.seq (.no) (.cond (.no) (.no))) (.cond (.seq (.reg [(3, .bin .eql 51 (.agg #[.int .i64 c.Entry.Addr, .int .i64 c.Entry.Len, .int .i64 c.Entry.Cost, .int .i64 c.Entry.Label]) (.agg #[.int .i64 0, .int .i64 0, .int .i64 0, .int .i64 0]) (.bool ((c.Entry.Addr == 0) && ((c.Entry.Len == 0) && ((c.Entry.Cost == 0) && (c.Entry.Label == 0))))) rfl (eqlT51 c.Entry.Addr 0 c.Entry.Len 0 c.Entry.Cost 0 c.Entry.Label 0))]) (.no)) (.seq (.no) (.cond (.seq (.reg [(2, .call 134 (S134 c.Entry) (ok134 c.Entry) none)]) (.no)) (.seq (.no) (.cond (.seq (.reg [(2, .call 136 (S136 c.Entry) (ok136 c.Entry) none), (3, .call 201 (S201 (F136 c.Entry)) (ok201 (F136 c.Entry)) none)]) (.no)) (.no))))))))) (.seq (.no) (.no)))) Try.func141 (fun (_ : True) => ai (fun h1 : (c.Kind == 0) = true => (fun _ : c.Kind = 0 => ai (fun h2 : (c.Kind == 0) = true => (fun _ : c.Kind = 0 => ai ((Eq.refl (.agg #[.int .i64 c.Entry.Addr, .int .i64 c.Entry.Len, .int .i64 c.Entry.Cost, .int .i64 c.Entry.Label] : Value))) (ai ((Eq.refl (.agg #[.int .i64 0, .int .i64 0, .int .i64 0, .int .i64 0] : Value))) ((fun hF : (((c.Entry.Addr == 0) && ((c.Entry.Len == 0) && ((c.Entry.Cost == 0) && (c.Entry.Label == 0)))) : Bool) = (F141 c) => ai (congrArg (fun r : Bool => (.bool r : Value)) hF) (trivial)) (condT h1 (condT h2 (rfl)))))) (eq_of_beq h2)) (fun h2 : (c.Kind == 0) = false => (fun _ : ¬ c.Kind = 0 => ai (fun h3 : (c.Kind == 1) = true => (fun _ : c.Kind = 1 => ai (trivial) (ai ((Imps.refl (eHelloEntry c.Entry))) ((fun hF : ((F134 c.Entry) : Bool) = (F141 c) => ai (congrArg (fun r : Bool => (.bool r : Value)) hF) (trivial)) (condT h1 (condF h2 (condT h3 (rfl))))))) (eq_of_beq h3)) (fun h3 : (c.Kind == 1) = false => (fun _ : ¬ c.Kind = 1 => ai (fun h4 : (c.Kind == 2) = true => (fun _ : c.Kind = 2 => ai (trivial) (ai ((Imps.refl (eHelloEntry c.Entry))) (ai (trivial) (ai ((Imps.refl (eNetPrefix (F136 c.Entry)))) ((fun hF : ((bif (bif (F201 (F136 c.Entry)) then (c.Entry.Cost == 0) else false) then (c.Entry.Label == 0) else false) : Bool) = (F141 c) => ai (congrArg (fun r : Bool => (.bool r : Value)) hF) (trivial)) (condT h1 (condF h2 (condF h3 (condT h4 (rfl)))))))))) (eq_of_beq h4)) (fun h4 : (c.Kind == 2) = false => (fun _ : ¬ c.Kind = 2 => (fun hF : (false : Bool) = (F141 c) => ai (congrArg (fun r : Bool => (.bool r : Value)) hF) (trivial)) (condT h1 (condF h2 (condF h3 (condF h4 (rfl)))))) (beqF h4))) (beqF h3))) (beqF h2))) (eq_of_beq h1)) (fun h1 : (c.Kind == 0) = false => (fun _ : ¬ c.Kind = 0 => ai (fun h5 : (c.Kind == 3) = true => (fun _ : c.Kind = 3 => ai ((Eq.refl (.agg #[.int .i64 c.Entry.Addr, .int .i64 c.Entry.Len, .int .i64 c.Entry.Cost, .int .i64 c.Entry.Label] : Value))) (ai ((Eq.refl (.agg #[.int .i64 0, .int .i64 0, .int .i64 0, .int .i64 0] : Value))) ((fun hF : (((c.Entry.Addr == 0) && ((c.Entry.Len == 0) && ((c.Entry.Cost == 0) && (c.Entry.Label == 0)))) : Bool) = (F141 c) => ai (congrArg (fun r : Bool => (.bool r : Value)) hF) (trivial)) (condF h1 (condT h5 (rfl)))))) (eq_of_beq h5)) (fun h5 : (c.Kind == 3) = false => (fun _ : ¬ c.Kind = 3 => ai (fun h6 : (c.Kind == 1) = true => (fun _ : c.Kind = 1 => ai (trivial) (ai ((Imps.refl (eHelloEntry c.Entry))) ((fun hF : ((F134 c.Entry) : Bool) = (F141 c) => ai (congrArg (fun r : Bool => (.bool r : Value)) hF) (trivial)) (condF h1 (condF h5 (condT h6 (rfl))))))) (eq_of_beq h6)) (fun h6 : (c.Kind == 1) = false => (fun _ : ¬ c.Kind = 1 => ai (fun h7 : (c.Kind == 2) = true => (fun _ : c.Kind = 2 => ai (trivial) (ai ((Imps.refl (eHelloEntry c.Entry))) (ai (trivial) (ai ((Imps.refl (eNetPrefix (F136 c.Entry)))) ((fun hF : ((bif (bif (F201 (F136 c.Entry)) then (c.Entry.Cost == 0) else false) then (c.Entry.Label == 0) else false) : Bool) = (F141 c) => ai (congrArg (fun r : Bool => (.bool r : Value)) hF) (trivial)) (condF h1 (condF h5 (condF h6 (condT h7 (rfl)))))))))) (eq_of_beq h7)) (fun h7 : (c.Kind == 2) = false => (fun _ : ¬ c.Kind = 2 => (fun hF : (false : Bool) = (F141 c) => ai (congrArg (fun r : Bool => (.bool r : Value)) hF) (trivial)) (condF h1 (condF h5 (condF h6 (condF h7 (rfl)))))) (beqF h7))) (beqF h6))) (beqF h5))) (beqF h1))) (by kernel_rfl)
def F213_s0 (table : List HelloEntry) (e1 : HelloEntry) : Int → Lp Int Int := fun i40 =>
  bif (decide (i40 < (table.length : Int))) then (bif (bif ((table.getD (Int.toNat i40) default).Addr == e1.Addr) then ((table.getD (Int.toNat i40) default).Len == e1.Len) else false) then (.ret i40) else (.next (i40 + 1))) else (.done i40)
def F213 (table : List HelloEntry) (e1 : HelloEntry) : Int :=
  (runL (F213_s0 table e1) ((Int.toNat ((table.length : Int) - 0)) + 1) 0).fin (fun r => r) (fun i40 => (-1))
def S213 (table : List HelloEntry) (e1 : HelloEntry) : Spec := ⟨[.r (.c (.l 4 eHelloEntry table)), .r (.g (eHelloEntry e1))], .v (vI (F213 table e1)), True⟩
theorem ok213 (table : List HelloEntry) (e1 : HelloEntry) : (S213 table e1).ok Try.prog 213 :=
  fnG_ok mixed (fn := Try.f213) (ct := .seqk [(0, 0)] (.no) (.seq (.seqk [(0, 0)] (.no) (.blk (.loop (ι := Nat × Int) (fun i => (fun (i40 : Int) => (⟨[(0, some (.h 0 0)), (3, some (.p 1 0)), (5, some (.v (vI i40)))], [(0, some (.shr none (.l 4 eHelloEntry table))), (1, some (.box 51 [.v (vI e1.Addr), .v (vI e1.Len), .v (vI e1.Cost), .v (vI e1.Label)]))], 2⟩ : St)) i.2) (fun i => runL (F213_s0 table e1) i.1 i.2 = (runL (F213_s0 table e1) ((Int.toNat ((table.length : Int) - 0)) + 1) 0) ∧ (fun (i40 : Int) => (Int.toNat ((table.length : Int) - i40) < i.1 ∧ (0 : Int) ≤ i40)) i.2) (fun i => i.1) (((Int.toNat ((table.length : Int) - 0)) + 1), 0) (fun i => (fun (i40 : Int) => (.seq (.seq (.no) (.cond (.no) (.no))) (.seq (.blk (.seq (.no) (.cond (.seq (.no) (.no)) (.no)))) (.reg [(1, .bnd)])))) i.2)))) (.seq (.no) (.no)))) Try.func213 (fun (_ : True) => fun (_ : table.length ≤ 9223372036854775807) => fun (_ : table.length ≤ 9223372036854775807) => ai (ai (rfl) (ai ((Imp.refl _)) (ai (rfl) (ai (rfl) (ai (rfl) (ai (rfl) ((ai (rfl : runL (F213_s0 table e1) ((Int.toNat ((table.length : Int) - 0)) + 1) 0 = (runL (F213_s0 table e1) ((Int.toNat ((table.length : Int) - 0)) + 1) 0)) (ai ((Nat.lt_succ_self _ : Int.toNat ((table.length : Int) - 0) < ((Int.toNat ((table.length : Int) - 0)) + 1))) ((by omega : (0 : Int) ≤ 0)))))))))) : ((.int .i64 0 : Value) = .int .i64 0) ∧ (Imp (.l 4 eHelloEntry table) (.l 4 eHelloEntry table)) ∧ ((.int .i64 e1.Addr : Value) = .int .i64 e1.Addr) ∧ ((.int .i64 e1.Len : Value) = .int .i64 e1.Len) ∧ ((.int .i64 e1.Cost : Value) = .int .i64 e1.Cost) ∧ ((.int .i64 e1.Label : Value) = .int .i64 e1.Label) ∧ (runL (F213_s0 table e1) ((Int.toNat ((table.length : Int) - 0)) + 1) 0 = (runL (F213_s0 table e1) ((Int.toNat ((table.length : Int) - 0)) + 1) 0) ∧ Int.toNat ((table.length : Int) - 0) < ((Int.toNat ((table.length : Int) - 0)) + 1) ∧ (0 : Int) ≤ 0)) (fun (i0 : Nat × Int) (hi0 : runL (F213_s0 table e1) i0.1 i0.2 = (runL (F213_s0 table e1) ((Int.toNat ((table.length : Int) - 0)) + 1) 0) ∧ (fun (i40 : Int) => (Int.toNat ((table.length : Int) - i40) < i0.1 ∧ (0 : Int) ≤ i40)) i0.2) => (fun (m0 : Nat) (i40 : Int) (hI0 : runL (F213_s0 table e1) (m0 + 1) i40 = (runL (F213_s0 table e1) ((Int.toNat ((table.length : Int) - 0)) + 1) 0)) (_ : Int.toNat ((table.length : Int) - i40) < m0 + 1) (hl0 : m0 < i0.1) (_ : (0 : Int) ≤ i40) => ai (fun h2 : (decide (i40 < (table.length : Int))) = true => (fun _ : i40 < (table.length : Int) => ai ((by omega : 0 ≤ i40 ∧ i40 < (table.length : Int))) (ai ((fun k3 : ((table.getD (Int.toNat i40) default).Addr == e1.Addr) = true => (fun _ : (table.getD (Int.toNat i40) default).Addr = e1.Addr => (by omega : 0 ≤ i40 ∧ i40 < (table.length : Int))) (eq_of_beq k3))) (ai (fun h4 : (bif ((table.getD (Int.toNat i40) default).Addr == e1.Addr) then ((table.getD (Int.toNat i40) default).Len == e1.Len) else false) = true => (fun _ : (table.getD (Int.toNat i40) default).Len = e1.Len => (fun _ : (table.getD (Int.toNat i40) default).Addr = e1.Addr => (fun hF : (i40 : Int) = (F213 table e1) => ai (congrArg (fun r : Int => (.int .i64 r : Value)) hF) (trivial)) (finR (runL_ret hI0 (condT h2 (condT h4 (rfl)))) rfl)) (eq_of_beq (andT1 h4))) (eq_of_beq (andT2 h4))) (fun h4 : (bif ((table.getD (Int.toNat i40) default).Addr == e1.Addr) then ((table.getD (Int.toNat i40) default).Len == e1.Len) else false) = false => ai ((by unfold i64ok; omega : i64ok (i40 + 1))) (Exists.intro (p := fun j : Nat × Int => (fun (i40_ : Int) => (((.int .i64 (i40 + 1) : Value) = .int .i64 i40_) ∧ (Imp (.l 4 eHelloEntry table) (.l 4 eHelloEntry table)) ∧ ((.int .i64 e1.Addr : Value) = .int .i64 e1.Addr) ∧ ((.int .i64 e1.Len : Value) = .int .i64 e1.Len) ∧ ((.int .i64 e1.Cost : Value) = .int .i64 e1.Cost) ∧ ((.int .i64 e1.Label : Value) = .int .i64 e1.Label) ∧ ((runL (F213_s0 table e1) j.1 j.2 = (runL (F213_s0 table e1) ((Int.toNat ((table.length : Int) - 0)) + 1) 0) ∧ Int.toNat ((table.length : Int) - i40_) < j.1 ∧ (0 : Int) ≤ i40_) ∧ j.1 < i0.1))) j.2) (m0, (i40 + 1)) (ai (rfl) (ai ((Imp.refl _)) (ai (rfl) (ai (rfl) (ai (rfl) (ai (rfl) (ai (ai (runL_next hI0 (condT h2 (condF h4 (rfl)))) (ai ((by omega : Int.toNat ((table.length : Int) - (i40 + 1)) < m0)) ((by omega : (0 : Int) ≤ (i40 + 1))))) hl0)))))))))))) (of_decide_eq_true h2)) (fun h2 : (decide (i40 < (table.length : Int))) = false => (fun _ : ¬ i40 < (table.length : Int) => (fun hD0_5 : (runL (F213_s0 table e1) ((Int.toNat ((table.length : Int) - 0)) + 1) 0) = Lp.done i40 => (fun hF : ((-1) : Int) = (F213 table e1) => ai (congrArg (fun r : Int => (.int .i64 r : Value)) hF) (trivial)) (finD hD0_5 (rfl))) (runL_done hI0 (condF h2 (rfl)))) (of_decide_eq_false h2))) (i0.1 - 1) i0.2 (hd1 hi0.1 hi0.2.1) (hd2 hi0.2.1) (hd3 hi0.2.1) hi0.2.2)) (by kernel_rfl)
def F225 (e1 : HelloEntry) (p : NetPrefix) : Int :=
  (F135 (F136 e1) p)
def S225 (e1 : HelloEntry) (p : NetPrefix) : Spec := ⟨[.r (.g (eHelloEntry e1)), .r (.g (eNetPrefix p))], .v (vI (F225 e1 p)), True⟩
theorem ok225 (e1 : HelloEntry) (p : NetPrefix) : (S225 e1 p).ok Try.prog 225 :=
  fnG_ok mixed (fn := Try.f225) (ct := .seq (.no) (.seq (.reg [(1, .call 136 (S136 e1) (ok136 e1) none), (3, .call 135 (S135 (F136 e1) p) (ok135 (F136 e1) p) none)]) (.no))) Try.func225 (fun (_ : True) => ai (trivial) (ai ((Imps.refl (eHelloEntry e1))) (ai (trivial) (ai ((Imps.refl (eNetPrefix (F136 e1)))) (ai ((Imps.refl (eNetPrefix p))) ((fun hF : ((F135 (F136 e1) p) : Int) = (F225 e1 p) => ai (congrArg (fun r : Int => (.int .i64 r : Value)) hF) (trivial)) (rfl))))))) (by kernel_rfl)
def fs236 (p : HelloEntry → NetPrefix → Int) : FnSpec := ⟨HelloEntry × NetPrefix, fun i => [.g (eHelloEntry i.1), .g (eNetPrefix i.2)], fun i => .int .i64 (p i.1 i.2)⟩
def F224_s0 (x9 : List HelloEntry) (target : NetPrefix) (cmp : HelloEntry → NetPrefix → Int) : (Int × Int) → Lp (Int × Int) (Int × Bool) := fun (i41, j1) =>
  bif (decide (i41 < j1)) then (bif (decide ((cmp (x9.getD (Int.toNat (IntKind.i64.wrap ((IntKind.u64.wrap (i41 + j1)).fdiv (2 ^ (min (1 : Int).toNat IntKind.u64.bits))))) default) target) < 0)) then (.next (((IntKind.i64.wrap ((IntKind.u64.wrap (i41 + j1)).fdiv (2 ^ (min (1 : Int).toNat IntKind.u64.bits)))) + 1), j1)) else (.next (i41, (IntKind.i64.wrap ((IntKind.u64.wrap (i41 + j1)).fdiv (2 ^ (min (1 : Int).toNat IntKind.u64.bits))))))) else (.done (i41, j1))
def F224_j0 (x9 : List HelloEntry) (target : NetPrefix) (cmp : HelloEntry → NetPrefix → Int) : Lp Int (Int × Bool) :=
  (runL (F224_s0 x9 target cmp) ((Int.toNat ((x9.length : Int) - 0)) + 1) (0, (x9.length : Int))).fin Lp.ret (fun (i41, j1) => .done i41)
def F224 (x9 : List HelloEntry) (target : NetPrefix) (cmp : HelloEntry → NetPrefix → Int) : Int × Bool :=
  (F224_j0 x9 target cmp).fin (fun r => r) (fun i40 => (i40, (bif decide (i40 < (x9.length : Int)) then ((cmp (x9.getD (Int.toNat i40) default) target) == 0) else false)))
def S224 (x9 : List HelloEntry) (target : NetPrefix) (cmp : HelloEntry → NetPrefix → Int) : Spec := ⟨[.r (.c (.l 4 eHelloEntry x9)), .r (.g (eNetPrefix target)), .fn (fs236 cmp)], .tu [.v (vI ((F224 x9 target cmp).1)), .v (.bool ((F224 x9 target cmp).2))], x9.length ≤ 1000000000⟩
theorem ok224 (x9 : List HelloEntry) (target : NetPrefix) (cmp : HelloEntry → NetPrefix → Int) : (S224 x9 target cmp).ok Try.prog 224 :=
  fnG_ok mixed (fn := Try.f224) (ct := .seqk [(0, 0)] (.no) (.seq (.no) (.seqk [(0, 0)] (.no) (.cut (ι := Int) (fun j => (fun (i40 : Int) => (⟨[(0, some (.h 0 0)), (2, some (.h 1 0)), (4, some (.p 2 0)), (8, some (.v (vI (x9.length : Int)))), (9, some (.v (vI i40)))], [(0, some (.shr none (.l 4 eHelloEntry x9))), (1, some (.fn (fs236 cmp))), (2, some (.box 170 [.v (vI target.Addr), .v (vI target.Len)]))], 3⟩ : St)) j) (fun j => (fun (i40 : Int) => ((F224_j0 x9 target cmp) = Lp.done j ∧ (0 ≤ i40 ∧ i40 ≤ (x9.length : Int)))) j) (.blk (.loop (ι := Nat × (Int × Int)) (fun i => (fun (i41 : Int) (j1 : Int) => (⟨[(0, some (.h 0 0)), (2, some (.h 1 0)), (4, some (.p 2 0)), (8, some (.v (vI (x9.length : Int)))), (9, some (.v (vI i41))), (10, some (.v (vI j1)))], [(0, some (.shr none (.l 4 eHelloEntry x9))), (1, some (.fn (fs236 cmp))), (2, some (.box 170 [.v (vI target.Addr), .v (vI target.Len)]))], 3⟩ : St)) i.2.1 i.2.2) (fun i => runL (F224_s0 x9 target cmp) i.1 i.2 = (runL (F224_s0 x9 target cmp) ((Int.toNat ((x9.length : Int) - 0)) + 1) (0, (x9.length : Int))) ∧ (fun (i41 : Int) (j1 : Int) => (Int.toNat (j1 - i41) < i.1 ∧ i41 ≤ j1 ∧ j1 ≤ (x9.length : Int) ∧ (0 : Int) ≤ i41)) i.2.1 i.2.2) (fun i => i.1) (((Int.toNat ((x9.length : Int) - 0)) + 1), (0, (x9.length : Int))) (fun i => (fun (i41 : Int) (j1 : Int) => (.seq (.seq (.no) (.cond (.no) (.no))) (.blk (.seq (.reg [(2, .bnd)]) (.seq (.reg [(6, .fnv (fs236 cmp) ((x9.getD (Int.toNat (IntKind.i64.wrap ((IntKind.u64.wrap (i41 + j1)).fdiv (2 ^ (min (1 : Int).toNat IntKind.u64.bits))))) default), target))]) (.cond (.reg [(1, .bnd)]) (.no))))))) i.2.1 i.2.2))) (fun j => (fun (i40 : Int) => (.seq (.reg [(11, .fnv (fs236 cmp) ((x9.getD (Int.toNat i40) default), target))]) (.no))) j))))) Try.func224 (fun (hpre0 : x9.length ≤ 1000000000) => fun (_ : x9.length ≤ 9223372036854775807) => fun (_ : x9.length ≤ 9223372036854775807) => ai (ai (ai (rfl) (ai (rfl) (ai (rfl) (ai ((Imp.refl _)) (ai (rfl) (ai (rfl) (ai (rfl) ((ai (rfl : runL (F224_s0 x9 target cmp) ((Int.toNat ((x9.length : Int) - 0)) + 1) (0, (x9.length : Int)) = (runL (F224_s0 x9 target cmp) ((Int.toNat ((x9.length : Int) - 0)) + 1) (0, (x9.length : Int)))) (ai ((Nat.lt_succ_self _ : Int.toNat ((x9.length : Int) - 0) < ((Int.toNat ((x9.length : Int) - 0)) + 1))) (ai ((by omega : 0 ≤ (x9.length : Int))) (ai ((by omega : (x9.length : Int) ≤ (x9.length : Int))) ((by omega : (0 : Int) ≤ 0))))))))))))) : ((.int .i64 (x9.length : Int) : Value) = .int .i64 (x9.length : Int)) ∧ ((.int .i64 0 : Value) = .int .i64 0) ∧ ((.int .i64 (x9.length : Int) : Value) = .int .i64 (x9.length : Int)) ∧ (Imp (.l 4 eHelloEntry x9) (.l 4 eHelloEntry x9)) ∧ (fs236 cmp = fs236 cmp) ∧ ((.int .i64 target.Addr : Value) = .int .i64 target.Addr) ∧ ((.int .i64 target.Len : Value) = .int .i64 target.Len) ∧ (runL (F224_s0 x9 target cmp) ((Int.toNat ((x9.length : Int) - 0)) + 1) (0, (x9.length : Int)) = (runL (F224_s0 x9 target cmp) ((Int.toNat ((x9.length : Int) - 0)) + 1) (0, (x9.length : Int))) ∧ Int.toNat ((x9.length : Int) - 0) < ((Int.toNat ((x9.length : Int) - 0)) + 1) ∧ 0 ≤ (x9.length : Int) ∧ (x9.length : Int) ≤ (x9.length : Int) ∧ (0 : Int) ≤ 0)) (fun (i0 : Nat × (Int × Int)) (hi0 : runL (F224_s0 x9 target cmp) i0.1 i0.2 = (runL (F224_s0 x9 target cmp) ((Int.toNat ((x9.length : Int) - 0)) + 1) (0, (x9.length : Int))) ∧ (fun (i41 : Int) (j1 : Int) => (Int.toNat (j1 - i41) < i0.1 ∧ i41 ≤ j1 ∧ j1 ≤ (x9.length : Int) ∧ (0 : Int) ≤ i41)) i0.2.1 i0.2.2) => (fun (m0 : Nat) (i41 : Int) (j1 : Int) (hI0 : runL (F224_s0 x9 target cmp) (m0 + 1) (i41, j1) = (runL (F224_s0 x9 target cmp) ((Int.toNat ((x9.length : Int) - 0)) + 1) (0, (x9.length : Int)))) (_ : Int.toNat (j1 - i41) < m0 + 1) (hl0 : m0 < i0.1) (_ : i41 ≤ j1) (_ : j1 ≤ (x9.length : Int)) (_ : (0 : Int) ≤ i41) => ai (fun h2 : (decide (i41 < j1)) = true => (fun _ : i41 < j1 => ai ((by unfold i64ok; omega : i64ok (i41 + j1))) (ai ((by omega : 0 ≤ (1 : Int))) ((fun gv3 : i41 ≤ (IntKind.i64.wrap ((IntKind.u64.wrap (i41 + j1)).fdiv (2 ^ (min (1 : Int).toNat IntKind.u64.bits)))) ∧ (IntKind.i64.wrap ((IntKind.u64.wrap (i41 + j1)).fdiv (2 ^ (min (1 : Int).toNat IntKind.u64.bits)))) < j1 => ai ((by omega : 0 ≤ (IntKind.i64.wrap ((IntKind.u64.wrap (i41 + j1)).fdiv (2 ^ (min (1 : Int).toNat IntKind.u64.bits)))) ∧ (IntKind.i64.wrap ((IntKind.u64.wrap (i41 + j1)).fdiv (2 ^ (min (1 : Int).toNat IntKind.u64.bits)))) < (x9.length : Int))) (ai ((Eq.refl (fs236 cmp))) (ai ((Imps.refl (eHelloEntry (x9.getD (Int.toNat (IntKind.i64.wrap ((IntKind.u64.wrap (i41 + j1)).fdiv (2 ^ (min (1 : Int).toNat IntKind.u64.bits))))) default)))) (ai ((Imps.refl (eNetPrefix target))) (ai (fun h4 : (decide ((cmp (x9.getD (Int.toNat (IntKind.i64.wrap ((IntKind.u64.wrap (i41 + j1)).fdiv (2 ^ (min (1 : Int).toNat IntKind.u64.bits))))) default) target) < 0)) = true => (fun _ : (cmp (x9.getD (Int.toNat (IntKind.i64.wrap ((IntKind.u64.wrap (i41 + j1)).fdiv (2 ^ (min (1 : Int).toNat IntKind.u64.bits))))) default) target) < 0 => ai ((by unfold i64ok; omega : i64ok ((IntKind.i64.wrap ((IntKind.u64.wrap (i41 + j1)).fdiv (2 ^ (min (1 : Int).toNat IntKind.u64.bits)))) + 1))) (Exists.intro (p := fun j : Nat × (Int × Int) => (fun (i41_ : Int) (j1_ : Int) => (((.int .i64 (x9.length : Int) : Value) = .int .i64 (x9.length : Int)) ∧ ((.int .i64 ((IntKind.i64.wrap ((IntKind.u64.wrap (i41 + j1)).fdiv (2 ^ (min (1 : Int).toNat IntKind.u64.bits)))) + 1) : Value) = .int .i64 i41_) ∧ ((.int .i64 j1 : Value) = .int .i64 j1_) ∧ (Imp (.l 4 eHelloEntry x9) (.l 4 eHelloEntry x9)) ∧ (fs236 cmp = fs236 cmp) ∧ ((.int .i64 target.Addr : Value) = .int .i64 target.Addr) ∧ ((.int .i64 target.Len : Value) = .int .i64 target.Len) ∧ ((runL (F224_s0 x9 target cmp) j.1 j.2 = (runL (F224_s0 x9 target cmp) ((Int.toNat ((x9.length : Int) - 0)) + 1) (0, (x9.length : Int))) ∧ Int.toNat (j1_ - i41_) < j.1 ∧ i41_ ≤ j1_ ∧ j1_ ≤ (x9.length : Int) ∧ (0 : Int) ≤ i41_) ∧ j.1 < i0.1))) j.2.1 j.2.2) (m0, (((IntKind.i64.wrap ((IntKind.u64.wrap (i41 + j1)).fdiv (2 ^ (min (1 : Int).toNat IntKind.u64.bits)))) + 1), j1)) (ai (rfl) (ai (rfl) (ai (rfl) (ai ((Imp.refl _)) (ai (rfl) (ai (rfl) (ai (rfl) (ai (ai (runL_next hI0 (condT h2 (condT h4 (rfl)))) (ai ((by omega : Int.toNat (j1 - ((IntKind.i64.wrap ((IntKind.u64.wrap (i41 + j1)).fdiv (2 ^ (min (1 : Int).toNat IntKind.u64.bits)))) + 1)) < m0)) (ai ((by omega : ((IntKind.i64.wrap ((IntKind.u64.wrap (i41 + j1)).fdiv (2 ^ (min (1 : Int).toNat IntKind.u64.bits)))) + 1) ≤ j1)) (ai ((by omega : j1 ≤ (x9.length : Int))) ((by omega : (0 : Int) ≤ ((IntKind.i64.wrap ((IntKind.u64.wrap (i41 + j1)).fdiv (2 ^ (min (1 : Int).toNat IntKind.u64.bits)))) + 1))))))) hl0)))))))))) (of_decide_eq_true h4)) (fun h4 : (decide ((cmp (x9.getD (Int.toNat (IntKind.i64.wrap ((IntKind.u64.wrap (i41 + j1)).fdiv (2 ^ (min (1 : Int).toNat IntKind.u64.bits))))) default) target) < 0)) = false => (fun _ : ¬ (cmp (x9.getD (Int.toNat (IntKind.i64.wrap ((IntKind.u64.wrap (i41 + j1)).fdiv (2 ^ (min (1 : Int).toNat IntKind.u64.bits))))) default) target) < 0 => Exists.intro (p := fun j : Nat × (Int × Int) => (fun (i41_ : Int) (j1_ : Int) => (((.int .i64 (x9.length : Int) : Value) = .int .i64 (x9.length : Int)) ∧ ((.int .i64 i41 : Value) = .int .i64 i41_) ∧ ((.int .i64 (IntKind.i64.wrap ((IntKind.u64.wrap (i41 + j1)).fdiv (2 ^ (min (1 : Int).toNat IntKind.u64.bits)))) : Value) = .int .i64 j1_) ∧ (Imp (.l 4 eHelloEntry x9) (.l 4 eHelloEntry x9)) ∧ (fs236 cmp = fs236 cmp) ∧ ((.int .i64 target.Addr : Value) = .int .i64 target.Addr) ∧ ((.int .i64 target.Len : Value) = .int .i64 target.Len) ∧ ((runL (F224_s0 x9 target cmp) j.1 j.2 = (runL (F224_s0 x9 target cmp) ((Int.toNat ((x9.length : Int) - 0)) + 1) (0, (x9.length : Int))) ∧ Int.toNat (j1_ - i41_) < j.1 ∧ i41_ ≤ j1_ ∧ j1_ ≤ (x9.length : Int) ∧ (0 : Int) ≤ i41_) ∧ j.1 < i0.1))) j.2.1 j.2.2) (m0, (i41, (IntKind.i64.wrap ((IntKind.u64.wrap (i41 + j1)).fdiv (2 ^ (min (1 : Int).toNat IntKind.u64.bits)))))) (ai (rfl) (ai (rfl) (ai (rfl) (ai ((Imp.refl _)) (ai (rfl) (ai (rfl) (ai (rfl) (ai (ai (runL_next hI0 (condT h2 (condF h4 (rfl)))) (ai ((by omega : Int.toNat ((IntKind.i64.wrap ((IntKind.u64.wrap (i41 + j1)).fdiv (2 ^ (min (1 : Int).toNat IntKind.u64.bits)))) - i41) < m0)) (ai ((by omega : i41 ≤ (IntKind.i64.wrap ((IntKind.u64.wrap (i41 + j1)).fdiv (2 ^ (min (1 : Int).toNat IntKind.u64.bits)))))) (ai ((by omega : (IntKind.i64.wrap ((IntKind.u64.wrap (i41 + j1)).fdiv (2 ^ (min (1 : Int).toNat IntKind.u64.bits)))) ≤ (x9.length : Int))) ((by omega : (0 : Int) ≤ i41)))))) hl0))))))))) (of_decide_eq_false h4))))))) ((by exact half_in i41 j1 (by omega) (by omega) (by omega)))))) (of_decide_eq_true h2)) (fun h2 : (decide (i41 < j1)) = false => (fun _ : ¬ i41 < j1 => (fun hD0_5 : (runL (F224_s0 x9 target cmp) ((Int.toNat ((x9.length : Int) - 0)) + 1) (0, (x9.length : Int))) = Lp.done (i41, j1) => Exists.intro (p := fun j : Int => (fun (i40_ : Int) => (((.int .i64 (x9.length : Int) : Value) = .int .i64 (x9.length : Int)) ∧ ((.int .i64 i41 : Value) = .int .i64 i40_) ∧ (Imp (.l 4 eHelloEntry x9) (.l 4 eHelloEntry x9)) ∧ (fs236 cmp = fs236 cmp) ∧ ((.int .i64 target.Addr : Value) = .int .i64 target.Addr) ∧ ((.int .i64 target.Len : Value) = .int .i64 target.Len) ∧ (F224_j0 x9 target cmp) = Lp.done j ∧ (0 ≤ i40_ ∧ i40_ ≤ (x9.length : Int)))) j) (i41) (ai (rfl) (ai (rfl) (ai ((Imp.refl _)) (ai (rfl) (ai (rfl) (ai (rfl) (ai (Eq.symm (finD hD0_5 (rfl))) ((by first | omega | (simp only [lens] at * <;> omega) : 0 ≤ i41 ∧ i41 ≤ (x9.length : Int))))))))))) (runL_done hI0 (condF h2 (rfl)))) (of_decide_eq_false h2))) (i0.1 - 1) i0.2.1 i0.2.2 (hd1 hi0.1 hi0.2.1) (hd2 hi0.2.1) (hd3 hi0.2.1) hi0.2.2.1 hi0.2.2.2.1 hi0.2.2.2.2)) (fun (j : Int) (hj : (fun (i40 : Int) => ((F224_j0 x9 target cmp) = Lp.done j ∧ (0 ≤ i40 ∧ i40 ≤ (x9.length : Int)))) j) => (fun (i40 : Int) (hJ0_6 : (F224_j0 x9 target cmp) = Lp.done i40) (_ : 0 ≤ i40 ∧ i40 ≤ (x9.length : Int)) => ai ((fun k7 : (decide (i40 < (x9.length : Int))) = true => (fun _ : i40 < (x9.length : Int) => (by omega : 0 ≤ i40 ∧ i40 < (x9.length : Int))) (of_decide_eq_true k7))) (ai ((fun k8 : (decide (i40 < (x9.length : Int))) = true => (fun _ : i40 < (x9.length : Int) => (Eq.refl (fs236 cmp))) (of_decide_eq_true k8))) (ai ((fun k9 : (decide (i40 < (x9.length : Int))) = true => (fun _ : i40 < (x9.length : Int) => (Imps.refl (eHelloEntry (x9.getD (Int.toNat i40) default)))) (of_decide_eq_true k9))) (ai ((fun k10 : (decide (i40 < (x9.length : Int))) = true => (fun _ : i40 < (x9.length : Int) => (Imps.refl (eNetPrefix target))) (of_decide_eq_true k10))) ((fun hF : (i40, (bif decide (i40 < (x9.length : Int)) then ((cmp (x9.getD (Int.toNat i40) default) target) == 0) else false)) = (F224 x9 target cmp) => ai (congrArg (fun r : Int × Bool => (.int .i64 r.1 : Value)) hF) (ai (congrArg (fun r : Int × Bool => (.bool r.2 : Value)) hF) (trivial))) (finD hJ0_6 (rfl))))))) j hj.1 hj.2)) (by kernel_rfl)
def F206 (table : List HelloEntry) (p : NetPrefix) : Int × Bool :=
  ((F224 table p (fun (x0 : HelloEntry) (x1 : NetPrefix) => F225 x0 x1)).1, (F224 table p (fun (x0 : HelloEntry) (x1 : NetPrefix) => F225 x0 x1)).2)
def S206 (R : Int × Bool) (table : List HelloEntry) (p : NetPrefix) : Spec := ⟨[.r (.c (.l 4 eHelloEntry table)), .r (.g (eNetPrefix p))], .tu [.v (vI R.1), .v (.bool R.2)], table.length ≤ 1000000000⟩
theorem ok206 (table : List HelloEntry) (p : NetPrefix) : (S206 (F206 table p) table p).ok Try.prog 206 :=
  fnG_ok mixed (fn := Try.f206) (ct := .seqk [(0, 0)] (.no) (.seq (.reg [(2, .call 224 (S224 table p (fun (x0 : HelloEntry) (x1 : NetPrefix) => F225 x0 x1)) (ok224 table p (fun (x0 : HelloEntry) (x1 : NetPrefix) => F225 x0 x1)) (some ⟨225, fs236 (fun (x0 : HelloEntry) (x1 : NetPrefix) => F225 x0 x1), [], rfl, True, fun i => (ok225 i.1 i.2)⟩))]) (.no))) Try.func206 (fun (hpre0 : table.length ≤ 1000000000) => fun (_ : table.length ≤ 9223372036854775807) => ai (((by omega : table.length ≤ 1000000000))) (ai ((Imp.refl (.l 4 eHelloEntry table))) (ai ((Imps.refl (eNetPrefix p))) (ai ((Eq.refl (fs236 (fun (x0 : HelloEntry) (x1 : NetPrefix) => F225 x0 x1)))) (ai (trivial) ((fun hF : ((F224 table p (fun (x0 : HelloEntry) (x1 : NetPrefix) => F225 x0 x1)).1, (F224 table p (fun (x0 : HelloEntry) (x1 : NetPrefix) => F225 x0 x1)).2) = (F206 table p) => ai (congrArg (fun r : Int × Bool => (.int .i64 r.1 : Value)) hF) (ai (congrArg (fun r : Int × Bool => (.bool r.2 : Value)) hF) (trivial))) (rfl))))))) (by kernel_rfl)
def F168 (list : List HelloEntry) : List HelloEntry :=
  (([] : List HelloEntry) ++ list)
def S168 (R : List HelloEntry) (list : List HelloEntry) : Spec := ⟨[.r (.c (.l 4 eHelloEntry list))], .ow (.l 4 eHelloEntry R), list.length ≤ 1000000000⟩
theorem ok168 (list : List HelloEntry) : (S168 (F168 list) list).ok Try.prog 168 :=
  fnG_ok mixed (fn := Try.f168) (ct := .seqk [(0, 0)] (.no) (.seq (.reg [(0, .dat (.l 4 eHelloEntry ([] : List HelloEntry))), (2, .dat (.l 4 eHelloEntry (([] : List HelloEntry) ++ list)))]) (.no))) Try.func168 (fun (hpre0 : list.length ≤ 1000000000) => fun (_ : list.length ≤ 9223372036854775807) => ai ((BuildOK.mk eHelloEntry ([] : List HelloEntry) rfl (by exact trivial) (fun _ => rfl) : BuildOK 0 4 [] (.l 4 eHelloEntry ([] : List HelloEntry)))) (ai ((AppL.mk eHelloEntry ([] : List HelloEntry) list (Imp.refl (.l 4 eHelloEntry ([] : List HelloEntry))) (Imp.refl _) (fun y => ⟨rfl, fun e he => by simp only [eHelloEntry, List.mem_cons, List.not_mem_nil, or_false] at he; rcases he with rfl | rfl | rfl | rfl <;> exact ⟨_, rfl⟩⟩) : AppL (.l 4 eHelloEntry ([] : List HelloEntry)) (.l 4 eHelloEntry list) 4 (.l 4 eHelloEntry (([] : List HelloEntry) ++ list)))) (ai ((by (try simp only [lens]); omega : ((([] : List HelloEntry) ++ list)).length * 32 ≤ 140737488355328)) ((fun hF : ((([] : List HelloEntry) ++ list) : List HelloEntry) = (F168 list) => ai (Imp.of_eq (congrArg (fun r : List HelloEntry => Dat.l 4 eHelloEntry r) hF)) (trivial)) (rfl))))) (by kernel_rfl)
theorem as168 (list : List HelloEntry) : F168 list = (list) := by
  rfl
theorem oa168 (list : List HelloEntry) : (S168 (list) list).ok Try.prog 168 := by
  intro hp; have h := ok168 list hp; rw [as168 list] at h; exact h
def F94 (list : List HelloEntry) : List HelloEntry :=
  ((List.replicate (Int.toNat 0) ((⟨0, 0, 0, 0⟩ : HelloEntry) : HelloEntry)) ++ list)
def S94 (R : List HelloEntry) (list : List HelloEntry) : Spec := ⟨[.r (.c (.l 4 eHelloEntry list))], .ow (.l 4 eHelloEntry R), list.length ≤ 1000000000⟩
theorem ok94 (list : List HelloEntry) : (S94 (F94 list) list).ok Try.prog 94 :=
  fnG_ok mixed (fn := Try.f94) (ct := .seqk [(0, 0)] (.no) (.seq (.reg [(2, .dat (.l 4 eHelloEntry (List.replicate (Int.toNat 0) ((⟨0, 0, 0, 0⟩ : HelloEntry) : HelloEntry)))), (4, .dat (.l 4 eHelloEntry ((List.replicate (Int.toNat 0) ((⟨0, 0, 0, 0⟩ : HelloEntry) : HelloEntry)) ++ list)))]) (.no))) Try.func94 (fun (hpre0 : list.length ≤ 1000000000) => fun (_ : list.length ≤ 9223372036854775807) => ai ((by first | omega | (simp only [lens] at * <;> omega) : 0 ≤ (0 : Int) ∧ (0 : Int) ≤ (list.length : Int) ∧ (32 : Int) * (list.length : Int) ≤ 281474976710656)) (ai ((MakeOK.mk eHelloEntry ((⟨0, 0, 0, 0⟩ : HelloEntry) : HelloEntry) (by exact ai (Imp.refl _) (ai (Imp.refl _) (ai (Imp.refl _) (ai (Imp.refl _) (trivial))))) : MakeOK 4 [.v (vI 0), .v (vI 0), .v (vI 0), .v (vI 0)] (Int.toNat 0) (.l 4 eHelloEntry (List.replicate (Int.toNat 0) ((⟨0, 0, 0, 0⟩ : HelloEntry) : HelloEntry))))) (ai ((AppL.mk eHelloEntry (List.replicate (Int.toNat 0) ((⟨0, 0, 0, 0⟩ : HelloEntry) : HelloEntry)) list (Imp.refl (.l 4 eHelloEntry (List.replicate (Int.toNat 0) ((⟨0, 0, 0, 0⟩ : HelloEntry) : HelloEntry)))) (Imp.refl _) (fun y => ⟨rfl, fun e he => by simp only [eHelloEntry, List.mem_cons, List.not_mem_nil, or_false] at he; rcases he with rfl | rfl | rfl | rfl <;> exact ⟨_, rfl⟩⟩) : AppL (.l 4 eHelloEntry (List.replicate (Int.toNat 0) ((⟨0, 0, 0, 0⟩ : HelloEntry) : HelloEntry))) (.l 4 eHelloEntry list) 4 (.l 4 eHelloEntry ((List.replicate (Int.toNat 0) ((⟨0, 0, 0, 0⟩ : HelloEntry) : HelloEntry)) ++ list)))) (ai ((by (try simp only [lens]); omega : (((List.replicate (Int.toNat 0) ((⟨0, 0, 0, 0⟩ : HelloEntry) : HelloEntry)) ++ list)).length * 32 ≤ 140737488355328)) ((fun hF : (((List.replicate (Int.toNat 0) ((⟨0, 0, 0, 0⟩ : HelloEntry) : HelloEntry)) ++ list) : List HelloEntry) = (F94 list) => ai (Imp.of_eq (congrArg (fun r : List HelloEntry => Dat.l 4 eHelloEntry r) hF)) (trivial)) (rfl)))))) (by kernel_rfl)
theorem as94 (list : List HelloEntry) : F94 list = (list) := by
  rfl
theorem oa94 (list : List HelloEntry) : (S94 (list) list).ok Try.prog 94 := by
  intro hp; have h := ok94 list hp; rw [as94 list] at h; exact h
end Go.Proofs.Ytjcgnlpimefhpaa
/- Plain laws: tables in order, keys, changes; where an entry stands. -/
namespace Go.Proofs.Ytjcgnlpimefhpaa
open Go.RowKit
set_option maxRecDepth 100000
set_option linter.unusedVariables false
set_option linter.unusedSimpArgs false
theorem first_congr' {p q : Nat → Bool} {n : Nat} (h : ∀ k, k < n → (∀ j, j < k → q j = false) → p k = q k) : first p n = first q n := by
  cases e : first q n with
  | none =>
    rw [first_none] at *
    exact fun k hk => (h k hk fun j hj => e j (by omega)).trans (e k hk)
  | some k =>
    rw [first_some] at *
    obtain ⟨h1, h2, h3⟩ := e
    exact ⟨h1, (h k h1 h3).trans h2, fun j hj => (h j (by omega) fun i hi => h3 i (by omega)).trans (h3 j hj)⟩
theorem entryOk_eq (e : HelloEntry) : F134 e = F137 e := rfl
theorem changeOk_eq (c : HelloChange) : F141 c = F142 c := rfl
def badKey (keys : List HelloKey) (k : Nat) : Bool :=
  bif (bif (!(decide (1 ≤ (keys.getD k default).Id ∧ (keys.getD k default).Id ≤ 9))) then true else (!(decide (1 ≤ (keys.getD k default).Secret ∧ (keys.getD k default).Secret ≤ 2147483646)))) then true else (bif decide (0 < k) then decide ((keys.getD (k - 1) default).Id ≥ (keys.getD k default).Id) else false)
theorem keysOkS_eq (keys : List HelloKey) : F61 keys = (decide (1 ≤ (keys.length : Int) ∧ (keys.length : Int) ≤ 3) && (first (badKey keys) keys.length).isNone) := by
  unfold F61
  rw [allB (badKey keys) keys.length _ (fun k hk => by simp only [F61_s0, ltD hk, cond_true, nn, toNat_pred, pos_cast]; rfl) (by simp [F61_s0])]
  cases decide (1 ≤ (keys.length : Int) ∧ (keys.length : Int) ≤ 3)
  · rfl
  · simp
theorem keysOk_eq (keys : List HelloKey) : F60 keys = F61 keys := by
  rw [keysOkS_eq]
  unfold F60
  rw [allB (badKey keys) keys.length _ (fun k hk => by simp only [F60_s0, ltD hk, cond_true, nn, toNat_pred, pos_cast]; rfl) (by simp [F60_s0])]
  exact Bool.and_comm _ _
theorem keysOkS_T (keys : List HelloKey) (h : F61 keys = true) : 1 ≤ keys.length ∧ keys.length ≤ 3 := by
  rw [keysOkS_eq] at h
  simp only [Bool.and_eq_true, decide_eq_true_eq] at h
  omega
theorem keysOk_T (keys : List HelloKey) (h : F60 keys = true) : 1 ≤ keys.length ∧ keys.length ≤ 3 := keysOkS_T keys (keysOk_eq keys ▸ h)
def EIn (e : HelloEntry) : Prop := 0 ≤ e.Addr ∧ e.Addr ≤ 65535 ∧ 0 ≤ e.Len ∧ e.Len ≤ 16
theorem prefix_in {e : HelloEntry} (h : F202 e = true) : EIn e := by
  unfold F202 at h
  unfold EIn
  simp only [Bool.cond_false_right, Bool.and_eq_true, decide_eq_true_eq] at h
  omega
theorem entry_in {e : HelloEntry} (h : F137 e = true) : EIn e := by
  unfold F137 at h
  simp only [Bool.cond_false_right, Bool.and_eq_true] at h
  exact prefix_in h.1.1
theorem cmp_lt {x y : HelloEntry} (hx : EIn x) (hy : EIn y) : decide (F135 (F136 x) (F136 y) < 0) = F138 x y := by
  unfold EIn at hx hy
  unfold F135 F136 F138
  by_cases h : x.Addr = y.Addr
  · simp only [h, bne_self_eq_false, cond_false]
    rw [wrap_of (by omega) (by omega)]
    simp only [Int.lt_irrefl, decide_false, cond_false, beq_self_eq_true, cond_true]
    rw [decide_eq_decide]; omega
  · have h1 : (x.Addr != y.Addr) = true := by simpa using h
    have h2 : (x.Addr == y.Addr) = false := by simpa using h
    simp only [h1, h2, cond_true, cond_false]
    rw [wrap_of (by omega) (by omega)]
    have e : decide (x.Addr - y.Addr < 0) = decide (x.Addr < y.Addr) := by rw [decide_eq_decide]; omega
    rw [e]
    cases decide (x.Addr < y.Addr) <;> rfl
theorem cmp_ge {x y : HelloEntry} (hx : EIn x) (hy : EIn y) : decide (F135 (F136 x) (F136 y) ≥ 0) = !(F138 x y) := by
  rw [← cmp_lt hx hy, ← decide_not, decide_eq_decide]; omega
def sameP (x y : HelloEntry) : Bool := bif (x.Addr == y.Addr) then (x.Len == y.Len) else false
theorem cmp_eq {x y : HelloEntry} (hx : EIn x) (hy : EIn y) : (F135 (F136 x) (F136 y) == 0) = sameP x y := by
  unfold EIn at hx hy
  unfold F135 F136 sameP
  by_cases h : x.Addr = y.Addr
  · simp only [h, bne_self_eq_false, cond_false, beq_self_eq_true, cond_true]
    rw [wrap_of (by omega) (by omega), beqD, beqD, decide_eq_decide]; omega
  · have h1 : (x.Addr != y.Addr) = true := by simpa using h
    have h2 : (x.Addr == y.Addr) = false := by simpa using h
    simp only [h1, h2, cond_true, cond_false]
    rw [wrap_of (by omega) (by omega), beqD, decide_eq_false_iff_not]; omega
def badE (t : List HelloEntry) (k : Nat) : Bool :=
  bif !(F137 (t.getD k default)) then true else bif decide (0 < k) then !(F138 (t.getD (k - 1) default) (t.getD k default)) else false
theorem badE_ok {t : List HelloEntry} {k : Nat} (h : badE t k = false) : F137 (t.getD k default) = true := by
  unfold badE at h
  cases e : F137 (t.getD k default) with
  | true => rfl
  | false => rw [e] at h; cases h
theorem tableOkS_eq (t : List HelloEntry) : F59 t = (decide ((t.length : Int) ≤ 8) && (first (badE t) t.length).isNone) := by
  unfold F59
  rw [allB (badE t) t.length _ (fun k hk => by simp only [F59_s0, ltD hk, cond_true, nn, toNat_pred, pos_cast]; rfl) (by simp [F59_s0])]
  by_cases h : (t.length : Int) > 8
  · rw [decide_eq_true h, decide_eq_false (by omega)]; rfl
  · rw [decide_eq_false h, decide_eq_true (by omega)]; simp
theorem tableOk_eq (t : List HelloEntry) : F58 t = F59 t := by
  rw [tableOkS_eq]
  unfold F58
  rw [allB (fun k => bif !(F134 (t.getD k default)) then true else bif decide (0 < k) then decide (F135 (F136 (t.getD (k - 1) default)) (F136 (t.getD k default)) ≥ 0) else false) t.length _ (fun k hk => by simp only [F58_s0, ltD hk, cond_true, nn, toNat_pred, pos_cast]) (by simp [F58_s0])]
  rw [first_congr' (q := badE t) fun k hk hb => by
    unfold badE
    rw [entryOk_eq]
    cases e : F137 (t.getD k default) with
    | false => rfl
    | true =>
      cases k with
      | zero => rfl
      | succ k =>
        have h1 := entry_in (badE_ok (hb k (by omega)))
        simp only [Nat.add_sub_cancel]
        rw [cmp_ge h1 (entry_in e)]]
  exact Bool.and_comm _ _
structure TblOk (t : List HelloEntry) : Prop where
  len : t.length ≤ 8
  ok : ∀ k, k < t.length → F137 (t.getD k default) = true
  inc : ∀ k, k + 1 < t.length → F138 (t.getD k default) (t.getD (k + 1) default) = true
theorem tableOkS_T (t : List HelloEntry) (h : F59 t = true) : TblOk t := by
  rw [tableOkS_eq] at h
  simp only [Bool.and_eq_true, decide_eq_true_eq, allB_iff] at h
  refine ⟨by omega, fun k hk => badE_ok (h.2 k hk), fun k hk => ?_⟩
  have h1 := h.2 (k + 1) hk
  unfold badE at h1
  rw [badE_ok (h.2 (k + 1) hk)] at h1
  simpa using h1
theorem tableOk_T (t : List HelloEntry) (h : F58 t = true) : TblOk t := tableOkS_T t (tableOk_eq t ▸ h)
theorem tableOkS_len (t : List HelloEntry) (h : F59 t = true) : t.length ≤ 8 := (tableOkS_T t h).len
theorem tableOk_len (t : List HelloEntry) (h : F58 t = true) : t.length ≤ 8 := (tableOk_T t h).len
theorem less_trans {x y z : HelloEntry} (h1 : F138 x y = true) (h2 : F138 y z = true) : F138 x z = true := by
  unfold F138 at *
  simp only [Bool.cond_true_left, Bool.cond_false_right, Bool.or_eq_true, Bool.and_eq_true, decide_eq_true_eq, beq_iff_eq] at *
  omega
theorem less_irr (x : HelloEntry) : F138 x x = false := by
  unfold F138
  simp
theorem TblOk.lt {t : List HelloEntry} (h : TblOk t) : ∀ (d j : Nat), j + d + 1 < t.length → F138 (t.getD j default) (t.getD (j + d + 1) default) = true
  | 0, j, hj => h.inc j hj
  | d + 1, j, hj => less_trans (TblOk.lt h d j (by omega)) (h.inc (j + d + 1) hj)
theorem TblOk.eIn {t : List HelloEntry} (h : TblOk t) {k : Nat} (hk : k < t.length) : EIn (t.getD k default) := entry_in (h.ok k hk)
def posE (t : List HelloEntry) (e : HelloEntry) : Nat := (first (fun k => !(F138 (t.getD k default) e)) t.length).getD t.length
theorem posE_le (t : List HelloEntry) (e : HelloEntry) : posE t e ≤ t.length := by
  unfold posE
  cases h : first (fun k => !(F138 (t.getD k default) e)) t.length with
  | none => exact Nat.le_refl _
  | some k => exact Nat.le_of_lt (first_some.1 h).1
theorem posE_below {t : List HelloEntry} {e : HelloEntry} {k : Nat} (hk : k < posE t e) : F138 (t.getD k default) e = true := by
  unfold posE at hk
  cases h : first (fun k => !(F138 (t.getD k default) e)) t.length with
  | none => rw [h] at hk; simpa using first_none.1 h k hk
  | some j => rw [h] at hk; simpa using (first_some.1 h).2.2 k hk
theorem posE_at {t : List HelloEntry} {e : HelloEntry} (hk : posE t e < t.length) : F138 (t.getD (posE t e) default) e = false := by
  unfold posE at hk ⊢
  cases h : first (fun k => !(F138 (t.getD k default) e)) t.length with
  | none => rw [h] at hk; exact absurd hk (Nat.lt_irrefl _)
  | some j => simpa using (first_some.1 h).2.1
theorem posE_of {t : List HelloEntry} {e : HelloEntry} {i : Nat} (hi : i ≤ t.length) (h1 : ∀ k, k < i → F138 (t.getD k default) e = true) (h2 : i < t.length → F138 (t.getD i default) e = false) : posE t e = i := by
  rcases Nat.lt_trichotomy (posE t e) i with h | h | h
  · have a := posE_at (t := t) (e := e) (by omega)
    rw [h1 _ h] at a; cases a
  · exact h
  · have a := posE_below h
    have := posE_le t e
    rw [h2 (by omega)] at a; cases a
def fndE (t : List HelloEntry) (e : HelloEntry) : Bool := bif decide (posE t e < t.length) then sameP (t.getD (posE t e) default) e else false
theorem fndE_lt {t : List HelloEntry} {e : HelloEntry} (h : fndE t e = true) : posE t e < t.length := by
  unfold fndE at h
  simp only [Bool.cond_false_right, Bool.and_eq_true, decide_eq_true_eq] at h
  exact h.1
def atP (p : NetPrefix) : HelloEntry := ⟨p.Addr, p.Len, 0, 0⟩
theorem bs_run {t : List HelloEntry} {e : HelloEntry} (ht : TblOk t) (he : EIn e) : ∀ (m i j : Nat), j - i < m → i ≤ j → j ≤ t.length → (∀ k, k < i → F138 (t.getD k default) e = true) → (∀ k, j ≤ k → k < t.length → F138 (t.getD k default) e = false) →
    runL (F224_s0 t (F136 e) (fun x0 x1 => F225 x0 x1)) m ((i : Int), (j : Int)) = .done (((posE t e : Nat) : Int), ((posE t e : Nat) : Int))
  | 0, i, j, hm, _, _, _, _ => absurd hm (Nat.not_lt_zero _)
  | m + 1, i, j, hm, hij, hj, hl, hr => by
    have h8 := ht.len
    simp only [runL, F224_s0]
    by_cases h : i < j
    · rw [decide_eq_true (by omega : (i : Int) < (j : Int)), cond_true, half_eq (i : Int) (j : Int) (by omega) (by omega) (by omega)]
      have e1 : ((i : Int) + (j : Int)) / 2 = (((i + j) / 2 : Nat) : Int) := by omega
      obtain ⟨q, hq⟩ : ∃ q, q = (i + j) / 2 := ⟨_, rfl⟩
      rw [e1, nn, ← hq]
      have hc : decide (F225 (t.getD q default) (F136 e) < 0) = F138 (t.getD q default) e := cmp_lt (ht.eIn (by omega)) he
      rw [hc]
      cases hb : F138 (t.getD q default) e with
      | true =>
        rw [cond_true]
        have e2 : (q : Int) + 1 = ((q + 1 : Nat) : Int) := by omega
        rw [e2]
        refine bs_run ht he m (q + 1) j (by omega) (by omega) hj (fun k hk => ?_) hr
        rcases Nat.lt_or_ge k q with h1 | h1
        · have := ht.lt (q - k - 1) k (by omega)
          have e3 : k + (q - k - 1) + 1 = q := by omega
          rw [e3] at this
          exact less_trans this hb
        · have : k = q := by omega
          rw [this]; exact hb
      | false =>
        rw [cond_false]
        refine bs_run ht he m i q (by omega) (by omega) (by omega) hl fun k hk1 hk2 => ?_
        rcases Nat.lt_or_ge q k with h1 | h1
        · have := ht.lt (k - q - 1) q (by omega)
          have e3 : q + (k - q - 1) + 1 = k := by omega
          rw [e3] at this
          cases h2 : F138 (t.getD k default) e with
          | false => rfl
          | true => rw [less_trans this h2] at hb; cases hb
        · have : k = q := by omega
          rw [this]; exact hb
    · have : i = j := by omega
      subst this
      rw [decide_eq_false (by omega : ¬ (i : Int) < (i : Int)), cond_false]
      rw [posE_of hj hl (fun hi => hr i (Nat.le_refl _) hi)]
theorem find_eq {t : List HelloEntry} {e : HelloEntry} (ht : TblOk t) (he : EIn e) : F206 t (F136 e) = (((posE t e : Nat) : Int), fndE t e) := by
  have h8 := ht.len
  have hr := bs_run ht he (Int.toNat ((t.length : Int) - 0) + 1) 0 t.length (by omega) (by omega) (Nat.le_refl _) (fun k hk => absurd hk (Nat.not_lt_zero _)) (fun k h1 h2 => by omega)
  unfold F206 F224 F224_j0
  have hr' : runL (F224_s0 t (F136 e) (fun x0 x1 => F225 x0 x1)) (Int.toNat ((t.length : Int) - 0) + 1) (0, (t.length : Int)) = _ := hr
  rw [hr']
  simp only [Lp.fin, nn]
  have e1 : decide (((posE t e : Nat) : Int) < (t.length : Int)) = decide (posE t e < t.length) := by rw [decide_eq_decide]; omega
  rw [e1]
  unfold fndE
  by_cases h : posE t e < t.length
  · rw [decide_eq_true h, cond_true, cond_true]
    have hc : (F225 (t.getD (posE t e) default) (F136 e) == 0) = sameP (t.getD (posE t e) default) e := cmp_eq (ht.eIn h) he
    rw [hc]
  · rw [decide_eq_false h]; rfl
theorem as206 (table : List HelloEntry) (p : NetPrefix) (h1 : TblOk table) (h2 : EIn (atP p)) : F206 table p = (((posE table (atP p) : Nat) : Int), fndE table (atP p)) :=
  (congrArg (fun q => F206 table q) (show p = F136 (atP p) from rfl)).trans (find_eq h1 h2)
theorem find_le (table : List HelloEntry) (p : NetPrefix) : ((posE table (atP p) : Nat) : Int) ≤ (table.length : Int) := by
  have := posE_le table (atP p); omega
theorem at_eq (t : List HelloEntry) (e : HelloEntry) : F213 t e = match first (fun k => sameP (t.getD k default) e) t.length with | some k => (k : Int) | none => -1 := by
  unfold F213
  rw [search (fun k => sameP (t.getD k default) e) (fun k => (k : Int)) t.length _ (fun k hk => by simp only [F213_s0, ltD hk, cond_true, nn]; rfl) (by simp [F213_s0])]
  all_goals (cases first (fun k => sameP (t.getD k default) e) t.length <;> rfl)
theorem at_in (t : List HelloEntry) (e : HelloEntry) : -1 ≤ F213 t e ∧ F213 t e < (t.length : Int) := by
  rw [at_eq]
  cases h : first (fun k => sameP (t.getD k default) e) t.length with
  | none => simp only; omega
  | some k => have := (first_some.1 h).1; simp only; omega
end Go.Proofs.Ytjcgnlpimefhpaa
/- functions, through the machine -/
namespace Go.Proofs.Ytjcgnlpimefhpaa
open Go.RowKit
set_option maxRecDepth 100000
set_option linter.unusedVariables false
set_option linter.unusedSimpArgs false
def T206 (R : Int × Bool) (table : List HelloEntry) (p : NetPrefix) : Spec := ⟨(S206 R table p).args, (S206 R table p).res, TblOk table ∧ EIn (atP p) ∧ table.length ≤ 1000000000⟩
theorem oa206 (table : List HelloEntry) (p : NetPrefix) : (T206 ((((posE table (atP p) : Nat) : Int), fndE table (atP p))) table p).ok Try.prog 206 := by
  intro hp; have h := ok206 table p hp.2.2; rw [as206 table p hp.1 hp.2.1] at h; exact h
def F195_s0 (table : List HelloEntry) (e1 : HelloEntry) : Int → Lp Int (List HelloEntry) := fun k400 =>
  bif (bif decide (k400 < (table.length : Int)) then (F138 (table.getD (Int.toNat k400) default) e1) else false) then (.next (k400 + 1)) else (.done k400)
def F195_j0 (table : List HelloEntry) (e1 : HelloEntry) : Lp Int (List HelloEntry) :=
  (runL (F195_s0 table e1) ((Int.toNat ((table.length : Int) - 0)) + 1) 0).fin Lp.ret (fun k400 => .done k400)
def F195 (table : List HelloEntry) (e1 : HelloEntry) : List HelloEntry :=
  (F195_j0 table e1).fin (fun r => r) (fun k => bif (bif (bif decide (k < (table.length : Int)) then ((table.getD (Int.toNat k) default).Addr == e1.Addr) else false) then ((table.getD (Int.toNat k) default).Len == e1.Len) else false) then (table.set (k).toNat e1) else (((table.take (Int.toNat k)) ++ [e1]) ++ (table.drop (Int.toNat k))))
def S195 (table : List HelloEntry) (e1 : HelloEntry) : Spec := ⟨[.r (.c (.l 4 eHelloEntry table)), .r (.g (eHelloEntry e1))], .ow (.l 4 eHelloEntry (F195 table e1)), table.length ≤ 1000000000⟩
theorem ok195 (table : List HelloEntry) (e1 : HelloEntry) : (S195 table e1).ok Try.prog 195 :=
  fnG_ok mixed (fn := Try.f195) (ct := .seqk [(0, 0)] (.no) (.seqk [(0, 0)] (.no) (.cut (ι := Int) (fun j => (fun (k : Int) => (⟨[(0, some (.h 0 0)), (3, some (.p 1 0)), (5, some (.v (vI k)))], [(0, some (.shr none (.l 4 eHelloEntry table))), (1, some (.box 51 [.v (vI e1.Addr), .v (vI e1.Len), .v (vI e1.Cost), .v (vI e1.Label)]))], 2⟩ : St)) j) (fun j => (fun (k : Int) => ((F195_j0 table e1) = Lp.done j ∧ 0 ≤ k ∧ k ≤ (table.length : Int))) j) (.blk (.loop (ι := Nat × Int) (fun i => (fun (k400 : Int) => (⟨[(0, some (.h 0 0)), (3, some (.p 1 0)), (5, some (.v (vI k400)))], [(0, some (.shr none (.l 4 eHelloEntry table))), (1, some (.box 51 [.v (vI e1.Addr), .v (vI e1.Len), .v (vI e1.Cost), .v (vI e1.Label)]))], 2⟩ : St)) i.2) (fun i => runL (F195_s0 table e1) i.1 i.2 = (runL (F195_s0 table e1) ((Int.toNat ((table.length : Int) - 0)) + 1) 0) ∧ (fun (k400 : Int) => (Int.toNat ((table.length : Int) - k400) < i.1 ∧ k400 ≤ (table.length : Int) ∧ (0 : Int) ≤ k400)) i.2) (fun i => i.1) (((Int.toNat ((table.length : Int) - 0)) + 1), 0) (fun i => (fun (k400 : Int) => (.seq (.seq (.reg [(10, .call 138 (S138 (table.getD (Int.toNat k400) default) e1) (ok138 (table.getD (Int.toNat k400) default) e1) none)]) (.cond (.no) (.no))) (.blk (.reg [(1, .bnd)])))) i.2))) (fun j => (fun (k : Int) => (.seq (.seq (.no) (.cond (.seq (.reg [(1, .call 168 (S168 table table) (oa168 table) none)]) (.seq (.reg [(4, .dat (.l 4 eHelloEntry (table.set (k).toNat e1)))]) (.seq (.no) (.no)))) (.no))) (.seq (.reg [(3, .call 168 (S168 (table.take (Int.toNat k)) (table.take (Int.toNat k))) (oa168 (table.take (Int.toNat k))) none), (6, .dat (.l 4 eHelloEntry ((table.take (Int.toNat k)) ++ [e1]))), (10, .dat (.l 4 eHelloEntry (((table.take (Int.toNat k)) ++ [e1]) ++ (table.drop (Int.toNat k)))))]) (.no)))) j)))) Try.func195 (fun (hpre0 : table.length ≤ 1000000000) => fun (_ : table.length ≤ 9223372036854775807) => fun (_ : table.length ≤ 9223372036854775807) => ai (ai (ai (rfl) (ai ((Imp.refl _)) (ai (rfl) (ai (rfl) (ai (rfl) (ai (rfl) ((ai (rfl : runL (F195_s0 table e1) ((Int.toNat ((table.length : Int) - 0)) + 1) 0 = (runL (F195_s0 table e1) ((Int.toNat ((table.length : Int) - 0)) + 1) 0)) (ai ((Nat.lt_succ_self _ : Int.toNat ((table.length : Int) - 0) < ((Int.toNat ((table.length : Int) - 0)) + 1))) (ai ((by first | omega | (simp only [lens] at * <;> omega) : 0 ≤ (table.length : Int))) ((by first | omega | (simp only [lens] at * <;> omega) : (0 : Int) ≤ 0))))))))))) : ((.int .i64 0 : Value) = .int .i64 0) ∧ (Imp (.l 4 eHelloEntry table) (.l 4 eHelloEntry table)) ∧ ((.int .i64 e1.Addr : Value) = .int .i64 e1.Addr) ∧ ((.int .i64 e1.Len : Value) = .int .i64 e1.Len) ∧ ((.int .i64 e1.Cost : Value) = .int .i64 e1.Cost) ∧ ((.int .i64 e1.Label : Value) = .int .i64 e1.Label) ∧ (runL (F195_s0 table e1) ((Int.toNat ((table.length : Int) - 0)) + 1) 0 = (runL (F195_s0 table e1) ((Int.toNat ((table.length : Int) - 0)) + 1) 0) ∧ Int.toNat ((table.length : Int) - 0) < ((Int.toNat ((table.length : Int) - 0)) + 1) ∧ 0 ≤ (table.length : Int) ∧ (0 : Int) ≤ 0)) (fun (i0 : Nat × Int) (hi0 : runL (F195_s0 table e1) i0.1 i0.2 = (runL (F195_s0 table e1) ((Int.toNat ((table.length : Int) - 0)) + 1) 0) ∧ (fun (k400 : Int) => (Int.toNat ((table.length : Int) - k400) < i0.1 ∧ k400 ≤ (table.length : Int) ∧ (0 : Int) ≤ k400)) i0.2) => (fun (m0 : Nat) (k400 : Int) (hI0 : runL (F195_s0 table e1) (m0 + 1) k400 = (runL (F195_s0 table e1) ((Int.toNat ((table.length : Int) - 0)) + 1) 0)) (_ : Int.toNat ((table.length : Int) - k400) < m0 + 1) (hl0 : m0 < i0.1) (_ : k400 ≤ (table.length : Int)) (_ : (0 : Int) ≤ k400) => ai ((fun k2 : (decide (k400 < (table.length : Int))) = true => (fun _ : k400 < (table.length : Int) => (by first | omega | (simp only [lens] at * <;> omega) : 0 ≤ k400 ∧ k400 < (table.length : Int))) (of_decide_eq_true k2))) (ai ((fun k3 : (decide (k400 < (table.length : Int))) = true => (fun _ : k400 < (table.length : Int) => trivial) (of_decide_eq_true k3))) (ai ((fun k4 : (decide (k400 < (table.length : Int))) = true => (fun _ : k400 < (table.length : Int) => (Imps.refl (eHelloEntry (table.getD (Int.toNat k400) default)))) (of_decide_eq_true k4))) (ai ((fun k5 : (decide (k400 < (table.length : Int))) = true => (fun _ : k400 < (table.length : Int) => (Imps.refl (eHelloEntry e1))) (of_decide_eq_true k5))) (ai (fun h6 : (bif decide (k400 < (table.length : Int)) then (F138 (table.getD (Int.toNat k400) default) e1) else false) = true => (fun _ : k400 < (table.length : Int) => ai ((by unfold i64ok; first | omega | (simp only [lens] at * <;> omega) : i64ok (k400 + 1))) (Exists.intro (p := fun j : Nat × Int => (fun (k400_ : Int) => (((.int .i64 (k400 + 1) : Value) = .int .i64 k400_) ∧ (Imp (.l 4 eHelloEntry table) (.l 4 eHelloEntry table)) ∧ ((.int .i64 e1.Addr : Value) = .int .i64 e1.Addr) ∧ ((.int .i64 e1.Len : Value) = .int .i64 e1.Len) ∧ ((.int .i64 e1.Cost : Value) = .int .i64 e1.Cost) ∧ ((.int .i64 e1.Label : Value) = .int .i64 e1.Label) ∧ ((runL (F195_s0 table e1) j.1 j.2 = (runL (F195_s0 table e1) ((Int.toNat ((table.length : Int) - 0)) + 1) 0) ∧ Int.toNat ((table.length : Int) - k400_) < j.1 ∧ k400_ ≤ (table.length : Int) ∧ (0 : Int) ≤ k400_) ∧ j.1 < i0.1))) j.2) (m0, (k400 + 1)) (ai (rfl) (ai ((Imp.refl _)) (ai (rfl) (ai (rfl) (ai (rfl) (ai (rfl) (ai (ai (runL_next hI0 (condT h6 (rfl))) (ai ((by first | omega | (simp only [lens] at * <;> omega) : Int.toNat ((table.length : Int) - (k400 + 1)) < m0)) (ai ((by first | omega | (simp only [lens] at * <;> omega) : (k400 + 1) ≤ (table.length : Int))) ((by first | omega | (simp only [lens] at * <;> omega) : (0 : Int) ≤ (k400 + 1)))))) hl0))))))))) (of_decide_eq_true (andT1 h6))) (fun h6 : (bif decide (k400 < (table.length : Int)) then (F138 (table.getD (Int.toNat k400) default) e1) else false) = false => (fun hD0_7 : (runL (F195_s0 table e1) ((Int.toNat ((table.length : Int) - 0)) + 1) 0) = Lp.done k400 => Exists.intro (p := fun j : Int => (fun (k_ : Int) => (((.int .i64 k400 : Value) = .int .i64 k_) ∧ (Imp (.l 4 eHelloEntry table) (.l 4 eHelloEntry table)) ∧ ((.int .i64 e1.Addr : Value) = .int .i64 e1.Addr) ∧ ((.int .i64 e1.Len : Value) = .int .i64 e1.Len) ∧ ((.int .i64 e1.Cost : Value) = .int .i64 e1.Cost) ∧ ((.int .i64 e1.Label : Value) = .int .i64 e1.Label) ∧ (F195_j0 table e1) = Lp.done j ∧ 0 ≤ k_ ∧ k_ ≤ (table.length : Int))) j) (k400) (ai (rfl) (ai ((Imp.refl _)) (ai (rfl) (ai (rfl) (ai (rfl) (ai (rfl) (ai (Eq.symm (finD hD0_7 (rfl))) (ai ((by first | omega | (simp only [lens] at * <;> omega) : 0 ≤ k400)) ((by first | omega | (simp only [lens] at * <;> omega) : k400 ≤ (table.length : Int)))))))))))) (runL_done hI0 (condF h6 (rfl))))))))) (i0.1 - 1) i0.2 (hd1 hi0.1 hi0.2.1) (hd2 hi0.2.1) (hd3 hi0.2.1) hi0.2.2.1 hi0.2.2.2)) (fun (j : Int) (hj : (fun (k : Int) => ((F195_j0 table e1) = Lp.done j ∧ 0 ≤ k ∧ k ≤ (table.length : Int))) j) => (fun (k : Int) (hJ0_8 : (F195_j0 table e1) = Lp.done k) (_ : 0 ≤ k) (_ : k ≤ (table.length : Int)) => ai ((fun k9 : (decide (k < (table.length : Int))) = true => (fun _ : k < (table.length : Int) => (by first | omega | (simp only [lens] at * <;> omega) : 0 ≤ k ∧ k < (table.length : Int))) (of_decide_eq_true k9))) (ai ((fun k10 : (bif decide (k < (table.length : Int)) then ((table.getD (Int.toNat k) default).Addr == e1.Addr) else false) = true => (fun _ : (table.getD (Int.toNat k) default).Addr = e1.Addr => (fun _ : k < (table.length : Int) => (by first | omega | (simp only [lens] at * <;> omega) : 0 ≤ k ∧ k < (table.length : Int))) (of_decide_eq_true (andT1 k10))) (eq_of_beq (andT2 k10)))) (ai (fun h11 : (bif (bif decide (k < (table.length : Int)) then ((table.getD (Int.toNat k) default).Addr == e1.Addr) else false) then ((table.getD (Int.toNat k) default).Len == e1.Len) else false) = true => (fun _ : (table.getD (Int.toNat k) default).Len = e1.Len => (fun _ : (table.getD (Int.toNat k) default).Addr = e1.Addr => (fun _ : k < (table.length : Int) => ai (((by first | omega | (simp only [lens] at * <;> omega) : table.length ≤ 1000000000))) (ai ((Imp.refl (.l 4 eHelloEntry table))) (ai ((by first | omega | (simp only [lens] at * <;> omega) : 0 ≤ k ∧ k < (table.length : Int))) (ai ((SetOK.mk eHelloEntry table e1 rfl (by exact ai (Imp.refl _) (ai (Imp.refl _) (ai (Imp.refl _) (ai (Imp.refl _) (trivial))))) : SetOK (.l 4 eHelloEntry table) (k).toNat (eHelloEntry (table.getD (Int.toNat k) default)) [.v (vI e1.Addr), .v (vI e1.Len), .v (vI e1.Cost), .v (vI e1.Label)] (.l 4 eHelloEntry (table.set (k).toNat e1)))) ((fun hF : ((table.set (k).toNat e1) : List HelloEntry) = (F195 table e1) => ai (Imp.of_eq (congrArg (fun r : List HelloEntry => Dat.l 4 eHelloEntry r) hF)) (trivial)) (finD hJ0_8 (condT h11 (rfl)))))))) (of_decide_eq_true (andT1 (andT1 h11)))) (eq_of_beq (andT2 (andT1 h11)))) (eq_of_beq (andT2 h11))) (fun h11 : (bif (bif decide (k < (table.length : Int)) then ((table.getD (Int.toNat k) default).Addr == e1.Addr) else false) then ((table.getD (Int.toNat k) default).Len == e1.Len) else false) = false => ai ((by first | omega | (simp only [lens] at * <;> omega) : 0 ≤ (0 : Int) ∧ (0 : Int) ≤ k ∧ k ≤ (table.length : Int))) (ai (((by first | omega | (simp only [lens] at * <;> omega) : (table.take (Int.toNat k)).length ≤ 1000000000))) (ai ((Imp.refl (.l 4 eHelloEntry (table.take (Int.toNat k))))) (ai ((AppA.mk eHelloEntry (table.take (Int.toNat k)) [e1] (Imp.refl (.l 4 eHelloEntry (table.take (Int.toNat k)))) rfl (by exact ai (Imp.refl _) (ai (Imp.refl _) (ai (Imp.refl _) (ai (Imp.refl _) (trivial))))) (fun _ => rfl) : AppA (.l 4 eHelloEntry (table.take (Int.toNat k))) 1 4 [.v (vI e1.Addr), .v (vI e1.Len), .v (vI e1.Cost), .v (vI e1.Label)] (.l 4 eHelloEntry ((table.take (Int.toNat k)) ++ [e1])))) (ai ((by (try simp only [lens]); omega : (((table.take (Int.toNat k)) ++ [e1])).length * 32 ≤ 140737488355328)) (ai ((by first | omega | (simp only [lens] at * <;> omega) : 0 ≤ k ∧ k ≤ (table.length : Int) ∧ (table.length : Int) ≤ (table.length : Int))) (ai ((AppL.mk eHelloEntry ((table.take (Int.toNat k)) ++ [e1]) (table.drop (Int.toNat k)) (Imp.refl (.l 4 eHelloEntry ((table.take (Int.toNat k)) ++ [e1]))) (Imp.refl _) (fun y => ⟨rfl, fun e he => by simp only [eHelloEntry, List.mem_cons, List.not_mem_nil, or_false] at he; rcases he with rfl | rfl | rfl | rfl <;> exact ⟨_, rfl⟩⟩) : AppL (.l 4 eHelloEntry ((table.take (Int.toNat k)) ++ [e1])) (.l 4 eHelloEntry (table.drop (Int.toNat k))) 4 (.l 4 eHelloEntry (((table.take (Int.toNat k)) ++ [e1]) ++ (table.drop (Int.toNat k)))))) (ai ((by (try simp only [lens]); omega : ((((table.take (Int.toNat k)) ++ [e1]) ++ (table.drop (Int.toNat k)))).length * 32 ≤ 140737488355328)) ((fun hF : ((((table.take (Int.toNat k)) ++ [e1]) ++ (table.drop (Int.toNat k))) : List HelloEntry) = (F195 table e1) => ai (Imp.of_eq (congrArg (fun r : List HelloEntry => Dat.l 4 eHelloEntry r) hF)) (trivial)) (finD hJ0_8 (condF h11 (rfl))))))))))))))) j hj.1 hj.2.1 hj.2.2)) (by kernel_rfl)
def F205 (table : List HelloEntry) (e1 : HelloEntry) : List HelloEntry :=
  bif (decide ((F213 table e1) < 0)) then table else ((table.take (Int.toNat (F213 table e1))) ++ (table.drop (Int.toNat ((F213 table e1) + 1))))
def S205 (table : List HelloEntry) (e1 : HelloEntry) : Spec := ⟨[.r (.c (.l 4 eHelloEntry table)), .r (.g (eHelloEntry e1))], .ow (.l 4 eHelloEntry (F205 table e1)), table.length ≤ 1000000000⟩
theorem ok205 (table : List HelloEntry) (e1 : HelloEntry) : (S205 table e1).ok Try.prog 205 :=
  fnG_ok mixed (fn := Try.f205) (ct := .seqk [(0, 0)] (.no) (.seq (.reg [(2, .call 213 (S213 table e1) (ok213 table e1) none)]) (.seq (.seq (.no) (.cond (.seq (.reg [(1, .call 168 (S168 table table) (oa168 table) none)]) (.no)) (.no))) (.seq (.reg [(3, .call 168 (S168 (table.take (Int.toNat (F213 table e1))) (table.take (Int.toNat (F213 table e1)))) (oa168 (table.take (Int.toNat (F213 table e1)))) none), (6, .bnd), (8, .dat (.l 4 eHelloEntry ((table.take (Int.toNat (F213 table e1))) ++ (table.drop (Int.toNat ((F213 table e1) + 1))))))]) (.no))))) Try.func205 (fun (hpre0 : table.length ≤ 1000000000) => fun (_ : table.length ≤ 9223372036854775807) => ai (trivial) (ai ((Imp.refl (.l 4 eHelloEntry table))) (ai ((Imps.refl (eHelloEntry e1))) ((fun gv1 : -1 ≤ (F213 table e1) ∧ (F213 table e1) < (table.length : Int) => ai (fun h2 : (decide ((F213 table e1) < 0)) = true => (fun _ : (F213 table e1) < 0 => ai (((by first | omega | (simp only [lens] at * <;> omega) : table.length ≤ 1000000000))) (ai ((Imp.refl (.l 4 eHelloEntry table))) ((fun hF : (table : List HelloEntry) = (F205 table e1) => ai (Imp.of_eq (congrArg (fun r : List HelloEntry => Dat.l 4 eHelloEntry r) hF)) (trivial)) (condT h2 (rfl))))) (of_decide_eq_true h2)) (fun h2 : (decide ((F213 table e1) < 0)) = false => (fun _ : ¬ (F213 table e1) < 0 => ai ((by first | omega | (simp only [lens] at * <;> omega) : 0 ≤ (0 : Int) ∧ (0 : Int) ≤ (F213 table e1) ∧ (F213 table e1) ≤ (table.length : Int))) (ai (((by first | omega | (simp only [lens] at * <;> omega) : (table.take (Int.toNat (F213 table e1))).length ≤ 1000000000))) (ai ((Imp.refl (.l 4 eHelloEntry (table.take (Int.toNat (F213 table e1)))))) (ai ((by unfold i64ok; first | omega | (simp only [lens] at * <;> omega) : i64ok ((F213 table e1) + 1))) (ai ((by first | omega | (simp only [lens] at * <;> omega) : 0 ≤ ((F213 table e1) + 1) ∧ ((F213 table e1) + 1) ≤ (table.length : Int) ∧ (table.length : Int) ≤ (table.length : Int))) (ai ((AppL.mk eHelloEntry (table.take (Int.toNat (F213 table e1))) (table.drop (Int.toNat ((F213 table e1) + 1))) (Imp.refl (.l 4 eHelloEntry (table.take (Int.toNat (F213 table e1))))) (Imp.refl _) (fun y => ⟨rfl, fun e he => by simp only [eHelloEntry, List.mem_cons, List.not_mem_nil, or_false] at he; rcases he with rfl | rfl | rfl | rfl <;> exact ⟨_, rfl⟩⟩) : AppL (.l 4 eHelloEntry (table.take (Int.toNat (F213 table e1)))) (.l 4 eHelloEntry (table.drop (Int.toNat ((F213 table e1) + 1)))) 4 (.l 4 eHelloEntry ((table.take (Int.toNat (F213 table e1))) ++ (table.drop (Int.toNat ((F213 table e1) + 1))))))) (ai ((by (try simp only [lens]); omega : (((table.take (Int.toNat (F213 table e1))) ++ (table.drop (Int.toNat ((F213 table e1) + 1))))).length * 32 ≤ 140737488355328)) ((fun hF : (((table.take (Int.toNat (F213 table e1))) ++ (table.drop (Int.toNat ((F213 table e1) + 1)))) : List HelloEntry) = (F205 table e1) => ai (Imp.of_eq (congrArg (fun r : List HelloEntry => Dat.l 4 eHelloEntry r) hF)) (trivial)) (condF h2 (rfl)))))))))) (of_decide_eq_false h2))) (at_in table e1))))) (by kernel_rfl)
def F170 (table : List HelloEntry) (c : HelloChange) : List HelloEntry :=
  bif (c.Kind == 1) then (F195 table c.Entry) else (bif (c.Kind == 2) then (F205 table c.Entry) else table)
def S170 (table : List HelloEntry) (c : HelloChange) : Spec := ⟨[.r (.c (.l 4 eHelloEntry table)), .r (.g (eHelloChange c))], .ow (.l 4 eHelloEntry (F170 table c)), table.length ≤ 1000000000⟩
theorem ok170 (table : List HelloEntry) (c : HelloChange) : (S170 table c).ok Try.prog 170 :=
  fnG_ok mixed (fn := Try.f170) (ct := .seqk [(0, 0)] (.no) (.seq (.seq (.no) (.blk (.seq (.no) (.cond (.seq (.reg [(3, .call 195 (S195 table c.Entry) (ok195 table c.Entry) none)]) (.no)) (.seq (.no) (.cond (.seq (.reg [(3, .call 205 (S205 table c.Entry) (ok205 table c.Entry) none)]) (.no)) (.no))))))) (.seq (.reg [(1, .call 168 (S168 table table) (oa168 table) none)]) (.no)))) Try.func170 (fun (hpre0 : table.length ≤ 1000000000) => fun (_ : table.length ≤ 9223372036854775807) => ai (fun h1 : (c.Kind == 1) = true => (fun _ : c.Kind = 1 => ai (((by omega : table.length ≤ 1000000000))) (ai ((Imp.refl (.l 4 eHelloEntry table))) (ai ((Imps.refl (eHelloEntry c.Entry))) ((fun hF : ((F195 table c.Entry) : List HelloEntry) = (F170 table c) => ai (Imp.of_eq (congrArg (fun r : List HelloEntry => Dat.l 4 eHelloEntry r) hF)) (trivial)) (condT h1 (rfl)))))) (eq_of_beq h1)) (fun h1 : (c.Kind == 1) = false => (fun _ : ¬ c.Kind = 1 => ai (fun h2 : (c.Kind == 2) = true => (fun _ : c.Kind = 2 => ai (((by omega : table.length ≤ 1000000000))) (ai ((Imp.refl (.l 4 eHelloEntry table))) (ai ((Imps.refl (eHelloEntry c.Entry))) ((fun hF : ((F205 table c.Entry) : List HelloEntry) = (F170 table c) => ai (Imp.of_eq (congrArg (fun r : List HelloEntry => Dat.l 4 eHelloEntry r) hF)) (trivial)) (condF h1 (condT h2 (rfl))))))) (eq_of_beq h2)) (fun h2 : (c.Kind == 2) = false => (fun _ : ¬ c.Kind = 2 => ai (((by omega : table.length ≤ 1000000000))) (ai ((Imp.refl (.l 4 eHelloEntry table))) ((fun hF : (table : List HelloEntry) = (F170 table c) => ai (Imp.of_eq (congrArg (fun r : List HelloEntry => Dat.l 4 eHelloEntry r) hF)) (trivial)) (condF h1 (condF h2 (rfl)))))) (beqF h2))) (beqF h1))) (by kernel_rfl)
def F207 (s : List HelloEntry) (i40 : Int) (v1 : List HelloEntry) : List HelloEntry :=
  (s.take (Int.toNat i40) ++ v1 ++ s.drop (Int.toNat i40))
def S207 (s : List HelloEntry) (i40 : Int) (v1 : List HelloEntry) : Spec := ⟨[.ow (.l 4 eHelloEntry s) none, .r (.c (.v (vI i40))), .ow (.l 4 eHelloEntry v1) none], .ow (.l 4 eHelloEntry (F207 s i40 v1)), 0 ≤ i40 ∧ i40 ≤ (s.length : Int) ∧ 1 ≤ v1.length ∧ s.length ≤ 1000000000 ∧ v1.length ≤ 1000000000⟩
theorem ok207 (s : List HelloEntry) (i40 : Int) (v1 : List HelloEntry) : (S207 s i40 v1).ok Try.prog 207 :=
  insert_ok eHelloEntry (fun x => ⟨rfl, fun d hd => by simp only [eHelloEntry, List.mem_cons, List.not_mem_nil, or_false] at hd; rcases hd with rfl | rfl | rfl | rfl <;> exact ⟨_, rfl, rfl⟩⟩) s v1 i40
def F208 (s : List HelloEntry) (i40 : Int) (j1 : Int) : List HelloEntry :=
  (s.take (Int.toNat i40) ++ s.drop (Int.toNat j1))
def S208 (s : List HelloEntry) (i40 : Int) (j1 : Int) : Spec := ⟨[.ow (.l 4 eHelloEntry s) none, .r (.c (.v (vI i40))), .r (.c (.v (vI j1)))], .ow (.l 4 eHelloEntry (F208 s i40 j1)), 0 ≤ i40 ∧ i40 ≤ j1 ∧ j1 ≤ (s.length : Int)⟩
theorem ok208 (s : List HelloEntry) (i40 : Int) (j1 : Int) : (S208 s i40 j1).ok Try.prog 208 :=
  delete_ok eHelloEntry (fun x => ⟨rfl, fun d hd => by simp only [eHelloEntry, List.mem_cons, List.not_mem_nil, or_false] at hd; rcases hd with rfl | rfl | rfl | rfl <;> exact ⟨_, rfl, rfl⟩⟩) s i40 j1
def F172 (table : List HelloEntry) (c : HelloChange) : List HelloEntry :=
  bif (bif (c.Kind == 1) then fndE table (atP (F136 c.Entry)) else false) then (table.set (((posE table (atP (F136 c.Entry)) : Nat) : Int)).toNat c.Entry) else (bif (c.Kind == 1) then (F207 table ((posE table (atP (F136 c.Entry)) : Nat) : Int) ([c.Entry] : List HelloEntry)) else (bif (bif (c.Kind == 2) then fndE table (atP (F136 c.Entry)) else false) then (F208 table ((posE table (atP (F136 c.Entry)) : Nat) : Int) (((posE table (atP (F136 c.Entry)) : Nat) : Int) + 1)) else table))
def S172 (R : List HelloEntry) (table : List HelloEntry) (c : HelloChange) : Spec := ⟨[.r (.c (.l 4 eHelloEntry table)), .r (.g (eHelloChange c))], .ow (.l 4 eHelloEntry R), TblOk table ∧ EIn c.Entry ∧ table.length ≤ 8⟩
theorem ok172 (table : List HelloEntry) (c : HelloChange) : (S172 (F172 table c) table c).ok Try.prog 172 :=
  fnG_ok mixed (fn := Try.f172) (ct := .seqk [(0, 0)] (.no) (.seq (.reg [(1, .call 94 (S94 table table) (oa94 table) none)]) (.seq (.reg [(3, .call 136 (S136 c.Entry) (ok136 c.Entry) none), (4, .call 206 (T206 (((posE table (atP (F136 c.Entry)) : Nat) : Int), fndE table (atP (F136 c.Entry))) table (F136 c.Entry)) (oa206 table (F136 c.Entry)) none)]) (.seq (.blk (.seq (.no) (.cond (.reg [(5, .dat (.l 4 eHelloEntry (table.set (((posE table (atP (F136 c.Entry)) : Nat) : Int)).toNat c.Entry)))]) (.seq (.no) (.cond (.reg [(4, .dat (.l 4 eHelloEntry ([c.Entry] : List HelloEntry))), (5, .call 207 (S207 table ((posE table (atP (F136 c.Entry)) : Nat) : Int) ([c.Entry] : List HelloEntry)) (ok207 table ((posE table (atP (F136 c.Entry)) : Nat) : Int) ([c.Entry] : List HelloEntry)) none)]) (.seq (.no) (.cond (.reg [(3, .bnd), (4, .call 208 (S208 table ((posE table (atP (F136 c.Entry)) : Nat) : Int) (((posE table (atP (F136 c.Entry)) : Nat) : Int) + 1)) (ok208 table ((posE table (atP (F136 c.Entry)) : Nat) : Int) (((posE table (atP (F136 c.Entry)) : Nat) : Int) + 1)) none)]) (.no)))))))) (.seq (.no) (.no)))))) Try.func172 (fun (hp : TblOk table ∧ EIn c.Entry ∧ table.length ≤ 8) => (fun (hpre0 : TblOk table) (hpre1 : EIn c.Entry) (hpre2 : table.length ≤ 8) => fun (_ : table.length ≤ 9223372036854775807) => ai (((by first | omega | (simp only [lens] at * <;> omega) : table.length ≤ 1000000000))) (ai ((Imp.refl (.l 4 eHelloEntry table))) (ai (trivial) (ai ((Imps.refl (eHelloEntry c.Entry))) (ai ((ai ((by assumption : TblOk table)) (ai ((by assumption : EIn (atP (F136 c.Entry)))) ((by first | omega | (simp only [lens] at * <;> omega) : table.length ≤ 1000000000))))) (ai ((Imp.refl (.l 4 eHelloEntry table))) (ai ((Imps.refl (eNetPrefix (F136 c.Entry)))) ((fun gv1 : ((posE table (atP (F136 c.Entry)) : Nat) : Int) ≤ (table.length : Int) => ai (fun h2 : (bif (c.Kind == 1) then fndE table (atP (F136 c.Entry)) else false) = true => (fun _ : fndE table (atP (F136 c.Entry)) = true => (fun _ : c.Kind = 1 => ai ((by first | omega | ((have hq := fndE_lt (by assumption)); (try simp only [lens]); omega) : 0 ≤ ((posE table (atP (F136 c.Entry)) : Nat) : Int) ∧ ((posE table (atP (F136 c.Entry)) : Nat) : Int) < (table.length : Int))) (ai ((SetOK.mk eHelloEntry table c.Entry rfl (by exact ai (Imp.refl _) (ai (Imp.refl _) (ai (Imp.refl _) (ai (Imp.refl _) (trivial))))) : SetOK (.l 4 eHelloEntry table) (((posE table (atP (F136 c.Entry)) : Nat) : Int)).toNat (eHelloEntry (table.getD (Int.toNat ((posE table (atP (F136 c.Entry)) : Nat) : Int)) default)) [.v (vI c.Entry.Addr), .v (vI c.Entry.Len), .v (vI c.Entry.Cost), .v (vI c.Entry.Label)] (.l 4 eHelloEntry (table.set (((posE table (atP (F136 c.Entry)) : Nat) : Int)).toNat c.Entry)))) ((fun hF : ((table.set (((posE table (atP (F136 c.Entry)) : Nat) : Int)).toNat c.Entry) : List HelloEntry) = (F172 table c) => ai (Imp.of_eq (congrArg (fun r : List HelloEntry => Dat.l 4 eHelloEntry r) hF)) (trivial)) (condT h2 (rfl))))) (eq_of_beq (andT1 h2))) ((andT2 h2))) (fun h2 : (bif (c.Kind == 1) then fndE table (atP (F136 c.Entry)) else false) = false => ai (fun h3 : (c.Kind == 1) = true => (fun _ : c.Kind = 1 => ai ((BuildOK.mk eHelloEntry ([c.Entry] : List HelloEntry) rfl (by exact ai (Imp.refl _) (ai (Imp.refl _) (ai (Imp.refl _) (ai (Imp.refl _) (trivial))))) (fun _ => rfl) : BuildOK 1 4 [.v (vI c.Entry.Addr), .v (vI c.Entry.Len), .v (vI c.Entry.Cost), .v (vI c.Entry.Label)] (.l 4 eHelloEntry ([c.Entry] : List HelloEntry)))) (ai ((ai ((by first | omega | (simp only [lens]; omega) | (exact find_le _ _) : 0 ≤ ((posE table (atP (F136 c.Entry)) : Nat) : Int))) (ai ((by first | omega | (simp only [lens]; omega) | (exact find_le _ _) : ((posE table (atP (F136 c.Entry)) : Nat) : Int) ≤ (table.length : Int))) (ai ((by first | omega | (simp only [lens]; omega) | (exact find_le _ _) : 1 ≤ ([c.Entry] : List HelloEntry).length)) (ai ((by first | omega | (simp only [lens]; omega) | (exact find_le _ _) : table.length ≤ 1000000000)) ((by first | omega | (simp only [lens]; omega) | (exact find_le _ _) : ([c.Entry] : List HelloEntry).length ≤ 1000000000))))))) (ai ((Imp.refl (.l 4 eHelloEntry table))) (ai ((Imp.refl (.v (vI ((posE table (atP (F136 c.Entry)) : Nat) : Int))))) (ai ((Imp.refl (.l 4 eHelloEntry ([c.Entry] : List HelloEntry)))) ((fun hF : ((F207 table ((posE table (atP (F136 c.Entry)) : Nat) : Int) ([c.Entry] : List HelloEntry)) : List HelloEntry) = (F172 table c) => ai (Imp.of_eq (congrArg (fun r : List HelloEntry => Dat.l 4 eHelloEntry r) hF)) (trivial)) (condF h2 (condT h3 (rfl))))))))) (eq_of_beq h3)) (fun h3 : (c.Kind == 1) = false => (fun _ : ¬ c.Kind = 1 => ai (fun h4 : (bif (c.Kind == 2) then fndE table (atP (F136 c.Entry)) else false) = true => (fun _ : fndE table (atP (F136 c.Entry)) = true => (fun _ : c.Kind = 2 => ai ((by unfold i64ok; first | omega | (simp only [lens] at * <;> omega) : i64ok (((posE table (atP (F136 c.Entry)) : Nat) : Int) + 1))) (ai ((ai ((by first | omega | ((have hq := fndE_lt (by assumption)); (try simp only [lens]); omega) | (simp only [lens]; omega) : 0 ≤ ((posE table (atP (F136 c.Entry)) : Nat) : Int))) (ai ((by first | omega | ((have hq := fndE_lt (by assumption)); (try simp only [lens]); omega) | (simp only [lens]; omega) : ((posE table (atP (F136 c.Entry)) : Nat) : Int) ≤ (((posE table (atP (F136 c.Entry)) : Nat) : Int) + 1))) ((by first | omega | ((have hq := fndE_lt (by assumption)); (try simp only [lens]); omega) | (simp only [lens]; omega) : (((posE table (atP (F136 c.Entry)) : Nat) : Int) + 1) ≤ (table.length : Int)))))) (ai ((Imp.refl (.l 4 eHelloEntry table))) (ai ((Imp.refl (.v (vI ((posE table (atP (F136 c.Entry)) : Nat) : Int))))) (ai ((Imp.refl (.v (vI (((posE table (atP (F136 c.Entry)) : Nat) : Int) + 1))))) ((fun hF : ((F208 table ((posE table (atP (F136 c.Entry)) : Nat) : Int) (((posE table (atP (F136 c.Entry)) : Nat) : Int) + 1)) : List HelloEntry) = (F172 table c) => ai (Imp.of_eq (congrArg (fun r : List HelloEntry => Dat.l 4 eHelloEntry r) hF)) (trivial)) (condF h2 (condF h3 (condT h4 (rfl)))))))))) (eq_of_beq (andT1 h4))) ((andT2 h4))) (fun h4 : (bif (c.Kind == 2) then fndE table (atP (F136 c.Entry)) else false) = false => (fun hF : (table : List HelloEntry) = (F172 table c) => ai (Imp.of_eq (congrArg (fun r : List HelloEntry => Dat.l 4 eHelloEntry r) hF)) (trivial)) (condF h2 (condF h3 (condF h4 (rfl)))))) (beqF h3)))) (find_le table (F136 c.Entry)))))))))) hp.1 hp.2.1 hp.2.2) (by kernel_rfl)
end Go.Proofs.Ytjcgnlpimefhpaa
/- Plain laws: a table behind a change. -/
namespace Go.Proofs.Ytjcgnlpimefhpaa
open Go.RowKit
set_option maxRecDepth 100000
set_option linter.unusedVariables false
set_option linter.unusedSimpArgs false
theorem change_in (c : HelloChange) (h : F142 c = true) : EIn c.Entry := by
  unfold F142 at h
  have hz : ((c.Entry.Addr == 0) && ((c.Entry.Len == 0) && ((c.Entry.Cost == 0) && (c.Entry.Label == 0)))) = true → EIn c.Entry := fun h => by
    simp only [Bool.and_eq_true, beq_iff_eq] at h
    unfold EIn; omega
  have hg : (bif (bif (F202 c.Entry) then (c.Entry.Cost == 0) else false) then (c.Entry.Label == 0) else false) = true → EIn c.Entry := fun h => by
    simp only [Bool.cond_false_right, Bool.and_eq_true] at h
    exact prefix_in h.1.1
  cases h0 : (c.Kind == 0) with
  | true => rw [h0] at h; exact hz h
  | false =>
    rw [h0] at h
    cases h3 : (c.Kind == 3) with
    | true => rw [h3] at h; exact hz h
    | false =>
      rw [h3] at h
      cases h1 : (c.Kind == 1) with
      | true => rw [h1] at h; exact entry_in h
      | false =>
        rw [h1] at h
        cases h2 : (c.Kind == 2) with
        | true => rw [h2] at h; exact hg h
        | false => rw [h2] at h; cases h
theorem change_inI (c : HelloChange) (h : F141 c = true) : EIn c.Entry := change_in c (changeOk_eq c ▸ h)
theorem same_iff {x y : HelloEntry} : sameP x y = true ↔ x.Addr = y.Addr ∧ x.Len = y.Len := by
  unfold sameP
  simp only [Bool.cond_false_right, Bool.and_eq_true, beq_iff_eq]
theorem less_same {x y : HelloEntry} (h : F138 x y = true) : sameP x y = false := by
  cases e : sameP x y with
  | false => rfl
  | true =>
    have := same_iff.1 e
    unfold F138 at h
    simp only [Bool.cond_true_left, Bool.cond_false_right, Bool.or_eq_true, Bool.and_eq_true, decide_eq_true_eq, beq_iff_eq] at h
    omega
theorem same_less {x y z : HelloEntry} (h : sameP y z = true) : F138 x y = F138 x z := by
  obtain ⟨h1, h2⟩ := same_iff.1 h
  unfold F138
  rw [h1, h2]
theorem putK_eq (t : List HelloEntry) (e : HelloEntry) : F195_j0 t e = .done ((posE t e : Nat) : Int) := by
  have hle := posE_le t e
  have hr := runL_rule (step := F195_s0 t e) (fun (k : Nat) (_ : Unit) => ((k : Nat) : Int)) (posE t e) (fun _ _ => True) (fun _ => False)
    (fun k _ hk _ => .inl ⟨(), by
      simp only [F195_s0, ltD (show k < t.length by omega), cond_true, nn, posE_below hk]; rfl, trivial⟩)
    (fun _ _ => by
      simp only [F195_s0, nn]
      rcases Nat.lt_or_ge (posE t e) t.length with h | h
      · rw [ltD h, cond_true, posE_at h]; rfl
      · rw [decide_eq_false (by omega)]; rfl)
    (posE t e) 0 () (by omega) trivial (Int.toNat ((t.length : Int) - 0) + 1) (by omega)
  rcases hr with ⟨_, hr, _⟩ | ⟨_, _, hr⟩
  · have hr' : runL (F195_s0 t e) (Int.toNat ((t.length : Int) - 0) + 1) 0 = _ := hr
    unfold F195_j0
    rw [hr']; rfl
  · exact hr.elim
theorem put_eq (t : List HelloEntry) (e : HelloEntry) : F195 t e = bif fndE t e then t.set (posE t e) e else t.take (posE t e) ++ [e] ++ t.drop (posE t e) := by
  unfold F195
  rw [putK_eq]
  simp only [Lp.fin, nn]
  have e1 : decide (((posE t e : Nat) : Int) < (t.length : Int)) = decide (posE t e < t.length) := by rw [decide_eq_decide]; omega
  rw [e1]
  unfold fndE sameP
  cases decide (posE t e < t.length)
  · rfl
  · cases ((t.getD (posE t e) default).Addr == e.Addr) <;> rfl
theorem at_pos {t : List HelloEntry} {e : HelloEntry} (ht : TblOk t) : F213 t e = bif fndE t e then ((posE t e : Nat) : Int) else -1 := by
  rw [at_eq]
  cases h : fndE t e with
  | true =>
    have hl := fndE_lt h
    have hs : sameP (t.getD (posE t e) default) e = true := by
      unfold fndE at h
      simp only [Bool.cond_false_right, Bool.and_eq_true] at h
      exact h.2
    have : first (fun k => sameP (t.getD k default) e) t.length = some (posE t e) := first_some.2 ⟨hl, hs, fun j hj => less_same (posE_below hj)⟩
    rw [this]; rfl
  | false =>
    have : first (fun k => sameP (t.getD k default) e) t.length = none := first_none.2 fun k hk => by
      rcases Nat.lt_trichotomy k (posE t e) with h1 | h1 | h1
      · exact less_same (posE_below h1)
      · unfold fndE at h
        rw [← h1, decide_eq_true hk, cond_true] at h
        exact h
      · cases hs : sameP (t.getD k default) e with
        | false => rfl
        | true =>
          have a := ht.lt (k - posE t e - 1) (posE t e) (by omega)
          have e3 : posE t e + (k - posE t e - 1) + 1 = k := by omega
          rw [e3, same_less hs, posE_at (by omega)] at a
          cases a
    rw [this]; rfl
theorem as172 (table : List HelloEntry) (c : HelloChange) (h1 : TblOk table) (h2 : EIn c.Entry) : F172 table c = F170 table c := by
  have ep : posE table (atP (F136 c.Entry)) = posE table c.Entry := rfl
  have ef : fndE table (atP (F136 c.Entry)) = fndE table c.Entry := rfl
  unfold F172 F170 F205 F207 F208
  rw [ep, ef, put_eq, at_pos h1]
  cases h3 : (c.Kind == 1) with
  | true =>
    cases fndE table c.Entry
    · simp only [cond_true, cond_false, nn]
    · simp only [cond_true, nn]
  | false =>
    cases h4 : (c.Kind == 2) with
    | false => rfl
    | true =>
      cases fndE table c.Entry
      · rfl
      · simp only [cond_true, cond_false, nn]
        rw [decide_eq_false (by omega)]; rfl
end Go.Proofs.Ytjcgnlpimefhpaa
