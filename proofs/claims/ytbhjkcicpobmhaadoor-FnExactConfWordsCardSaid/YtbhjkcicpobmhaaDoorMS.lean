/-
  Plain tools: copies, comparisons, marks and sizes of data.
-/
import Derived.Test.YtbhjkcicpobmhaaDoorMR
namespace Go.Proofs.YtbhjkcicpobmhaaDoor
open Go.RowKit

theorem n0 (n : Nat) : Int.toNat ((n : Int) - 0) = n := by simp
theorem nn (n : Nat) : Int.toNat (n : Int) = n := by simp
theorem ltD {n : Nat} {k : Nat} (h : k < n) : decide ((k : Int) < (n : Int)) = true := by simp; omega
theorem geD {n : Nat} : decide ((n : Int) < (n : Int)) = false := by simp
theorem getD_nil {α : Type} [Inhabited α] (k : Nat) : ([] : List α).getD k default = default := rfl
theorem getD_cons_zero' {α : Type} [Inhabited α] (x : α) (xs : List α) : (x :: xs).getD 0 default = x := rfl
theorem getD_cons_succ' {α : Type} [Inhabited α] (x : α) (xs : List α) (k : Nat) : (x :: xs).getD (k + 1) default = xs.getD k default := rfl
theorem getD_ge {α : Type} [Inhabited α] (xs : List α) {k : Nat} (h : xs.length ≤ k) : xs.getD k default = default := by
  rw [List.getD_eq_getElem?_getD, List.getElem?_eq_none h]; rfl
theorem getD_lt {α : Type} [Inhabited α] (xs : List α) {k : Nat} (h : k < xs.length) : xs.getD k default = xs[k] := by
  rw [List.getD_eq_getElem?_getD, List.getElem?_eq_getElem h]; rfl
theorem getD_mem {α : Type} [Inhabited α] (xs : List α) {k : Nat} (h : k < xs.length) : xs.getD k default ∈ xs := by
  rw [getD_lt xs h]; exact List.getElem_mem h
theorem mem_getD {α : Type} [Inhabited α] {xs : List α} {x : α} (h : x ∈ xs) : ∃ k, k < xs.length ∧ xs.getD k default = x := by
  obtain ⟨k, hk, e⟩ := List.mem_iff_getElem.1 h
  exact ⟨k, hk, by rw [getD_lt xs hk]; exact e⟩
theorem take_set_next {α : Type} [Inhabited α] {s a : List α} {k : Nat} (hl : s.length = a.length) (h : s.take k = a.take k) (hk : k < a.length) : (s.set k (a.getD k default)).take (k + 1) = a.take (k + 1) := by
  rw [List.take_add_one, List.take_add_one, List.take_set_of_le (Nat.le_refl _), h, List.getElem?_set_self (by omega), List.getD_eq_getElem?_getD, List.getElem?_eq_getElem hk]
  rfl
theorem take_next {α : Type} [Inhabited α] {a : List α} {k : Nat} (hk : k < a.length) : a.take (k + 1) = a.take k ++ [a.getD k default] := by
  rw [List.take_add_one, List.getD_eq_getElem?_getD, List.getElem?_eq_getElem hk]
  rfl
theorem list_eq_of_getD {α : Type} [Inhabited α] {a b : List α} (hl : a.length = b.length) (h : ∀ k, k < a.length → a.getD k default = b.getD k default) : a = b := by
  refine List.ext_getElem hl fun k h1 h2 => ?_
  have := h k h1
  rwa [getD_lt a h1, getD_lt b h2] at this

/-- a list, copied element by element into a list of its length -/
theorem to_loop {α : Type} [Inhabited α] (f : α → α) (hf : ∀ x, f x = x) (a init : List α) (hi : init.length = a.length) (step : Int × List α → Lp (Int × List α) (List α))
    (hs : ∀ i xs, step (i, xs) = bif decide (i < (a.length : Int)) then .next (i + 1, xs.set (Int.toNat i) (f (a.getD (Int.toNat i) default))) else .done (i, xs)) :
    (runL step ((Int.toNat ((a.length : Int) - 0)) + 1) (0, init)).fin (fun r => r) (fun s => s.2) = a := by
  have h := runL_rule (step := step) (fun (k : Nat) (s : List α) => ((k : Int), s)) a.length (fun k s => s.length = a.length ∧ s.take k = a.take k) (fun _ => False)
    (fun k s hk ⟨h1, h2⟩ => .inl ⟨s.set k (a.getD k default), by simp [hs, hf, hk], by simp [h1], take_set_next h1 h2 hk⟩)
    (fun s _ => by simp [hs]) a.length 0 init (by omega) ⟨hi, by simp⟩ (a.length + 1) (Nat.lt_succ_self _)
  rw [n0]
  rcases h with ⟨s', h, h1, h2⟩ | ⟨r, _, h⟩
  · have h : runL step (a.length + 1) (0, init) = .done ((a.length : Int), s') := h
    rw [h]
    show s' = a
    rw [List.take_of_length_le (by omega), List.take_of_length_le (by omega)] at h2
    exact h2
  · exact h.elim

/-- two lists, compared element by element -/
theorem eq_loop {α : Type} [Inhabited α] [DecidableEq α] (e : α → α → Bool) (he : ∀ x y, e x y = decide (x = y)) (a b : List α) (step : Int → Lp Int Bool)
    (hs : ∀ i, step i = bif (decide (i < (a.length : Int))) then (bif (!(e (a.getD (Int.toNat i) default) (b.getD (Int.toNat i) default))) then (.ret false) else (.next (i + 1))) else (.done i)) :
    (bif ((a.length : Int) != (b.length : Int)) then false else ((runL step ((Int.toNat ((a.length : Int) - 0)) + 1) 0).fin (fun r => r) (fun _ => true))) = decide (a = b) := by
  by_cases hl : a.length = b.length
  · have hc : ((a.length : Int) != (b.length : Int)) = false := by simp [hl]
    rw [hc, cond_false]
    have h := runL_rule (step := step) (fun (k : Nat) (_ : Unit) => (k : Int)) a.length (fun k _ => ∀ j, j < k → a.getD j default = b.getD j default) (fun r => r = false ∧ a ≠ b)
      (fun k _ hk hI => by
        have hc := ltD hk
        by_cases hx : a.getD k default = b.getD k default
        · refine .inl ⟨(), ?_, fun j hj => ?_⟩
          · rw [hs, he, Int.toNat_natCast, hc, hx, decide_eq_true rfl]
            rfl
          · rcases Nat.lt_succ_iff_lt_or_eq.1 hj with h | h
            · exact hI j h
            · exact h ▸ hx
        · refine .inr ⟨false, ?_, rfl, fun e => hx (e ▸ rfl)⟩
          rw [hs, he, Int.toNat_natCast, hc, decide_eq_false hx]
          rfl)
      (fun s _ => by rw [hs]; simp) a.length 0 () (by omega) (fun j hj => by omega) (a.length + 1) (Nat.lt_succ_self _)
    rw [n0]
    rcases h with ⟨_, h, hI⟩ | ⟨r, h, rfl, hne⟩
    · have h : runL step (a.length + 1) 0 = .done (a.length : Int) := h
      rw [h]
      have := list_eq_of_getD hl hI
      simp [Lp.fin, this]
    · have h : runL step (a.length + 1) 0 = .ret false := h
      rw [h]
      simp [Lp.fin, hne]
  · have hc : ((a.length : Int) != (b.length : Int)) = true := by simp; omega
    rw [hc, cond_true]
    symm
    simp only [decide_eq_false_iff_not]
    exact fun e => hl (e ▸ rfl)

/-! ### Marks: numbers written into every leaf, and read again -/

/-- m writes the numbers from k on into the leaves, h reads them again; L: how many leaves -/
def Mk {α : Type} (m : α → Int → Int × α) (h : α → Int → Int) (L : α → Nat) : Prop :=
  ∀ x k, 0 ≤ k → k + (L x : Int) < 9223372036854775807 → (m x k).1 = k + L x ∧ h (m x k).2 k = k + L x

def sumL {α : Type} (L : α → Nat) (xs : List α) : Nat := (xs.map L).foldr (· + ·) 0
theorem sumL_nil {α : Type} (L : α → Nat) : sumL L [] = 0 := rfl
theorem sumL_cons {α : Type} (L : α → Nat) (x : α) (xs : List α) : sumL L (x :: xs) = L x + sumL L xs := rfl
theorem sumL_le {α : Type} (L : α → Nat) (c : Nat) : ∀ (xs : List α), (∀ x ∈ xs, L x ≤ c) → sumL L xs ≤ xs.length * c
  | [], _ => Nat.zero_le _
  | x :: xs, h => by
    rw [sumL_cons, List.length_cons, Nat.add_one_mul]
    have h1 := h x List.mem_cons_self
    have h2 := sumL_le L c xs fun y hy => h y (List.mem_cons_of_mem _ hy)
    omega
theorem sumL_take {α : Type} [Inhabited α] (L : α → Nat) (xs : List α) {k : Nat} (hk : k < xs.length) : sumL L xs = sumL L (xs.take k) + L (xs.getD k default) + sumL L (xs.drop (k + 1)) := by
  induction xs generalizing k with
  | nil => simp at hk
  | cons x xs ih =>
    cases k with
    | zero => simp [sumL_cons, sumL_nil]
    | succ k =>
      have := ih (k := k) (by simpa using hk)
      simp only [List.take_succ_cons, sumL_cons, getD_cons_succ', List.drop_succ_cons]
      omega
theorem sumL_take_le {α : Type} [Inhabited α] (L : α → Nat) (xs : List α) (k : Nat) : sumL L (xs.take k) ≤ sumL L xs := by
  induction xs generalizing k with
  | nil => simp
  | cons x xs ih =>
    cases k with
    | zero => simp [sumL_nil]
    | succ k => simp only [List.take_succ_cons, sumL_cons]; have := ih k; omega
theorem sumL_take_next {α : Type} [Inhabited α] (L : α → Nat) (xs : List α) {k : Nat} (hk : k < xs.length) : sumL L (xs.take (k + 1)) = sumL L (xs.take k) + L (xs.getD k default) := by
  induction xs generalizing k with
  | nil => simp at hk
  | cons x xs ih =>
    cases k with
    | zero => simp [sumL_cons, sumL_nil]
    | succ k =>
      have := ih (k := k) (by simpa using hk)
      simp only [List.take_succ_cons, sumL_cons, getD_cons_succ']
      omega

theorem mark_loop {α : Type} [Inhabited α] (m : α → Int → Int × α) (h : α → Int → Int) (L : α → Nat) (hm : Mk m h L) (F : List α → Int → Int × List α) (H : List α → Int → Int) (st : List α → Int → Int × Int × List α → Lp (Int × Int × List α) (Int × List α)) (sh : List α → Int → Int × Int → Lp (Int × Int) Int)
    (hF : ∀ a k, F a k = (runL (st a k) ((Int.toNat ((a.length : Int) - 0)) + 1) (k, 0, a)).fin (fun r => r) (fun s => (s.1, s.2.2)))
    (hst : ∀ a k0 k i xs, st a k0 (k, i, xs) = bif decide (i < (xs.length : Int)) then .next ((m (xs.getD (Int.toNat i) default) k).1, i + 1, xs.set (Int.toNat i) (m (xs.getD (Int.toNat i) default) k).2) else .done (k, i, xs))
    (hH : ∀ a k, H a k = (runL (sh a k) ((Int.toNat ((a.length : Int) - 0)) + 1) (k, 0)).fin (fun r => r) (fun s => s.1))
    (hsh : ∀ a k0 k i, i < (a.length : Int) → 0 ≤ i → 0 ≤ h (a.getD (Int.toNat i) default) k → sh a k0 (k, i) = .next (h (a.getD (Int.toNat i) default) k, i + 1))
    (hsd : ∀ a k0 k, sh a k0 (k, (a.length : Int)) = .done (k, (a.length : Int))) : Mk F H (sumL L) := by
  intro a k hk0 hk
  have hh := runL_rule (step := st a k) (fun (i : Nat) (s : Int × List α) => (s.1, (i : Int), s.2)) a.length
    (fun i s => s.2.length = a.length ∧ s.1 = k + sumL L (a.take i) ∧ (∀ j, i ≤ j → s.2.getD j default = a.getD j default) ∧ ∀ j, j < i → s.2.getD j default = (m (a.getD j default) (k + sumL L (a.take j))).2) (fun _ => False)
    (fun i s hi ⟨h1, h2, h3, h4⟩ => by
      obtain ⟨k1, xs⟩ := s
      simp only at h1 h2 h3 h4
      refine .inl ⟨((m (xs.getD i default) k1).1, xs.set i (m (xs.getD i default) k1).2), ?_, by simp [h1], ?_, fun j hj => ?_, fun j hj => ?_⟩
      · rw [hst, h1, ltD hi, Int.toNat_natCast]; rfl
      · simp only
        rw [h3 i (Nat.le_refl _), h2, sumL_take_next L a hi]
        have hs := sumL_take L a hi
        rw [(hm (a.getD i default) (k + sumL L (a.take i)) (by omega) (by omega)).1]
        omega
      · simp only
        rw [List.getD_eq_getElem?_getD, List.getElem?_set_ne (by omega), ← List.getD_eq_getElem?_getD]
        exact h3 j (by omega)
      · simp only
        rcases Nat.lt_succ_iff_lt_or_eq.1 hj with hj | rfl
        · rw [List.getD_eq_getElem?_getD, List.getElem?_set_ne (by omega), ← List.getD_eq_getElem?_getD]
          exact h4 j hj
        · rw [List.getD_eq_getElem?_getD, List.getElem?_set_self (by omega), h3 j (Nat.le_refl _), h2]; rfl)
    (fun s ⟨h1, _⟩ => by rw [hst, h1, geD]; rfl) a.length 0 (k, a) (by omega) ⟨rfl, by simp [sumL_nil], fun _ _ => rfl, fun j hj => by omega⟩ (a.length + 1) (Nat.lt_succ_self _)
  rcases hh with ⟨⟨k1, xs⟩, hh, h1, h2, h3, h4⟩ | ⟨_, _, hh⟩
  case inr => exact hh.elim
  simp only at h1 h2 h3 h4
  have hh : runL (st a k) (a.length + 1) (k, 0, a) = .done (k1, (a.length : Int), xs) := hh
  have eF : F a k = (k1, xs) := by rw [hF, n0, hh]; rfl
  rw [List.take_of_length_le (Nat.le_refl _)] at h2
  rw [eF]
  refine ⟨h2, ?_⟩
  simp only
  have h5 := runL_rule (step := sh xs k) (fun (i : Nat) (s : Int) => (s, (i : Int))) xs.length (fun i s => s = k + sumL L (a.take i)) (fun _ => False)
    (fun i s hi h2 => by
      have hi' : i < a.length := by omega
      have hs := sumL_take L a hi'
      have hr := (hm (a.getD i default) (k + sumL L (a.take i)) (by omega) (by omega)).2
      rw [← h4 i hi', ← h2] at hr
      refine .inl ⟨h (xs.getD i default) s, ?_, ?_⟩
      · have := hsh xs k s (i : Int) (by omega) (by omega) (by rw [Int.toNat_natCast, hr]; omega)
        rw [Int.toNat_natCast] at this
        exact this
      · rw [hr, sumL_take_next L a hi']; omega)
    (fun s _ => hsd xs k s) xs.length 0 k (by omega) (by simp [sumL_nil]) (xs.length + 1) (Nat.lt_succ_self _)
  rcases h5 with ⟨k2, h5, h6⟩ | ⟨_, _, h5⟩
  case inr => exact h5.elim
  have h5 : runL (sh xs k) (xs.length + 1) (k, 0) = .done (k2, (xs.length : Int)) := h5
  rw [hH, n0, h5]
  show k2 = _
  rw [h6, List.take_of_length_le (by omega)]

/-! ### Sizes -/

theorem sz_loop {α : Type} [Inhabited α] (sz : α → Int → Int) (P : α → Prop) (h : ∀ x l, 0 ≤ l → l ≤ 1048576 → 0 ≤ sz x l → P x ∧ sz x l ≤ l) (a : List α) (step : Int × Int → Lp (Int × Int) Int) (l0 : Int) (h0 : 0 ≤ l0) (h1 : l0 ≤ 1048576)
    (hs : ∀ l i, step (l, i) = bif (decide (i < (a.length : Int))) then (bif (decide (sz (a.getD (Int.toNat i) default) l < 0)) then (.ret (-1)) else (.next (sz (a.getD (Int.toNat i) default) l, i + 1))) else (.done (l, i)))
    (hr : 0 ≤ (runL step ((Int.toNat ((a.length : Int) - 0)) + 1) (l0, 0)).fin (fun r => r) (fun s => s.1)) :
    (∀ k, k < a.length → P (a.getD k default)) ∧ (runL step ((Int.toNat ((a.length : Int) - 0)) + 1) (l0, 0)).fin (fun r => r) (fun s => s.1) ≤ l0 := by
  rw [n0] at hr ⊢
  have hh := runL_rule (step := step) (fun (i : Nat) (l : Int) => (l, (i : Int))) a.length (fun i l => 0 ≤ l ∧ l ≤ l0 ∧ ∀ k, k < i → P (a.getD k default)) (fun r => r = -1)
    (fun i l hi ⟨g1, g2, g3⟩ => by
      by_cases hx : sz (a.getD i default) l < 0
      · refine .inr ⟨-1, ?_, rfl⟩
        rw [hs, ltD hi, Int.toNat_natCast, decide_eq_true hx]; rfl
      · refine .inl ⟨sz (a.getD i default) l, ?_, by omega, ?_, fun k hk => ?_⟩
        · rw [hs, ltD hi, Int.toNat_natCast, decide_eq_false hx]; rfl
        · have := (h (a.getD i default) l g1 (by omega) (by omega)).2; omega
        · rcases Nat.lt_succ_iff_lt_or_eq.1 hk with hk | rfl
          · exact g3 k hk
          · exact (h _ l g1 (by omega) (by omega)).1)
    (fun l _ => by rw [hs, geD]; rfl) a.length 0 l0 (by omega) ⟨h0, Int.le_refl _, fun k hk => by omega⟩ (a.length + 1) (Nat.lt_succ_self _)
  rcases hh with ⟨l, hh, g1, g2, g3⟩ | ⟨r, hh, rfl⟩
  · have hh : runL step (a.length + 1) (l0, 0) = .done (l, (a.length : Int)) := hh
    rw [hh]
    exact ⟨g3, g2⟩
  · have hh : runL step (a.length + 1) (l0, 0) = .ret (-1) := hh
    rw [hh] at hr
    exact absurd hr (by decide)

theorem wrap_of {n : Int} (h1 : -9223372036854775808 ≤ n) (h2 : n ≤ 9223372036854775807) : IntKind.i64.wrap n = n := wrap_in h1 h2
theorem neg_lt {k : Int} (h : 0 ≤ k) : decide (k < 0) = false := by simp; omega
theorem hs_step {c : Bool} {v : Int} (h : 0 ≤ bif c then -1 else v) : c = false ∧ 0 ≤ v := by
  cases c
  · exact ⟨rfl, h⟩
  · have h : (0 : Int) ≤ -1 := h
    omega
theorem neI (a b : Int) : (a != b) = !decide (a = b) := by
  by_cases h : a = b <;> simp [h]
theorem neB (a b : Bool) : (!(a == b)) = !decide (a = b) := by
  cases a <;> cases b <;> rfl
theorem eqstep (p r : Bool) : (bif (!p) then false else r) = (p && r) := by cases p <;> rfl
theorem bandd (p q : Bool) : (bif p then q else false) = (p && q) := by cases p <;> rfl
theorem bord (p q : Bool) : (bif p then true else q) = (p || q) := by cases p <;> rfl
theorem geleD (a b : Int) : decide (a ≥ b) = decide (b ≤ a) := rfl
theorem gtltD (a b : Int) : decide (a > b) = decide (b < a) := rfl
theorem byteToList (a : ByteArray) : a.toList = a.data.toList := ByteArray.toList_eq a
theorem byte_inj {a b : ByteArray} (h : a.toList = b.toList) : a = b := by
  rw [byteToList, byteToList] at h
  cases a; cases b
  simp only [ByteArray.mk.injEq]
  exact Array.ext' h
theorem neS (a b : ByteArray) : (!(a.toList == b.toList)) = !decide (a = b) := by
  by_cases h : a = b
  · simp [h]
  · have : ¬ a.toList = b.toList := fun e => h (byte_inj e)
    simp [h, this]
end Go.Proofs.YtbhjkcicpobmhaaDoor
