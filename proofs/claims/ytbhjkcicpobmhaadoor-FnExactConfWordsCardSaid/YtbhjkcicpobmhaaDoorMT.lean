/-
  Plain tools: loops over a range: searches, and loops that are alike.
-/
import Derived.Test.YtbhjkcicpobmhaaDoorMS
namespace Go.Proofs.YtbhjkcicpobmhaaDoor
open Go.RowKit

/-- the first number below n of which p holds -/
def first (p : Nat → Bool) (n : Nat) : Option Nat := (List.range n).find? p
theorem first_some {p : Nat → Bool} {n k : Nat} : first p n = some k ↔ k < n ∧ p k = true ∧ ∀ j, j < k → p j = false := by
  unfold first
  rw [List.find?_range_eq_some]
  constructor
  · rintro ⟨h1, h2, h3⟩
    exact ⟨by simpa using h2, h1, fun j hj => by simpa using h3 j hj⟩
  · rintro ⟨h1, h2, h3⟩
    exact ⟨h2, by simpa using h1, fun j hj => by simpa using h3 j hj⟩
theorem first_none {p : Nat → Bool} {n : Nat} : first p n = none ↔ ∀ k, k < n → p k = false := by
  unfold first
  rw [List.find?_range_eq_none]
  simp
theorem first_congr {p q : Nat → Bool} {n : Nat} (h : ∀ k, k < n → p k = q k) : first p n = first q n := by
  cases e : first q n with
  | none =>
    rw [first_none] at *
    exact fun k hk => (h k hk).trans (e k hk)
  | some k =>
    rw [first_some] at *
    exact ⟨e.1, (h k e.1).trans e.2.1, fun j hj => (h j (by omega)).trans (e.2.2 j hj)⟩

/-- a loop that looks for the first number of which p holds -/
theorem search {ρ τ : Type} (p : Nat → Bool) (r : Nat → ρ) (n : Nat) (step : Int → Lp Int ρ) (hs : ∀ k : Nat, k < n → step (k : Int) = bif p k then .ret (r k) else .next ((k : Int) + 1)) (he : step (n : Int) = .done (n : Int)) (f : ρ → τ) (g : Int → τ) :
    (runL step ((Int.toNat ((n : Int) - 0)) + 1) 0).fin f g = match first p n with | some k => f (r k) | none => g n := by
  have h := runL_rule (step := step) (fun (k : Nat) (_ : Unit) => (k : Int)) n (fun k _ => ∀ j, j < k → p j = false) (fun x => ∃ k, first p n = some k ∧ x = r k)
    (fun k _ hk hI => by
      cases hp : p k with
      | false =>
        refine .inl ⟨(), by rw [hs k hk, hp]; rfl, fun j hj => ?_⟩
        rcases Nat.lt_succ_iff_lt_or_eq.1 hj with h | rfl
        · exact hI j h
        · exact hp
      | true => exact .inr ⟨r k, by rw [hs k hk, hp]; rfl, k, first_some.2 ⟨hk, hp, hI⟩, rfl⟩)
    (fun _ _ => he) n 0 () (by omega) (fun j hj => by omega) (n + 1) (Nat.lt_succ_self _)
  rw [n0]
  rcases h with ⟨_, h, hI⟩ | ⟨x, h, k, hk, rfl⟩
  · have h : runL step (n + 1) 0 = .done (n : Int) := h
    rw [h, first_none.2 hI]; rfl
  · have h : runL step (n + 1) 0 = .ret (r k) := h
    rw [h, hk]; rfl

/-- a loop that is left with 'false' at the first number of which p holds -/
theorem allB (p : Nat → Bool) (n : Nat) (step : Int → Lp Int Bool) (hs : ∀ k : Nat, k < n → step (k : Int) = bif p k then .ret false else .next ((k : Int) + 1)) (he : step (n : Int) = .done (n : Int)) (g : Int → Bool) :
    (runL step ((Int.toNat ((n : Int) - 0)) + 1) 0).fin (fun r => r) g = ((first p n).isNone && g n) := by
  rw [search p (fun _ => false) n step hs he]
  cases first p n <;> rfl
theorem allB_iff {p : Nat → Bool} {n : Nat} : (first p n).isNone = true ↔ ∀ k, k < n → p k = false := by
  rw [Option.isNone_iff_eq_none, first_none]

/-- loops that are alike where it counts -/
theorem runL_congr {τ ρ : Type} {step step' : τ → Lp τ ρ} (I : τ → Prop) (h1 : ∀ s, I s → step s = step' s) (h2 : ∀ s s', I s → step s = .next s' → I s') : ∀ (m : Nat) (s : τ), I s → runL step m s = runL step' m s
  | 0, _, _ => rfl
  | m + 1, s, hs => by
    simp only [runL]
    rw [← h1 s hs]
    cases e : step s with
    | next s' => exact runL_congr I h1 h2 m s' (h2 s s' hs e)
    | done s' => rfl
    | ret r => rfl

/-- what a loop over a range comes to, as a recursion over the numbers -/
def forS {σ ρ : Type} (body : Nat → σ → Lp σ ρ) : Nat → Nat → σ → Lp σ ρ
  | 0, _, s => .done s
  | m + 1, k, s => match body k s with
    | .next s' => forS body m (k + 1) s'
    | .done s' => .done s'
    | .ret r => .ret r

/-- a list made element by element -/
theorem app_loop {α β ρ : Type} [Inhabited α] (f : α → β) (a : List α) (init : List β) (step : Int × List β → Lp (Int × List β) ρ)
    (hs : ∀ (k : Nat) xs, k < a.length → step ((k : Int), xs) = .next ((k : Int) + 1, xs ++ [f (a.getD k default)])) (he : ∀ xs, step ((a.length : Int), xs) = .done ((a.length : Int), xs)) :
    runL step ((Int.toNat ((a.length : Int) - 0)) + 1) (0, init) = .done ((a.length : Int), init ++ a.map f) := by
  have h := runL_rule (step := step) (fun (k : Nat) (s : List β) => ((k : Int), s)) a.length (fun k s => s = init ++ (a.take k).map f) (fun _ => False)
    (fun k s hk hI => .inl ⟨s ++ [f (a.getD k default)], hs k s hk, by rw [hI, take_next hk, List.map_append, List.append_assoc]; rfl⟩)
    (fun s _ => he s) a.length 0 init (by omega) (by simp) (a.length + 1) (Nat.lt_succ_self _)
  rw [n0]
  rcases h with ⟨s', h, hI⟩ | ⟨_, _, h⟩
  · rw [List.take_length] at hI
    rw [← hI]; exact h
  · exact h.elim

/-! ### Where something is -/

def oix : Option Nat → Int
  | some k => (k : Int)
  | none => -1
theorem oix_lt {p : Nat → Bool} {n : Nat} : oix (first p n) < (n : Int) := by
  cases h : first p n with
  | none => simp only [oix]; omega
  | some k => have := (first_some.1 h).1; simp only [oix]; omega
theorem oix_ge (o : Option Nat) : -1 ≤ oix o := by cases o <;> simp only [oix] <;> omega
theorem oix_neg {o : Option Nat} : oix o < 0 ↔ o = none := by
  cases o with
  | none => simp [oix]
  | some k => simp [oix]
theorem oix_some {o : Option Nat} (h : ¬ oix o < 0) : o = some (oix o).toNat := by
  cases o with
  | none => exact absurd (by decide) h
  | some k => simp [oix]
/-- the first place at which p holds, or -1 -/
def idxI {α : Type} [Inhabited α] (p : α → Bool) (xs : List α) : Int := oix (first (fun k => p (xs.getD k default)) xs.length)
theorem idx_loop {α : Type} [Inhabited α] (p : α → Bool) (xs : List α) (step : Int → Lp Int Int)
    (hs : ∀ i, step i = bif decide (i < (xs.length : Int)) then (bif p (xs.getD (Int.toNat i) default) then .ret i else .next (i + 1)) else .done i) :
    (runL step ((Int.toNat ((xs.length : Int) - 0)) + 1) 0).fin (fun r => r) (fun _ => -1) = idxI p xs := by
  rw [search (fun k => p (xs.getD k default)) (fun k => (k : Int)) xs.length step (fun k hk => by rw [hs, ltD hk, nn]; rfl) (by rw [hs, geD]; rfl)]
  unfold idxI
  cases first (fun k => p (xs.getD k default)) xs.length <;> rfl
theorem any_idx {α : Type} [Inhabited α] (p : α → Bool) (xs : List α) : decide (idxI p xs ≥ 0) = xs.any p := by
  rw [Bool.eq_iff_iff, decide_eq_true_eq, List.any_eq_true]
  constructor
  · intro h
    have h' : ¬ idxI p xs < 0 := by omega
    have h2 := first_some.1 (oix_some h')
    exact ⟨_, getD_mem xs h2.1, h2.2.1⟩
  · rintro ⟨x, hx, hp⟩
    obtain ⟨k, hk, rfl⟩ := mem_getD hx
    rcases Int.lt_or_le (idxI p xs) 0 with h | h
    · have := first_none.1 (oix_neg.1 h) k hk
      simp only [hp] at this
      cases this
    · exact h
theorem mem_idx {α : Type} [Inhabited α] [DecidableEq α] (v : α) (xs : List α) : xs.any (fun y => decide (v = y)) = decide (v ∈ xs) := by
  rw [Bool.eq_iff_iff, List.any_eq_true, decide_eq_true_eq]
  constructor
  · rintro ⟨x, hx, h⟩
    rw [of_decide_eq_true h]; exact hx
  · exact fun h => ⟨v, h, by simp⟩
theorem idxI_lt {α : Type} [Inhabited α] (p : α → Bool) (xs : List α) : idxI p xs < (xs.length : Int) := oix_lt
theorem idxI_ge {α : Type} [Inhabited α] (p : α → Bool) (xs : List α) : -1 ≤ idxI p xs := oix_ge _
theorem beqD (a b : Int) : (a == b) = decide (a = b) := by
  by_cases h : a = b <;> simp [h]
theorem toNat_pred (k : Nat) : Int.toNat ((k : Int) - 1) = k - 1 := by omega
theorem pos_cast (k : Nat) : decide ((k : Int) > 0) = decide (0 < k) := by simp
theorem ret_or {ρ : Type} (a b : Bool) (r : ρ) (s : Int) : (bif a then (Lp.ret r : Lp Int ρ) else bif b then .ret r else .next s) = bif (a || b) then .ret r else .next s := by cases a <;> rfl

/-! ### slices.DeleteFunc -/

theorem set_take_next {α : Type} (xs : List α) {i : Nat} (a : α) (h : i < xs.length) : (xs.set i a).take (i + 1) = xs.take i ++ [a] := by
  rw [List.take_add_one, List.take_set_of_le (Nat.le_refl _), List.getElem?_set_self h]; rfl
theorem filter_take_next {α : Type} [Inhabited α] (p : α → Bool) (s : List α) {k : Nat} (h : k < s.length) : (s.take (k + 1)).filter p = (s.take k).filter p ++ (if p (s.getD k default) then [s.getD k default] else []) := by
  rw [take_next h, List.filter_append]
  congr 1
  simp only [List.filter_cons, List.filter_nil]
theorem del_loop {α : Type} [Inhabited α] (del : α → Bool) (s : List α) (z : α) (step : Int × Int × List α → Lp (Int × Int × List α) (List α))
    (hs : ∀ i j xs, step (i, j, xs) = bif decide (j < (xs.length : Int)) then (bif (!(del (xs.getD (Int.toNat j) default))) then .next (i + 1, j + 1, xs.set (Int.toNat i) (xs.getD (Int.toNat j) default)) else .next (i, j + 1, xs)) else .done (i, j, xs)) :
    (bif (idxI del s == (-1)) then s else (((runL step ((Int.toNat ((s.length : Int) - (idxI del s + 1))) + 1) (idxI del s, idxI del s + 1, s)).fin Lp.ret (fun x => (Lp.done (x.2.2, x.1) : Lp (List α × Int) (List α)))).fin (fun r => r) (fun x => ((x.1.take (Int.toNat x.2) ++ List.replicate (x.1.drop (Int.toNat x.2)).length z ++ x.1.drop (Int.toNat x.2 + (x.1.drop (Int.toNat x.2)).length)).take (Int.toNat x.2))))) = s.filter (fun x => !(del x)) := by
  unfold idxI
  cases e : first (fun k => del (s.getD k default)) s.length with
  | none =>
    have hn := first_none.1 e
    have e1 : (oix (none : Option Nat) == (-1 : Int)) = true := rfl
    rw [e1, cond_true]
    symm
    refine List.filter_eq_self.2 fun x hx => ?_
    obtain ⟨k, hk, rfl⟩ := mem_getD hx
    simpa using hn k hk
  | some k0 =>
    obtain ⟨h1, h2, h3⟩ := first_some.1 e
    have e1 : (oix (some k0) == (-1 : Int)) = false := by rw [beqD]; exact decide_eq_false (by simp only [oix]; omega)
    rw [e1, cond_false]
    simp only [oix]
    have hpre : (s.take (k0 + 1)).filter (fun x => !(del x)) = s.take k0 := by
      rw [filter_take_next _ _ h1]
      simp only [h2, Bool.not_true, Bool.false_eq_true, if_false, List.append_nil]
      refine List.filter_eq_self.2 fun x hx => ?_
      obtain ⟨k, hk, rfl⟩ := List.mem_iff_getElem.1 hx
      have hk' : k < k0 := by simp at hk; omega
      have := h3 k hk'
      rw [getD_lt s (by omega)] at this
      simpa using this
    have h := runL_rule (step := step) (fun (k : Nat) (x : Nat × List α) => ((x.1 : Int), (k : Int), x.2)) s.length
      (fun k x => x.1 < k ∧ x.2.length = s.length ∧ x.2.take x.1 = (s.take k).filter (fun x => !(del x)) ∧ ∀ m, k ≤ m → x.2.getD m default = s.getD m default) (fun _ => False)
      (fun k x hk ⟨g1, g2, g3, g4⟩ => by
        obtain ⟨i, xs⟩ := x
        simp only at g1 g2 g3 g4
        have hx := g4 k (Nat.le_refl _)
        cases hd : del (s.getD k default) with
        | false =>
          refine .inl ⟨(i + 1, xs.set i (s.getD k default)), ?_, by simp only; omega, by simp [g2], ?_, fun m hm => ?_⟩
          · rw [hs, g2, ltD hk, nn, hx, hd]
            simp only [cond_true, Bool.not_false, nn]
            rfl
          · simp only
            rw [set_take_next xs _ (by omega), g3, filter_take_next _ _ hk, hd]
            rfl
          · simp only
            rw [List.getD_eq_getElem?_getD, List.getElem?_set_ne (by omega), ← List.getD_eq_getElem?_getD]
            exact g4 m (by omega)
        | true =>
          refine .inl ⟨(i, xs), ?_, by simp only; omega, g2, ?_, fun m hm => g4 m (by omega)⟩
          · rw [hs, g2, ltD hk, nn, hx, hd]
            simp only [cond_true, Bool.not_true, cond_false]
            rfl
          · simp only
            rw [g3, filter_take_next _ _ hk, hd]
            simp)
      (fun x ⟨_, g2, _, _⟩ => by rw [hs, g2, geD]; rfl) (s.length - (k0 + 1)) (k0 + 1) (k0, s) (by omega) ⟨Nat.lt_succ_self _, rfl, hpre.symm, fun _ _ => rfl⟩ (s.length - (k0 + 1) + 1) (Nat.lt_succ_self _)
    have ef : Int.toNat ((s.length : Int) - ((k0 : Int) + 1)) = s.length - (k0 + 1) := by omega
    rw [ef]
    rcases h with ⟨⟨i, xs⟩, h, g1, g2, g3, g4⟩ | ⟨_, _, h⟩
    · have h : runL step (s.length - (k0 + 1) + 1) ((k0 : Int), (k0 : Int) + 1, s) = .done ((i : Int), (s.length : Int), xs) := h
      simp only at g1 g2 g3
      rw [h]
      simp only [Lp.fin, nn]
      rw [List.take_length] at g3
      rw [← g3, List.append_assoc, List.take_append_of_le_length (by simp; omega), List.take_take, Nat.min_self]
    · exact h.elim

end Go.Proofs.YtbhjkcicpobmhaaDoor
