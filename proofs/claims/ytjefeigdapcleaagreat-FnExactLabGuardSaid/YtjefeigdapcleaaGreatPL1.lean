/- Plain laws of laying: paths, free labels, a row put in order. -/
import Derived.Test.YtjefeigdapcleaaGreatVL1
import Derived.Test.YtjefeigdapcleaaGreatMU
namespace Go.Proofs.YtjefeigdapcleaaGreat
open Go.RowKit
set_option maxRecDepth 100000
set_option linter.unusedVariables false
set_option linter.unusedSimpArgs false
theorem getD_mapL {α β : Type} [Inhabited α] [Inhabited β] (f : α → β) (l : List α) {k : Nat} (h : k < l.length) : (l.map f).getD k default = f (l.getD k default) := by
  rw [getD_lt _ (by simpa using h), getD_lt _ h, List.getElem_map]
/-! ### A loop from 1 on -/
theorem search1 {ρ τ : Type} (p : Nat → Bool) (r : Nat → ρ) (n : Nat) (step : Int → Lp Int ρ) (hs : ∀ k : Nat, k < n → step ((k : Int) + 1) = bif p k then .ret (r k) else .next ((k : Int) + 1 + 1)) (he : step ((n : Int) + 1) = .done ((n : Int) + 1)) (f : ρ → τ) (g : Int → τ) :
    (runL step (n + 1) 1).fin f g = match first p n with | some k => f (r k) | none => g ((n : Int) + 1) := by
  have h := runL_rule (step := step) (fun (k : Nat) (_ : Unit) => (k : Int) + 1) n (fun k _ => ∀ j, j < k → p j = false) (fun x => ∃ k, first p n = some k ∧ x = r k)
    (fun k _ hk hI => by
      cases hp : p k with
      | false =>
        refine .inl ⟨(), by rw [hs k hk, hp]; rfl, fun j hj => ?_⟩
        rcases Nat.lt_succ_iff_lt_or_eq.1 hj with h | rfl
        · exact hI j h
        · exact hp
      | true => exact .inr ⟨r k, by rw [hs k hk, hp]; rfl, k, first_some.2 ⟨hk, hp, hI⟩, rfl⟩)
    (fun _ _ => he) n 0 () (by omega) (fun j hj => by omega) (n + 1) (Nat.lt_succ_self _)
  rcases h with ⟨_, h, hI⟩ | ⟨x, h, k, hk, rfl⟩
  · have h : runL step (n + 1) 1 = .done ((n : Int) + 1) := h
    rw [h, first_none.2 hI]; rfl
  · have h : runL step (n + 1) 1 = .ret (r k) := h
    rw [h, hk]; rfl
/-- the first number of which p does not hold, or n -/
def stopAt (p : Nat → Bool) (n : Nat) : Nat := (first (fun k => !(p k)) n).getD n
theorem stopAt_le (p : Nat → Bool) (n : Nat) : stopAt p n ≤ n := by
  unfold stopAt
  cases h : first (fun k => !(p k)) n with
  | none => exact Nat.le_refl _
  | some k => exact Nat.le_of_lt (first_some.1 h).1
theorem stopAt_lt {p : Nat → Bool} {n k : Nat} (h : k < stopAt p n) : p k = true := by
  unfold stopAt at h
  cases e : first (fun k => !(p k)) n with
  | none => rw [e] at h; have := first_none.1 e k h; simpa using this
  | some j => rw [e] at h; have := (first_some.1 e).2.2 k h; simpa using this
theorem stopAt_at {p : Nat → Bool} {n : Nat} (h : stopAt p n < n) : p (stopAt p n) = false := by
  unfold stopAt at h ⊢
  cases e : first (fun k => !(p k)) n with
  | none => rw [e] at h; exact absurd h (Nat.lt_irrefl _)
  | some j => have := (first_some.1 e).2.1; simpa using this
/-- a loop that goes on as long as p holds -/
theorem whileL {ρ : Type} (p : Nat → Bool) (n : Nat) (step : Int → Lp Int ρ) (hs : ∀ k : Nat, k ≤ n → step (k : Int) = bif (decide (k < n) && p k) then .next ((k : Int) + 1) else .done (k : Int)) :
    runL step (n + 1) 0 = .done (stopAt p n : Int) := by
  have key : ∀ m k, k + m = stopAt p n → ∀ M, m < M → runL step M (k : Int) = .done (stopAt p n : Int) := by
    intro m
    induction m with
    | zero =>
      intro k hk M hM
      obtain ⟨M, rfl⟩ : ∃ M', M = M' + 1 := ⟨M - 1, by omega⟩
      have hle := stopAt_le p n
      have hk' : k = stopAt p n := by omega
      have : (decide (k < n) && p k) = false := by
        by_cases hlt : k < n
        · rw [hk'] at hlt ⊢; rw [stopAt_at hlt, Bool.and_false]
        · rw [decide_eq_false hlt]; rfl
      simp only [runL]
      rw [hs k (by omega), this, hk']; rfl
    | succ m ih =>
      intro k hk M hM
      obtain ⟨M, rfl⟩ : ∃ M', M = M' + 1 := ⟨M - 1, by omega⟩
      have hle := stopAt_le p n
      have h1 : p k = true := stopAt_lt (n := n) (by omega)
      have h2 : decide (k < n) = true := decide_eq_true (by omega)
      simp only [runL, hs k (by omega), h1, h2, Bool.and_self, cond_true]
      exact ih (k + 1) (by omega) M (by omega)
  have hle := stopAt_le p n
  exact key (stopAt p n) 0 (by omega) (n + 1) (by omega)

/-! ### One more, put in order -/
def putK {α : Type} [Inhabited α] (key : α → Int) (xs : List α) (r : α) : List α :=
  xs.take (stopAt (fun k => decide (key (xs.getD k default) < key r)) xs.length) ++ [r] ++ xs.drop (stopAt (fun k => decide (key (xs.getD k default) < key r)) xs.length)
theorem putK_perm {α : Type} [Inhabited α] (key : α → Int) (xs : List α) (r : α) : (putK key xs r).Perm (xs ++ [r]) := by
  unfold putK
  generalize stopAt _ _ = k
  have h1 : (xs.take k ++ [r] ++ xs.drop k).Perm (xs.take k ++ (xs.drop k ++ [r])) := by
    rw [List.append_assoc]
    exact List.Perm.append_left _ (List.perm_append_comm)
  refine h1.trans ?_
  rw [← List.append_assoc, List.take_append_drop]
theorem putK_len {α : Type} [Inhabited α] (key : α → Int) (xs : List α) (r : α) : (putK key xs r).length = xs.length + 1 := by
  rw [(putK_perm key xs r).length_eq]; simp
theorem putK_mem {α : Type} [Inhabited α] {key : α → Int} {xs : List α} {r x : α} : x ∈ putK key xs r ↔ x ∈ xs ∨ x = r := by
  rw [(putK_perm key xs r).mem_iff]; simp
theorem putK_inc {α : Type} [Inhabited α] (key : α → Int) (xs : List α) (r : α) (hk : xs.Pairwise (fun a b => key a < key b)) (hn : ∀ a ∈ xs, key a ≠ key r) : (putK key xs r).Pairwise (fun a b => key a < key b) := by
  unfold putK
  generalize hg : stopAt (fun k => decide (key (xs.getD k default) < key r)) xs.length = k
  have hkl : k ≤ xs.length := by rw [← hg]; exact stopAt_le _ _
  have hA : ∀ a ∈ xs.take k, key a < key r := by
    intro a ha
    obtain ⟨i, hi, rfl⟩ := List.mem_iff_getElem.1 ha
    have hi' : i < k := by simp at hi; omega
    have := stopAt_lt (p := fun k => decide (key (xs.getD k default) < key r)) (n := xs.length) (k := i) (by rw [hg]; exact hi')
    have := of_decide_eq_true this
    rw [getD_lt xs (by omega)] at this
    rw [List.getElem_take]; exact this
  have hB : ∀ a ∈ xs.drop k, key r < key a := by
    by_cases hlt : k < xs.length
    · have h0 := stopAt_at (p := fun k => decide (key (xs.getD k default) < key r)) (n := xs.length) (by rw [hg]; exact hlt)
      rw [hg] at h0
      have h0 := of_decide_eq_false h0
      rw [getD_lt xs hlt] at h0
      have hne := hn _ (List.getElem_mem hlt)
      have hpd : (xs.drop k).Pairwise (fun a b => key a < key b) := hk.drop
      rw [List.drop_eq_getElem_cons hlt] at hpd ⊢
      intro a ha
      rcases List.mem_cons.1 ha with rfl | ha
      · omega
      · have := (List.pairwise_cons.1 hpd).1 a ha; omega
    · rw [List.drop_of_length_le (by omega)]; intro a ha; cases ha
  rw [List.append_assoc, List.pairwise_append]
  refine ⟨hk.take, ?_, ?_⟩
  · rw [List.singleton_append, List.pairwise_cons]
    exact ⟨hB, hk.drop⟩
  · intro a ha b hb
    rw [List.singleton_append] at hb
    have h1 := hA a ha
    rcases List.mem_cons.1 hb with rfl | hb
    · exact h1
    · have := hB b hb; omega
theorem pairK_uniq {α : Type} {key : α → Int} {xs : List α} (h : xs.Pairwise (fun a b => key a < key b)) {a b : α} (ha : a ∈ xs) (hb : b ∈ xs) (e : key a = key b) : a = b := by
  induction xs with
  | nil => cases ha
  | cons x t ih =>
    rw [List.pairwise_cons] at h
    rcases List.mem_cons.1 ha with ha | ha <;> rcases List.mem_cons.1 hb with hb | hb
    · rw [ha, hb]
    · have := h.1 b hb; rw [← ha] at this; omega
    · have := h.1 a ha; rw [← hb] at this; omega
    · exact ih h.2 ha hb
/-- sorting what one more was put behind -/
theorem sort_put {α : Type} [Inhabited α] (key : α → Int) (cf : α → α → Int) (xs : List α) (r : α) (hk : xs.Pairwise (fun a b => key a < key b)) (hn : ∀ a ∈ xs, key a ≠ key r)
    (hc : ∀ a ∈ xs ++ [r], ∀ b ∈ xs ++ [r], (cf a b < 0 ↔ key a < key b)) : SortPre cf (xs ++ [r]) ∧ sortL cf (xs ++ [r]) = putK key xs r := by
  have hp := putK_perm key xs r
  have hi := putK_inc key xs r hk hn
  have hm : ∀ a, a ∈ xs ++ [r] → a ∈ putK key xs r := fun a ha => hp.symm.subset ha
  have h : SortPre cf (xs ++ [r]) := by
    constructor
    · intro x hx; rw [hc x hx x hx]; omega
    · intro x hx y hy z hz h1 h2
      rw [hc x hx y hy] at h1; rw [hc y hy z hz] at h2; rw [hc x hx z hz]; omega
    · intro x hx y hy z hz h1 h2
      rw [hc x hx y hy] at h1; rw [hc y hy z hz] at h2; rw [hc x hx z hz]; omega
    · intro x hx y hy h1 h2
      rw [hc x hx y hy] at h1; rw [hc y hy x hx] at h2
      exact pairK_uniq hi (hm x hx) (hm y hy) (by omega)
  refine ⟨h, (sortL_unique h hp ?_).symm⟩
  refine hi.imp_of_mem fun {a b} ha hb hab => ?_
  rw [hc b (hp.subset hb) a (hp.subset ha)]; omega

/-! ### Paths -/
def badP (n : LabNet) (path : List Int) (i : Nat) : Bool :=
  (!decide (0 ≤ path.getD i default ∧ path.getD i default ≤ (n.Boxes.length : Int) - 1)) || ((decide (0 < i) && decide (linkOf n (path.getD (i - 1) default) (path.getD i default) < 0)) || (first (fun k => decide (path.getD k default = path.getD i default)) i).isSome)
def pathB (n : LabNet) (path : List Int) : Bool := decide (2 ≤ (path.length : Int) ∧ (path.length : Int) ≤ (n.Boxes.length : Int)) && (first (badP n path) path.length).isNone
structure PathOk (n : LabNet) (path : List Int) : Prop where
  two : 2 ≤ path.length
  most : path.length ≤ n.Boxes.length
  rng : ∀ i, i < path.length → 0 ≤ path.getD i default ∧ path.getD i default < (n.Boxes.length : Int)
  lnk : ∀ i, i + 1 < path.length → 0 ≤ linkOf n (path.getD i default) (path.getD (i + 1) default)
  inj : ∀ i j, i < path.length → j < path.length → path.getD i default = path.getD j default → i = j
theorem pathB_ok {n : LabNet} {path : List Int} : pathB n path = true ↔ PathOk n path := by
  unfold pathB
  simp only [Bool.and_eq_true, decide_eq_true_eq, allB_iff, badP, Bool.or_eq_false_iff, Bool.not_eq_false', Bool.and_eq_false_iff, decide_eq_false_iff_not, Option.isSome_eq_false_iff, Option.isNone_iff_eq_none, first_none]
  constructor
  · rintro ⟨⟨h1, h2⟩, h3⟩
    refine ⟨by omega, by omega, fun i hi => ?_, fun i hi => ?_, ?_⟩
    · have := (h3 i hi).1; omega
    · have := (h3 (i + 1) hi).2.1; simp only [Nat.add_sub_cancel] at this; omega
    · have key : ∀ i j, j < path.length → i < j → path.getD i default ≠ path.getD j default := fun i j hj hij => (h3 j hj).2.2 i hij
      intro i j hi hj e
      rcases Nat.lt_trichotomy i j with h | h | h
      · exact absurd e (key i j hj h)
      · exact h
      · exact absurd e.symm (key j i hi h)
  · intro h
    have := h.two; have := h.most
    refine ⟨by omega, fun i hi => ⟨?_, ?_, fun k hk e => ?_⟩⟩
    · have := h.rng i hi; omega
    · cases i with
      | zero => left; omega
      | succ i => right; have := h.lnk i hi; simp only [Nat.add_sub_cancel]; omega
    · have := h.inj k i (by omega) hi e; omega
theorem pathB_T (n : LabNet) (path : List Int) (h : pathB n path = true) : PathOk n path := pathB_ok.1 h
theorem pathB_len (n : LabNet) (path : List Int) (h : pathB n path = true) : path.length ≤ n.Boxes.length := (pathB_ok.1 h).most
theorem as45 (n : LabNet) (path : List Int) : F45 n path = pathB n path := by
  unfold F45 pathB
  rw [search (badP n path) (fun _ => false) path.length _ (fun i hi => by
    simp only [F45_s0, ltD hi, cond_true, nn, bord, bandd, toNat_pred, pos_cast]
    rw [search (fun k => decide (path.getD k default = path.getD i default)) (fun _ => false) i _ (fun k hk => by simp only [F45_s1, ltD hk, cond_true, nn, beqD]) (by simp [F45_s1])]
    unfold badP
    rw [← Bool.or_assoc]
    cases (!decide (0 ≤ path.getD i default ∧ path.getD i default ≤ (n.Boxes.length : Int) - 1) || (decide (0 < i) && decide (linkOf n (path.getD (i - 1) default) (path.getD i default) < 0)))
    · cases first (fun k => decide (path.getD k default = path.getD i default)) i <;> rfl
    · rfl) (by simp [F45_s0])]
  cases decide (2 ≤ (path.length : Int) ∧ (path.length : Int) ≤ (n.Boxes.length : Int))
  · rfl
  · cases first (badP n path) path.length <;> rfl
theorem mem_take_idx (path : List Int) {i : Nat} (hi : i < path.length) : decide (path.getD i default ∈ path.take i) = (first (fun k => decide (path.getD k default = path.getD i default)) i).isSome := by
  cases e : first (fun k => decide (path.getD k default = path.getD i default)) i with
  | none =>
    have h := first_none.1 e
    refine decide_eq_false fun hm => ?_
    obtain ⟨k, hk, ek⟩ := List.mem_iff_getElem.1 hm
    have hk' : k < i := by simp at hk; omega
    have := h k hk'
    rw [List.getElem_take] at ek
    rw [getD_lt path (by omega), ek] at this
    simp at this
  | some k =>
    obtain ⟨h1, h2, _⟩ := first_some.1 e
    refine decide_eq_true ?_
    rw [← of_decide_eq_true h2, getD_lt path (by omega)]
    have : (path.take i)[k]'(by simp; omega) = path[k] := List.getElem_take
    rw [← this]; exact List.getElem_mem _
theorem as85 (n : LabNet) (path : List Int) (hf : FrameOk n) : F85 n path = pathB n path := by
  unfold F85
  rw [Bool.eq_iff_iff, pathB_ok]
  let q : Nat → Bool := fun i => (first (fun k => decide (path.getD k default = path.getD i default)) i).isSome || (decide (0 < i) && decide (linkOf n (path.getD (i - 1) default) (path.getD i default) < 0))
  rw [search q (fun _ => false) path.length _ (fun i hi => by
    simp only [F85_s0, ltD hi, cond_true, nn, bord, bandd, toNat_pred, pos_cast, mem_take_idx path hi]; rfl) (by simp [F85_s0])]
  have hq : ((!decide (2 ≤ (path.length : Int) ∧ (path.length : Int) ≤ (n.Boxes.length : Int))) = false ∧ first q path.length = none) ↔ PathOk n path := by
    rw [first_none, Bool.not_eq_false', decide_eq_true_eq]
    simp only [q, Bool.or_eq_false_iff, Bool.and_eq_false_iff, decide_eq_false_iff_not, Option.isSome_eq_false_iff, Option.isNone_iff_eq_none, first_none]
    constructor
    · rintro ⟨⟨h1, h2⟩, h3⟩
      have hl : ∀ i, i + 1 < path.length → 0 ≤ linkOf n (path.getD i default) (path.getD (i + 1) default) := fun i hi => by
        have := (h3 (i + 1) hi).2; simp only [Nat.add_sub_cancel] at this; omega
      refine ⟨by omega, by omega, fun i hi => ?_, hl, ?_⟩
      · cases i with
        | zero => have := linkOf_in hf (hl 0 (by omega)); omega
        | succ i => have := linkOf_in hf (hl i hi); omega
      · have key : ∀ i j, j < path.length → i < j → path.getD i default ≠ path.getD j default := fun i j hj hij => (h3 j hj).1 i hij
        intro i j hi hj e
        rcases Nat.lt_trichotomy i j with h | h | h
        · exact absurd e (key i j hj h)
        · exact h
        · exact absurd e.symm (key j i hi h)
    · intro h
      have := h.two; have := h.most
      refine ⟨by omega, fun i hi => ⟨fun k hk e => ?_, ?_⟩⟩
      · have := h.inj k i (by omega) hi e; omega
      · cases i with
        | zero => left; omega
        | succ i => right; have := h.lnk i hi; simp only [Nat.add_sub_cancel]; omega
  rw [← hq]
  cases (!decide (2 ≤ (path.length : Int) ∧ (path.length : Int) ≤ (n.Boxes.length : Int))) <;> cases first q path.length <;> simp

/-! ### Free labels -/
/-- the least label that has no row, or 0 -/
def freeOf (b : LabBox) : Int := match first (fun k => (rowIx b ((k : Int) + 1)).isNone) 60 with
  | some k => (k : Int) + 1
  | none => 0
theorem freeOf_ge (b : LabBox) : 0 ≤ freeOf b := by unfold freeOf; split <;> omega
theorem freeOf_ok {b : LabBox} (h : freeOf b ≠ 0) : isLabel (freeOf b) ∧ rowIx b (freeOf b) = none := by
  unfold freeOf at h ⊢
  cases e : first (fun k => (rowIx b ((k : Int) + 1)).isNone) 60 with
  | none => rw [e] at h; exact absurd rfl h
  | some k =>
    obtain ⟨h1, h2, _⟩ := first_some.1 e
    simp only at h1 h2 ⊢
    exact ⟨⟨by omega, by omega⟩, Option.isNone_iff_eq_none.1 h2⟩
theorem as93 (b : LabBox) : F93 b = freeOf b := by
  unfold F93 freeOf
  rw [show (Int.toNat (60 - 1 + 1)) + 1 = 60 + 1 from rfl]
  rw [search1 (fun k => (rowIx b ((k : Int) + 1)).isNone) (fun k => (k : Int) + 1) 60 _ (fun k hk => by
    simp only [F93_s0]
    rw [show decide ((k : Int) + 1 ≤ 60) = true from decide_eq_true (by omega), cond_true]
    cases rowIx b ((k : Int) + 1) with
    | none => rfl
    | some j => rw [show decide (oix (some j) < 0) = false from decide_eq_false (by simp only [oix]; omega)]; rfl) (by simp [F93_s0])]
theorem as86 (b : LabBox) : F86 b = freeOf b := by
  unfold F86 freeOf
  rw [show (Int.toNat (60 - 1 + 1)) + 1 = 60 + 1 from rfl]
  rw [search1 (fun k => (rowIx b ((k : Int) + 1)).isNone) (fun k => (k : Int) + 1) 60 _ (fun k hk => by
    simp only [F86_s0]
    rw [show decide ((k : Int) + 1 ≤ 60) = true from decide_eq_true (by omega), cond_true]
    unfold rowP
    cases rowIx b ((k : Int) + 1) <;> rfl) (by simp [F86_s0])]
theorem free_new {b : LabBox} (h : freeOf b ≠ 0) : ∀ r ∈ b.Rows, r.In ≠ freeOf b := by
  intro r hr e
  obtain ⟨k, hk, rfl⟩ := mem_getD hr
  have := first_none.1 (freeOf_ok h).2 k hk
  rw [e] at this; simp at this
end Go.Proofs.YtjefeigdapcleaaGreat
