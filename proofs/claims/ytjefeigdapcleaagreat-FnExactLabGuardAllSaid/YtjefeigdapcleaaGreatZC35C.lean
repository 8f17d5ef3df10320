/- Texts put together: MT, MU, LY, V0; then what leads to it. -/
import Derived.Shelf.SlSortCmp.NoneTotal
import Derived.Test.YtjefeigdapcleaaGreatRows
import Derived.Test.YtjefeigdapcleaaGreatZC35B
/-
  Plain tools: loops over a range: searches, and loops that are alike.
-/
namespace Go.Proofs.YtjefeigdapcleaaGreat
open Go.RowKit
def first (p : Nat → Bool) (n : Nat) : Option Nat := (List.range n).find? p
theorem first_some {p : Nat → Bool} {n k : Nat} : first p n = some k ↔ k < n ∧ p k = true ∧ ∀ j, j < k → p j = false := by
  unfold first
  rw [List.find?_range_eq_some]
  constructor
  · rintro ⟨h1, h2, h3⟩
    exact ⟨by simpa using h2, h1, fun j hj => by simpa using h3 j hj⟩
  · rintro ⟨h1, h2, h3⟩
    exact ⟨h2, by simpa using h1, fun j hj => by simpa using h3 j hj⟩
theorem first_none {p : Nat → Bool} {n : Nat} : first p n = none ↔ ∀ k, k < n → p k = false := by
  unfold first
  rw [List.find?_range_eq_none]
  simp
theorem first_congr {p q : Nat → Bool} {n : Nat} (h : ∀ k, k < n → p k = q k) : first p n = first q n := by
  cases e : first q n with
  | none =>
    rw [first_none] at *
    exact fun k hk => (h k hk).trans (e k hk)
  | some k =>
    rw [first_some] at *
    exact ⟨e.1, (h k e.1).trans e.2.1, fun j hj => (h j (by omega)).trans (e.2.2 j hj)⟩
theorem search {ρ τ : Type} (p : Nat → Bool) (r : Nat → ρ) (n : Nat) (step : Int → Lp Int ρ) (hs : ∀ k : Nat, k < n → step (k : Int) = bif p k then .ret (r k) else .next ((k : Int) + 1)) (he : step (n : Int) = .done (n : Int)) (f : ρ → τ) (g : Int → τ) :
    (runL step ((Int.toNat ((n : Int) - 0)) + 1) 0).fin f g = match first p n with | some k => f (r k) | none => g n := by
  have h := runL_rule (step := step) (fun (k : Nat) (_ : Unit) => (k : Int)) n (fun k _ => ∀ j, j < k → p j = false) (fun x => ∃ k, first p n = some k ∧ x = r k)
    (fun k _ hk hI => by
      cases hp : p k with
      | false =>
        refine .inl ⟨(), by rw [hs k hk, hp]; rfl, fun j hj => ?_⟩
        rcases Nat.lt_succ_iff_lt_or_eq.1 hj with h | rfl
        · exact hI j h
        · exact hp
      | true => exact .inr ⟨r k, by rw [hs k hk, hp]; rfl, k, first_some.2 ⟨hk, hp, hI⟩, rfl⟩)
    (fun _ _ => he) n 0 () (by omega) (fun j hj => by omega) (n + 1) (Nat.lt_succ_self _)
  rw [n0]
  rcases h with ⟨_, h, hI⟩ | ⟨x, h, k, hk, rfl⟩
  · have h : runL step (n + 1) 0 = .done (n : Int) := h
    rw [h, first_none.2 hI]; rfl
  · have h : runL step (n + 1) 0 = .ret (r k) := h
    rw [h, hk]; rfl
theorem allB (p : Nat → Bool) (n : Nat) (step : Int → Lp Int Bool) (hs : ∀ k : Nat, k < n → step (k : Int) = bif p k then .ret false else .next ((k : Int) + 1)) (he : step (n : Int) = .done (n : Int)) (g : Int → Bool) :
    (runL step ((Int.toNat ((n : Int) - 0)) + 1) 0).fin (fun r => r) g = ((first p n).isNone && g n) := by
  rw [search p (fun _ => false) n step hs he]
  cases first p n <;> rfl
theorem allB_iff {p : Nat → Bool} {n : Nat} : (first p n).isNone = true ↔ ∀ k, k < n → p k = false := by
  rw [Option.isNone_iff_eq_none, first_none]
theorem runL_congr {τ ρ : Type} {step step' : τ → Lp τ ρ} (I : τ → Prop) (h1 : ∀ s, I s → step s = step' s) (h2 : ∀ s s', I s → step s = .next s' → I s') : ∀ (m : Nat) (s : τ), I s → runL step m s = runL step' m s
  | 0, _, _ => rfl
  | m + 1, s, hs => by
    simp only [runL]
    rw [← h1 s hs]
    cases e : step s with
    | next s' => exact runL_congr I h1 h2 m s' (h2 s s' hs e)
    | done s' => rfl
    | ret r => rfl
def forS {σ ρ : Type} (body : Nat → σ → Lp σ ρ) : Nat → Nat → σ → Lp σ ρ
  | 0, _, s => .done s
  | m + 1, k, s => match body k s with
    | .next s' => forS body m (k + 1) s'
    | .done s' => .done s'
    | .ret r => .ret r
theorem app_loop {α β ρ : Type} [Inhabited α] (f : α → β) (a : List α) (init : List β) (step : Int × List β → Lp (Int × List β) ρ)
    (hs : ∀ (k : Nat) xs, k < a.length → step ((k : Int), xs) = .next ((k : Int) + 1, xs ++ [f (a.getD k default)])) (he : ∀ xs, step ((a.length : Int), xs) = .done ((a.length : Int), xs)) :
    runL step ((Int.toNat ((a.length : Int) - 0)) + 1) (0, init) = .done ((a.length : Int), init ++ a.map f) := by
  have h := runL_rule (step := step) (fun (k : Nat) (s : List β) => ((k : Int), s)) a.length (fun k s => s = init ++ (a.take k).map f) (fun _ => False)
    (fun k s hk hI => .inl ⟨s ++ [f (a.getD k default)], hs k s hk, by rw [hI, take_next hk, List.map_append, List.append_assoc]; rfl⟩)
    (fun s _ => he s) a.length 0 init (by omega) (by simp) (a.length + 1) (Nat.lt_succ_self _)
  rw [n0]
  rcases h with ⟨s', h, hI⟩ | ⟨_, _, h⟩
  · rw [List.take_length] at hI
    rw [← hI]; exact h
  · exact h.elim
def oix : Option Nat → Int
  | some k => (k : Int)
  | none => -1
theorem oix_lt {p : Nat → Bool} {n : Nat} : oix (first p n) < (n : Int) := by
  cases h : first p n with
  | none => simp only [oix]; omega
  | some k => have := (first_some.1 h).1; simp only [oix]; omega
theorem oix_ge (o : Option Nat) : -1 ≤ oix o := by cases o <;> simp only [oix] <;> omega
theorem oix_neg {o : Option Nat} : oix o < 0 ↔ o = none := by
  cases o with
  | none => simp [oix]
  | some k => simp [oix]
theorem oix_some {o : Option Nat} (h : ¬ oix o < 0) : o = some (oix o).toNat := by
  cases o with
  | none => exact absurd (by decide) h
  | some k => simp [oix]
def idxI {α : Type} [Inhabited α] (p : α → Bool) (xs : List α) : Int := oix (first (fun k => p (xs.getD k default)) xs.length)
theorem idx_loop {α : Type} [Inhabited α] (p : α → Bool) (xs : List α) (step : Int → Lp Int Int)
    (hs : ∀ i, step i = bif decide (i < (xs.length : Int)) then (bif p (xs.getD (Int.toNat i) default) then .ret i else .next (i + 1)) else .done i) :
    (runL step ((Int.toNat ((xs.length : Int) - 0)) + 1) 0).fin (fun r => r) (fun _ => -1) = idxI p xs := by
  rw [search (fun k => p (xs.getD k default)) (fun k => (k : Int)) xs.length step (fun k hk => by rw [hs, ltD hk, nn]; rfl) (by rw [hs, geD]; rfl)]
  unfold idxI
  cases first (fun k => p (xs.getD k default)) xs.length <;> rfl
theorem any_idx {α : Type} [Inhabited α] (p : α → Bool) (xs : List α) : decide (idxI p xs ≥ 0) = xs.any p := by
  rw [Bool.eq_iff_iff, decide_eq_true_eq, List.any_eq_true]
  constructor
  · intro h
    have h' : ¬ idxI p xs < 0 := by omega
    have h2 := first_some.1 (oix_some h')
    exact ⟨_, getD_mem xs h2.1, h2.2.1⟩
  · rintro ⟨x, hx, hp⟩
    obtain ⟨k, hk, rfl⟩ := mem_getD hx
    rcases Int.lt_or_le (idxI p xs) 0 with h | h
    · have := first_none.1 (oix_neg.1 h) k hk
      simp only [hp] at this
      cases this
    · exact h
theorem mem_idx {α : Type} [Inhabited α] [DecidableEq α] (v : α) (xs : List α) : xs.any (fun y => decide (v = y)) = decide (v ∈ xs) := by
  rw [Bool.eq_iff_iff, List.any_eq_true, decide_eq_true_eq]
  constructor
  · rintro ⟨x, hx, h⟩
    rw [of_decide_eq_true h]; exact hx
  · exact fun h => ⟨v, h, by simp⟩
theorem idxI_lt {α : Type} [Inhabited α] (p : α → Bool) (xs : List α) : idxI p xs < (xs.length : Int) := oix_lt
theorem idxI_ge {α : Type} [Inhabited α] (p : α → Bool) (xs : List α) : -1 ≤ idxI p xs := oix_ge _
theorem beqD (a b : Int) : (a == b) = decide (a = b) := by
  by_cases h : a = b <;> simp [h]
theorem toNat_pred (k : Nat) : Int.toNat ((k : Int) - 1) = k - 1 := by omega
theorem pos_cast (k : Nat) : decide ((k : Int) > 0) = decide (0 < k) := by simp
theorem ret_or {ρ : Type} (a b : Bool) (r : ρ) (s : Int) : (bif a then (Lp.ret r : Lp Int ρ) else bif b then .ret r else .next s) = bif (a || b) then .ret r else .next s := by cases a <;> rfl
theorem set_take_next {α : Type} (xs : List α) {i : Nat} (a : α) (h : i < xs.length) : (xs.set i a).take (i + 1) = xs.take i ++ [a] := by
  rw [List.take_add_one, List.take_set_of_le (Nat.le_refl _), List.getElem?_set_self h]; rfl
theorem filter_take_next {α : Type} [Inhabited α] (p : α → Bool) (s : List α) {k : Nat} (h : k < s.length) : (s.take (k + 1)).filter p = (s.take k).filter p ++ (if p (s.getD k default) then [s.getD k default] else []) := by
  rw [take_next h, List.filter_append]
  congr 1
  simp only [List.filter_cons, List.filter_nil]
theorem del_loop {α : Type} [Inhabited α] (del : α → Bool) (s : List α) (z : α) (step : Int × Int × List α → Lp (Int × Int × List α) (List α))
    (hs : ∀ i j xs, step (i, j, xs) = bif decide (j < (xs.length : Int)) then (bif (!(del (xs.getD (Int.toNat j) default))) then .next (i + 1, j + 1, xs.set (Int.toNat i) (xs.getD (Int.toNat j) default)) else .next (i, j + 1, xs)) else .done (i, j, xs)) :
    (bif (idxI del s == (-1)) then s else (((runL step ((Int.toNat ((s.length : Int) - (idxI del s + 1))) + 1) (idxI del s, idxI del s + 1, s)).fin Lp.ret (fun x => (Lp.done (x.2.2, x.1) : Lp (List α × Int) (List α)))).fin (fun r => r) (fun x => ((x.1.take (Int.toNat x.2) ++ List.replicate (x.1.drop (Int.toNat x.2)).length z ++ x.1.drop (Int.toNat x.2 + (x.1.drop (Int.toNat x.2)).length)).take (Int.toNat x.2))))) = s.filter (fun x => !(del x)) := by
  unfold idxI
  cases e : first (fun k => del (s.getD k default)) s.length with
  | none =>
    have hn := first_none.1 e
    have e1 : (oix (none : Option Nat) == (-1 : Int)) = true := rfl
    rw [e1, cond_true]
    symm
    refine List.filter_eq_self.2 fun x hx => ?_
    obtain ⟨k, hk, rfl⟩ := mem_getD hx
    simpa using hn k hk
  | some k0 =>
    obtain ⟨h1, h2, h3⟩ := first_some.1 e
    have e1 : (oix (some k0) == (-1 : Int)) = false := by rw [beqD]; exact decide_eq_false (by simp only [oix]; omega)
    rw [e1, cond_false]
    simp only [oix]
    have hpre : (s.take (k0 + 1)).filter (fun x => !(del x)) = s.take k0 := by
      rw [filter_take_next _ _ h1]
      simp only [h2, Bool.not_true, Bool.false_eq_true, if_false, List.append_nil]
      refine List.filter_eq_self.2 fun x hx => ?_
      obtain ⟨k, hk, rfl⟩ := List.mem_iff_getElem.1 hx
      have hk' : k < k0 := by simp at hk; omega
      have := h3 k hk'
      rw [getD_lt s (by omega)] at this
      simpa using this
    have h := runL_rule (step := step) (fun (k : Nat) (x : Nat × List α) => ((x.1 : Int), (k : Int), x.2)) s.length
      (fun k x => x.1 < k ∧ x.2.length = s.length ∧ x.2.take x.1 = (s.take k).filter (fun x => !(del x)) ∧ ∀ m, k ≤ m → x.2.getD m default = s.getD m default) (fun _ => False)
      (fun k x hk ⟨g1, g2, g3, g4⟩ => by
        obtain ⟨i, xs⟩ := x
        simp only at g1 g2 g3 g4
        have hx := g4 k (Nat.le_refl _)
        cases hd : del (s.getD k default) with
        | false =>
          refine .inl ⟨(i + 1, xs.set i (s.getD k default)), ?_, by simp only; omega, by simp [g2], ?_, fun m hm => ?_⟩
          · rw [hs, g2, ltD hk, nn, hx, hd]
            simp only [cond_true, Bool.not_false, nn]
            rfl
          · simp only
            rw [set_take_next xs _ (by omega), g3, filter_take_next _ _ hk, hd]
            rfl
          · simp only
            rw [List.getD_eq_getElem?_getD, List.getElem?_set_ne (by omega), ← List.getD_eq_getElem?_getD]
            exact g4 m (by omega)
        | true =>
          refine .inl ⟨(i, xs), ?_, by simp only; omega, g2, ?_, fun m hm => g4 m (by omega)⟩
          · rw [hs, g2, ltD hk, nn, hx, hd]
            simp only [cond_true, Bool.not_true, cond_false]
            rfl
          · simp only
            rw [g3, filter_take_next _ _ hk, hd]
            simp)
      (fun x ⟨_, g2, _, _⟩ => by rw [hs, g2, geD]; rfl) (s.length - (k0 + 1)) (k0 + 1) (k0, s) (by omega) ⟨Nat.lt_succ_self _, rfl, hpre.symm, fun _ _ => rfl⟩ (s.length - (k0 + 1) + 1) (Nat.lt_succ_self _)
    have ef : Int.toNat ((s.length : Int) - ((k0 : Int) + 1)) = s.length - (k0 + 1) := by omega
    rw [ef]
    rcases h with ⟨⟨i, xs⟩, h, g1, g2, g3, g4⟩ | ⟨_, _, h⟩
    · have h : runL step (s.length - (k0 + 1) + 1) ((k0 : Int), (k0 : Int) + 1, s) = .done ((i : Int), (s.length : Int), xs) := h
      simp only at g1 g2 g3
      rw [h]
      simp only [Lp.fin, nn]
      rw [List.take_length] at g3
      rw [← g3, List.append_assoc, List.take_append_of_le_length (by simp; omega), List.take_take, Nat.min_self]
    · exact h.elim
end Go.Proofs.YtjefeigdapcleaaGreat
/-
  The machine: slices.SortFunc at structs of cells without an address.
-/
namespace Go.Proofs.YtjefeigdapcleaaGreat
open Go.RowKit Go.Shelf Go.Sort
set_option linter.unusedVariables false
set_option linter.unusedSimpArgs false
def datV : Dat → Value
  | .v x => x
  | _ => default
def Plain {α : Type} (k : Nat) (e : α → List Dat) : Prop := ∀ x, (e x).length = k ∧ ∀ d ∈ e x, ∃ v, d = .v v ∧ v.oneCell' = true
def encV {α : Type} (e : α → List Dat) (x : α) : List Value := (e x).map datV
theorem Plain.len {α : Type} {k : Nat} {e : α → List Dat} (h : Plain k e) (x : α) : (encV e x).length = k := by rw [encV, List.length_map, (h x).1]
theorem Plain.one {α : Type} {k : Nat} {e : α → List Dat} (h : Plain k e) (x : α) : ∀ v ∈ encV e x, v.oneCell' = true := fun v hv => by
  obtain ⟨d, hd, rfl⟩ := List.mem_map.1 hv
  obtain ⟨v, rfl, h1⟩ := (h x).2 d hd
  exact h1
theorem rd_plain {S : Nat → Prop} {w : World} : ∀ {ds : List Dat} {vs : List Value}, (∀ d ∈ ds, ∃ v, d = .v v ∧ v.oneCell' = true) → (RdVs S w ds vs ↔ vs = ds.map datV)
  | [], vs, _ => ⟨fun h => h, fun h => h⟩
  | d :: ds, vs, h => by
    obtain ⟨v, rfl, hv⟩ := h d List.mem_cons_self
    have ih := fun us => rd_plain (S := S) (w := w) (ds := ds) (vs := us) fun d hd => h d (List.mem_cons_of_mem _ hd)
    constructor
    · rintro ⟨u, us, rfl, ⟨rfl, _⟩, h2⟩
      rw [(ih us).1 h2]; rfl
    · rintro rfl
      exact ⟨v, _, rfl, ⟨rfl, hv⟩, (ih _).2 rfl⟩
theorem ow_plain {w : World} : ∀ {ds : List Dat} {vs : List Value} {fp : List Nat}, (∀ d ∈ ds, ∃ v, d = .v v ∧ v.oneCell' = true) → (OwVs w ds vs fp ↔ vs = ds.map datV ∧ fp = [])
  | [], vs, fp, _ => ⟨fun h => h, fun h => h⟩
  | d :: ds, vs, fp, h => by
    obtain ⟨v, rfl, hv⟩ := h d List.mem_cons_self
    have ih := fun us f => ow_plain (w := w) (ds := ds) (vs := us) (fp := f) fun d hd => h d (List.mem_cons_of_mem _ hd)
    constructor
    · rintro ⟨u, us, f, g, rfl, ⟨rfl, _, rfl⟩, h2, rfl, _⟩
      obtain ⟨e1, e2⟩ := (ih us _).1 h2
      rw [e1, e2]; exact ⟨rfl, rfl⟩
    · rintro ⟨rfl, rfl⟩
      exact ⟨v, _, [], [], rfl, ⟨rfl, hv, rfl⟩, (ih _ _).2 ⟨rfl, rfl⟩, rfl, List.nodup_nil⟩
structure SortPre {α : Type} (cf : α → α → Int) (xs : List α) : Prop where
  irr : ∀ x ∈ xs, ¬ cf x x < 0
  tr : ∀ x ∈ xs, ∀ y ∈ xs, ∀ z ∈ xs, cf x y < 0 → cf y z < 0 → cf x z < 0
  ntr : ∀ x ∈ xs, ∀ y ∈ xs, ∀ z ∈ xs, ¬ cf x y < 0 → ¬ cf y z < 0 → ¬ cf x z < 0
  tot : ∀ x ∈ xs, ∀ y ∈ xs, ¬ cf x y < 0 → ¬ cf y x < 0 → x = y
def sortLe {α : Type} (cf : α → α → Int) (x y : α) : Bool := !decide (cf y x < 0)
def sortL {α : Type} (cf : α → α → Int) (xs : List α) : List α := xs.mergeSort (sortLe cf)
theorem sortL_perm {α : Type} (cf : α → α → Int) (xs : List α) : (sortL cf xs).Perm xs := List.mergeSort_perm _ _
theorem sortL_len {α : Type} (cf : α → α → Int) (xs : List α) : (sortL cf xs).length = xs.length := (sortL_perm cf xs).length_eq
theorem sortL_unique {α : Type} [Inhabited α] {cf : α → α → Int} {xs ys : List α} (h : SortPre cf xs) (hp : ys.Perm xs) (hs : ys.Pairwise fun x y => ¬ cf y x < 0) : ys = sortL cf xs := by
  have hm : (sortL cf xs).Pairwise fun x y => ¬ cf y x < 0 := by
    -- on the members the order is one
    let β := {x // x ∈ xs}
    let le : β → β → Bool := fun x y => sortLe cf x.1 y.1
    have h1 := List.pairwise_mergeSort (le := le) (fun a b c hab hbc => by
        simp only [le, sortLe, Bool.not_eq_true', decide_eq_false_iff_not] at *
        exact h.ntr _ c.2 _ b.2 _ a.2 hbc hab) (fun a b => by
        simp only [le, sortLe, Bool.or_eq_true, Bool.not_eq_true', decide_eq_false_iff_not]
        by_cases hc : cf b.1 a.1 < 0
        · right
          intro hd
          exact h.irr _ a.2 (h.tr _ a.2 _ b.2 _ a.2 hd hc)
        · exact .inl hc) xs.attach
    have h2 : (xs.attach.mergeSort le).map (·.1) = sortL cf xs := by
      unfold sortL
      rw [List.map_mergeSort (s := sortLe cf) (fun a _ b _ => rfl)]
      congr 1
      exact List.attach_map_subtype_val xs
    rw [← h2, List.pairwise_map]
    refine h1.imp fun {a b} hab => ?_
    simp only [le, sortLe, Bool.not_eq_true', decide_eq_false_iff_not] at hab
    exact hab
  exact List.Perm.eq_of_pairwise (le := fun x y => ¬ cf y x < 0) (fun a b ha hb h1 h2 => h.tot _ (hp.subset ha) _ ((sortL_perm cf xs).subset hb) h2 h1) hs hm (hp.trans (sortL_perm cf xs).symm)
theorem Bel.grow {w w' : World} (h : Bel w.heap.size w w') : ∃ q os, w' = grow (w.drewN q) os := by
  refine ⟨w'.drawn - w.drawn, w'.heap.extract w.heap.size w'.heap.size, ?_⟩
  have hh : w'.heap = w.heap ++ w'.heap.extract w.heap.size w'.heap.size := by
    refine Array.ext_getElem? fun i => ?_
    rw [Array.getElem?_append]
    by_cases hi : i < w.heap.size
    · rw [if_pos hi, h.block i hi]
    · rw [if_neg hi, Array.getElem?_extract]
      by_cases h2 : i < w'.heap.size
      · rw [if_pos (by omega)]; congr 1; omega
      · rw [if_neg (by omega), Array.getElem?_eq_none (by omega)]
  have hd := h.drawn
  cases w with
  | mk heap tape drawn os output =>
    cases w' with
    | mk heap' tape' drawn' os' output' =>
      obtain ⟨⟨h1, h2, h3, _, _⟩, _⟩ := h
      simp only at h1 h2 h3 hh hd
      subst h1 h2 h3
      show _ = World.mk _ _ _ _ _
      simp only [grow, World.drewN]
      rw [← hh]
      congr 1
      omega
theorem sort_ok {P : Program} {ρ : Go.Shelf.Ren} (L : SlLaysF0.n6 P ρ) {k : Nat} (aE : ∀ w, (isAgg (ρ.t 24)).run P w = .ok true w) (zE : ∀ w, (Go.sizeOf (ρ.t 24)).run P w = .ok k w) {α : Type} [Inhabited α] (e : α → List Dat) (he : Plain k e)
    (cf : α → α → Int) (xs : List α) : Spec.ok P (ρ.f 6) ⟨[.ow (.l k e xs) (some (.l k e (sortL cf xs))), .fn ⟨α × α, fun i => [.g (e i.1), .g (e i.2)], fun i => .int .i64 (cf i.1 i.2)⟩], .tu [], SortPre cf xs ∧ xs.length ≤ 4000000000000000000⟩ := by
  intro ⟨hp, hl⟩ S w vs fp hS hA
  obtain ⟨u, us, f, g, rfl, hO, ⟨u2, us2, f2, g2, rfl, ⟨hF, rfl⟩, ⟨rfl, rfl⟩, rfl, _⟩, rfl, hnd⟩ := hA
  simp only [List.append_nil] at hnd hS ⊢
  obtain ⟨a, c, rfl, hc, h63, hO⟩ := hO
  obtain ⟨gf, cap, rfl, hcal, hF⟩ := hF
  by_cases hx : xs = []
  · subst hx
    refine (AnyF.slices_SortFunc_none L a c _ w).mono fun e' w' ⟨h1, h2⟩ => ⟨_, [], f, h1, ⟨[], rfl, rfl, rfl⟩, ⟨_, _, f, [], rfl, ?_, ⟨_, _, [], [], rfl, rfl, rfl, rfl⟩, by simp⟩, by simpa using hnd, fun b hb => ?_, ?_⟩
    · subst h2
      have : sortL cf [] = ([] : List α) := List.eq_nil_of_length_eq_zero (by rw [sortL_len]; rfl)
      show OwV w' (.l k e (sortL cf [])) _ f
      rw [this]; exact ⟨a, c, rfl, hc, h63, hO⟩
    · subst h2
      have hb : b ∈ f := by simpa using hb
      refine ⟨?_, .inl hb⟩
      exact OwV.lt (.l k e ([] : List α)) _ f ⟨a, c, rfl, hc, h63, hO⟩ b hb
    · subst h2; exact Chg.of_below (Bel.refl _ _)
  rcases hO with ⟨_, rfl, _⟩ | ⟨b, o, T, cells, fps, rfl, hbox, hlen, hfl, hel, rfl, hnd'⟩
  · exact absurd rfl hx
  let β := {x // x ∈ xs}
  have : Inhabited β := ⟨⟨xs.head hx, List.head_mem hx⟩⟩
  let d : Array β := xs.attach.toArray
  have hds : d.size = xs.length := by simp only [d, List.size_toArray]; exact List.length_attach
  have hdi : ∀ i (hi : i < xs.length), d[i]!.1 = xs[i] := fun i hi => by
    rw [getElem!_pos d i (by omega)]; simp only [d, List.getElem_toArray]; exact congrArg Subtype.val (List.getElem_attach _)
  let enc' : β → List Value := fun x => encV e x.1
  let cf' : β → β → Int := fun x y => cf x.1 y.1
  have hlen' : ∀ i, i < xs.length → o + i * k + k ≤ cells.length := fun i hi => by
    rw [hlen, Nat.add_assoc, ← Nat.succ_mul]
    exact Nat.add_le_add_left (Nat.mul_le_mul_right _ (by omega)) _
  have hchunk : ∀ i (hi : i < xs.length), (cells.drop (o + i * k)).take k = encV e xs[i] := fun i hi => by
    have := hel i xs[i] (fps[i]'(by omega)) (List.getElem?_eq_getElem hi) (List.getElem?_eq_getElem _)
    exact ((ow_plain (he _).2).1 this.2).1
  have hk0 : 0 < k ∨ k = 0 := by omega
  have hH : HoldsK enc' k w b o d := by
    intro j hj
    rw [size_flatK, hds] at hj
    have kp : 0 < k := by rcases hk0 with h | h; exact h; subst h; simp at hj
    have hq : j / k < xs.length := Nat.div_lt_of_lt_mul (by rw [Nat.mul_comm]; exact hj)
    have hr : j % k < k := Nat.mod_lt _ kp
    have hjk : o + j / k * k + j % k = o + j := by rw [Nat.add_assoc, Nat.div_add_mod' j k]
    have hcell : cells[o + j]? = some ((encV e xs[j / k])[j % k]'(by rw [he.len]; exact hr)) := by
      rw [← hjk]
      have := congrArg (fun l : List Value => l[j % k]?) (hchunk _ hq)
      simp only [List.getElem?_take, hr, if_true, List.getElem?_drop] at this
      rw [this, List.getElem?_eq_getElem]
    refine ⟨?_, ?_⟩
    · rw [get_flatK _ _ _ _ (by rw [hds]; exact hj)]
      have hb' : w.heap[b]? = some (.cells cells.toArray T (0, 0)) := hbox
      simp only [World.cell?, hb', id]
      simp only [Option.isSome_none, Bool.false_eq_true, if_false, List.getElem?_toArray]
      rw [hcell]
      congr 1
      show _ = (encV e d[j / k]!.1)[j % k]!
      rw [hdi _ hq, getElem!_pos (encV e xs[j / k]) _ (by rw [he.len]; exact hr)]
    · have hb' : w.heap[b]? = some (.cells cells.toArray T (0, 0)) := hbox
      simp [World.frozen?, hb']
  have hsort : ∀ m os (dk : Array β), (∀ b', b' < w.heap.size → b' ≠ b → (sortWorldK enc' k w b o m dk os).heap[b']? = w.heap[b']?) ∧ w.heap.size ≤ (sortWorldK enc' k w b o m dk os).heap.size := by
    intro m os dk
    have hsz : ((putRowK enc' k (Sort.ahead w m) b o dk)).heap.size = w.heap.size := by simp [putRowK, putRow, mapBlock, Sort.ahead]
    refine ⟨fun b' hb' hne => ?_, ?_⟩
    · show ((putRowK enc' k (Sort.ahead w m) b o dk).heap ++ os)[b']? = _
      rw [Array.getElem?_append_left (by rw [hsz]; exact hb')]
      simp only [putRowK, putRow, mapBlock, Sort.ahead, Array.getElem?_modify]
      rw [if_neg (Ne.symm hne)]
    · show _ ≤ ((putRowK enc' k (Sort.ahead w m) b o dk).heap ++ os).size
      rw [Array.size_append, hsz]; omega
  have hcmp : CmpLays P gf cap enc' k cf' b o d.size w := by
    intro m os dk _ x y
    obtain ⟨s1, s2⟩ := hsort m os dk
    have := hF (x.1, y.1) (sortWorldK enc' k w b o m dk os) (fun _ => False) [.agg (enc' x).toArray, .agg (enc' y).toArray] (fun b' hb' => s1 b' (hS b' hb').1 fun e => (hS b' hb').2 (by rw [e]; exact List.mem_cons_self)) s2 (fun _ h => h.elim)
      ⟨_, _, rfl, ⟨_, rfl, (rd_plain (he _).2).2 rfl⟩, _, _, rfl, ⟨_, rfl, (rd_plain (he _).2).2 rfl⟩, rfl⟩
    exact this.mono fun e' w' ⟨h1, h2⟩ => ⟨h1, h2.grow⟩
  have hO' : SWO (ltOf cf') := by
    constructor
    · intro x; exact decide_eq_false (hp.irr _ x.2)
    · intro x y z h1 h2
      exact decide_eq_true (hp.tr _ x.2 _ y.2 _ z.2 (of_decide_eq_true h1) (of_decide_eq_true h2))
    · intro x y z h1 h2
      exact decide_eq_false (hp.ntr _ x.2 _ y.2 _ z.2 (of_decide_eq_false h1) (of_decide_eq_false h2))
  have hcall := AnyQ.slices_SortFunc L k aE zE enc' (fun x => he.len x.1) (fun x => he.one x.1) cf' hO' gf cap b o c d w (fun args w => callable_ok hcal args) hcmp hH hbox.lt (by rw [hds]; omega)
  rw [hds] at hcall
  refine hcall.mono fun e' w' ⟨h1, d', n, os, hP, hSo, hw'⟩ => ?_
  obtain ⟨hsz, _, hperm⟩ := hP
  have hsz' : d'.size = xs.length := by rw [hsz, hds]
  have hres : d'.toList.map (·.1) = sortL cf xs := by
    have e1 : d'.extract 0 xs.length = d' := by rw [← hsz']; exact Array.extract_size
    have e2 : d.extract 0 xs.length = d := by rw [← hds]; exact Array.extract_size
    rw [e1, e2] at hperm
    refine sortL_unique hp ?_ ?_
    · have := hperm.map (·.1)
      refine this.trans ?_
      show ((xs.attach.toArray).toList.map (·.1)).Perm xs
      rw [List.toList_toArray, List.attach_map_subtype_val]
    · rw [List.pairwise_map, List.pairwise_iff_getElem]
      intro i j hi hj hij
      have hi' : i < d'.size := by simpa using hi
      have hj' : j < d'.size := by simpa using hj
      have := hSo i j (Nat.zero_le _) hij (by rw [← hsz']; exact hj')
      rw [getElem!_pos d' i hi', getElem!_pos d' j hj'] at this
      simpa using of_decide_eq_false this
  obtain ⟨s1, s2⟩ := hsort n os d'
  rw [← hw'] at s1 s2
  let F' : Array Value := flatK enc' k d'
  let cells' : List Value := (putCells id o F' cells.toArray).toList
  have hcl : cells'.length = cells.length := by simp [cells', putCells]
  have hbox' : Box w' b T cells' := by
    show w'.heap[b]? = _
    rw [hw']
    show ((putRowK enc' k (Sort.ahead w n) b o d').heap ++ os)[b]? = _
    have hb' : w.heap[b]? = some (.cells cells.toArray T (0, 0)) := hbox
    rw [Array.getElem?_append_left (by simp only [putRowK, putRow, mapBlock, Sort.ahead, Array.size_modify]; exact hbox.lt)]
    simp only [putRowK, putRow, mapBlock, Sort.ahead, Array.getElem?_modify, if_true, hb', Option.map_some, onCells]
    simp [cells', F']
  have hchunk' : ∀ i (hi : i < xs.length), ((cells'.drop (o + i * k)).take k) = encV e (sortL cf xs)[i]! := by
    intro i hi
    have hh := hlen' i hi
    refine List.ext_getElem? fun j => ?_
    rw [List.getElem?_take]
    by_cases hj : j < k
    · rw [if_pos hj, List.getElem?_drop]
      have kp : 0 < k := by omega
      have hik : i * k + j < xs.length * k := by
        have := Nat.mul_le_mul_right k (show i + 1 ≤ xs.length from hi)
        rw [Nat.add_mul, Nat.one_mul] at this; omega
      have hc' : cells'[o + i * k + j]? = some (if o ≤ o + i * k + j ∧ o + i * k + j < o + F'.size then F'[o + i * k + j - o]! else cells.toArray[o + i * k + j]'(by simp; omega)) := by
        simp only [cells', putCells, Array.getElem?_toList, Array.getElem?_mapIdx, id]
        rw [Array.getElem?_eq_getElem (by simp; omega)]
        rfl
      rw [hc', if_pos ⟨by omega, by simp only [F', size_flatK]; rw [hsz']; omega⟩]
      have e1 : o + i * k + j - o = i * k + j := by omega
      rw [e1, get_flatK _ _ _ _ (by rw [hsz']; exact hik)]
      have e2 : (i * k + j) / k = i := by rw [Nat.mul_comm, Nat.mul_add_div kp, Nat.div_eq_of_lt hj, Nat.add_zero]
      have e3 : (i * k + j) % k = j := by rw [Nat.mul_comm, Nat.mul_add_mod, Nat.mod_eq_of_lt hj]
      rw [e2, e3]
      have e4 : d'[i]!.1 = (sortL cf xs)[i]! := by
        rw [← hres, getElem!_pos d' i (by omega), getElem!_pos (d'.toList.map (·.1)) i (by simp; omega)]
        simp
      show some ((encV e d'[i]!.1)[j]!) = _
      rw [e4, getElem!_pos (encV e _) j (by rw [he.len]; exact hj), List.getElem?_eq_getElem]
    · rw [if_neg hj, List.getElem?_eq_none (by rw [he.len]; omega)]
  refine ⟨_, [], b :: fps.flatten, h1, ⟨[], rfl, rfl, rfl⟩, ⟨_, _, b :: fps.flatten, [], rfl, ?_, ⟨_, _, [], [], rfl, rfl, rfl, rfl⟩, by simp⟩, by simpa using hnd', fun b' hb' => ?_, ?_⟩
  · have hflat : fps.flatten = [] := by
      rw [List.flatten_eq_nil_iff]
      intro f hf
      obtain ⟨i, hi, rfl⟩ := List.getElem_of_mem hf
      have := hel i (xs[i]'(by omega)) fps[i] (List.getElem?_eq_getElem _) (List.getElem?_eq_getElem hi)
      exact ((ow_plain (he _).2).1 this.2).2
    show OwV w' (.l k e (sortL cf xs)) _ _
    refine ⟨_, c, by rw [sortL_len], by rw [sortL_len]; exact hc, by rw [sortL_len]; exact h63, .inr ⟨b, o, T, cells', List.replicate xs.length [], rfl, hbox', by rw [hcl, hlen], by simp [sortL_len], fun i x f hx hf => ?_, by rw [hflat]; simp, hnd'⟩⟩
    have hi : i < xs.length := by have := (List.getElem?_eq_some_iff.1 hx).1; rwa [sortL_len] at this
    have hf' : f = [] := by
      rw [List.getElem?_replicate, if_pos hi] at hf
      exact (Option.some.inj hf).symm
    have hxe : (sortL cf xs)[i]! = x := by
      obtain ⟨h2, h3⟩ := List.getElem?_eq_some_iff.1 hx
      rw [getElem!_pos _ i h2]; exact h3
    rw [hchunk' i hi, hxe]
    exact ⟨he.len x, (ow_plain (he _).2).2 ⟨rfl, hf'⟩⟩
  · have hb2 : b' ∈ b :: fps.flatten := by simpa using hb'
    refine ⟨Nat.lt_of_lt_of_le ?_ s2, .inl hb2⟩
    rcases List.mem_cons.1 hb2 with rfl | h
    · exact hbox.lt
    · exact OwV.lt (.l k e xs) _ _ ⟨_, c, rfl, hc, h63, .inr ⟨b, o, T, cells, fps, rfl, hbox, hlen, hfl, hel, rfl, hnd'⟩⟩ b' (List.mem_cons_of_mem _ h)
  · refine ⟨by rw [hw']; rfl, by rw [hw']; rfl, by rw [hw']; rfl, s2, fun k' hk' hn => s1 k' hk' fun e => hn (by rw [e]; exact List.mem_cons_self), ?_⟩
    rw [hw']
    show w.drawn ≤ w.drawn + n
    omega
end Go.Proofs.YtjefeigdapcleaaGreat
/- The library's sort, at the program's types. -/
namespace Go.Proofs.YtjefeigdapcleaaGreat
open Go.Shelf Go.RowKit
def lay81_ren : Go.Shelf.Ren := ⟨fun | 6 => 81 | 15 => 112 | 14 => 111 | 28 => 133 | 29 => 134 | 20 => 125 | 21 => 126 | 22 => 127 | 23 => 128 | 24 => 129 | 25 => 130 | 26 => 131 | 27 => 132 | 46 => 151 | 47 => 152 | 48 => 153 | 49 => 154 | 50 => 155 | 57 => 159 | n => n, fun | 22 => 47 | 24 => 51 | 25 => 117 | 3 => 3 | 39 => 145 | 0 => 0 | 53 => 165 | 55 => 167 | 4 => 4 | 46 => 158 | 45 => 157 | 50 => 162 | 5 => 5 | 9 => 9 | 66 => 180 | 70 => 184 | 76 => 188 | 77 => 77 | n => n, fun | n => n⟩
theorem lay81 : Go.Proofs.SlLaysF0.n6 Tryz.prog lay81_ren := {
  mixed := by kernel_rfl
  f6 := ⟨Tryz.f81.name, by decide, Tryz.func81.trans (congrArg some (by kernel_rfl))⟩
  f14 := ⟨Tryz.f111.name, by decide, Tryz.func111.trans (congrArg some (by kernel_rfl))⟩
  f15 := Tryz.func112.trans (congrArg some (by kernel_rfl))
  f20 := ⟨Tryz.f125.name, by decide, Tryz.func125.trans (congrArg some (by kernel_rfl))⟩
  f21 := ⟨Tryz.f126.name, by decide, Tryz.func126.trans (congrArg some (by kernel_rfl))⟩
  f22 := ⟨Tryz.f127.name, by decide, Tryz.func127.trans (congrArg some (by kernel_rfl))⟩
  f23 := ⟨Tryz.f128.name, by decide, Tryz.func128.trans (congrArg some (by kernel_rfl))⟩
  f24 := ⟨Tryz.f129.name, by decide, Tryz.func129.trans (congrArg some (by kernel_rfl))⟩
  f25 := ⟨Tryz.f130.name, by decide, Tryz.func130.trans (congrArg some (by kernel_rfl))⟩
  f26 := ⟨Tryz.f131.name, by decide, Tryz.func131.trans (congrArg some (by kernel_rfl))⟩
  f27 := ⟨Tryz.f132.name, by decide, Tryz.func132.trans (congrArg some (by kernel_rfl))⟩
  f28 := Tryz.func133.trans (congrArg some (by kernel_rfl))
  f29 := Tryz.func134.trans (congrArg some (by kernel_rfl))
  f46 := ⟨Tryz.f151.name, by decide, Tryz.func151.trans (congrArg some (by kernel_rfl))⟩
  f47 := Tryz.func152.trans (congrArg some (by kernel_rfl))
  f48 := Tryz.func153.trans (congrArg some (by kernel_rfl))
  f49 := ⟨Tryz.f154.name, by decide, Tryz.func154.trans (congrArg some (by kernel_rfl))⟩
  f50 := ⟨Tryz.f155.name, by decide, Tryz.func155.trans (congrArg some (by kernel_rfl))⟩
  f57 := ⟨Tryz.f159.name, by decide, Tryz.func159.trans (congrArg some (by kernel_rfl))⟩
  t0 := Tryz.underlying0
  a0 := Tryz.isAgg0
  z0 := Tryz.sizeOf0
  v0 := Tryz.zeroValue0
  t3 := Tryz.underlying3
  a3 := Tryz.isAgg3
  z3 := Tryz.sizeOf3
  v3 := Tryz.zeroValue3
  t4 := Tryz.underlying4
  a4 := Tryz.isAgg4
  z4 := Tryz.sizeOf4
  v4 := Tryz.zeroValue4
  t5 := Tryz.underlying5
  a5 := Tryz.isAgg5
  z5 := Tryz.sizeOf5
  v5 := Tryz.zeroValue5
  t9 := Tryz.underlying9
  a9 := Tryz.isAgg9
  z9 := Tryz.sizeOf9
  v9 := Tryz.zeroValue9
  t22 := Tryz.underlying47
  a22 := Tryz.isAgg47
  z22 := Tryz.sizeOf47
  v22 := Tryz.zeroValue47
  t25 := Tryz.underlying117
  a25 := Tryz.isAgg117
  z25 := Tryz.sizeOf117
  v25 := Tryz.zeroValue117
  t39 := Tryz.underlying145
  a39 := Tryz.isAgg145
  z39 := Tryz.sizeOf145
  v39 := Tryz.zeroValue145
  t45 := Tryz.underlying157
  a45 := Tryz.isAgg157
  z45 := Tryz.sizeOf157
  v45 := Tryz.zeroValue157
  t46 := Tryz.underlying158
  a46 := Tryz.isAgg158
  z46 := Tryz.sizeOf158
  v46 := Tryz.zeroValue158
  t50 := Tryz.underlying162
  a50 := Tryz.isAgg162
  z50 := Tryz.sizeOf162
  v50 := Tryz.zeroValue162
  t53 := Tryz.underlying165
  a53 := Tryz.isAgg165
  z53 := Tryz.sizeOf165
  v53 := Tryz.zeroValue165
  t55 := Tryz.underlying167
  a55 := Tryz.isAgg167
  z55 := Tryz.sizeOf167
  v55 := Tryz.zeroValue167
  t66 := Tryz.underlying180
  a66 := Tryz.isAgg180
  z66 := Tryz.sizeOf180
  v66 := Tryz.zeroValue180
  t70 := Tryz.underlying184
  a70 := Tryz.isAgg184
  z70 := Tryz.sizeOf184
  v70 := Tryz.zeroValue184
  t76 := Tryz.underlying188
  a76 := Tryz.isAgg188
  z76 := Tryz.sizeOf188
  v76 := Tryz.zeroValue188
  t77 := Tryz.underlying77
  a77 := Tryz.isAgg77
  z77 := Tryz.sizeOf77
  v77 := Tryz.zeroValue77 }
def lay87_ren : Go.Shelf.Ren := ⟨fun | 6 => 87 | 15 => 112 | 14 => 116 | 28 => 133 | 29 => 134 | 20 => 136 | 21 => 137 | 22 => 138 | 23 => 139 | 24 => 140 | 25 => 141 | 26 => 142 | 27 => 143 | 46 => 156 | 47 => 152 | 48 => 153 | 49 => 157 | 50 => 158 | 57 => 160 | n => n, fun | 22 => 46 | 24 => 75 | 25 => 122 | 3 => 3 | 39 => 145 | 0 => 0 | 53 => 165 | 55 => 167 | 4 => 4 | 46 => 158 | 45 => 157 | 50 => 162 | 5 => 5 | 9 => 9 | 66 => 180 | 70 => 184 | 76 => 188 | 77 => 77 | n => n, fun | n => n⟩
theorem lay87 : Go.Proofs.SlLaysF0.n6 Tryz.prog lay87_ren := {
  mixed := by kernel_rfl
  f6 := ⟨Tryz.f87.name, by decide, Tryz.func87.trans (congrArg some (by kernel_rfl))⟩
  f14 := ⟨Tryz.f116.name, by decide, Tryz.func116.trans (congrArg some (by kernel_rfl))⟩
  f15 := Tryz.func112.trans (congrArg some (by kernel_rfl))
  f20 := ⟨Tryz.f136.name, by decide, Tryz.func136.trans (congrArg some (by kernel_rfl))⟩
  f21 := ⟨Tryz.f137.name, by decide, Tryz.func137.trans (congrArg some (by kernel_rfl))⟩
  f22 := ⟨Tryz.f138.name, by decide, Tryz.func138.trans (congrArg some (by kernel_rfl))⟩
  f23 := ⟨Tryz.f139.name, by decide, Tryz.func139.trans (congrArg some (by kernel_rfl))⟩
  f24 := ⟨Tryz.f140.name, by decide, Tryz.func140.trans (congrArg some (by kernel_rfl))⟩
  f25 := ⟨Tryz.f141.name, by decide, Tryz.func141.trans (congrArg some (by kernel_rfl))⟩
  f26 := ⟨Tryz.f142.name, by decide, Tryz.func142.trans (congrArg some (by kernel_rfl))⟩
  f27 := ⟨Tryz.f143.name, by decide, Tryz.func143.trans (congrArg some (by kernel_rfl))⟩
  f28 := Tryz.func133.trans (congrArg some (by kernel_rfl))
  f29 := Tryz.func134.trans (congrArg some (by kernel_rfl))
  f46 := ⟨Tryz.f156.name, by decide, Tryz.func156.trans (congrArg some (by kernel_rfl))⟩
  f47 := Tryz.func152.trans (congrArg some (by kernel_rfl))
  f48 := Tryz.func153.trans (congrArg some (by kernel_rfl))
  f49 := ⟨Tryz.f157.name, by decide, Tryz.func157.trans (congrArg some (by kernel_rfl))⟩
  f50 := ⟨Tryz.f158.name, by decide, Tryz.func158.trans (congrArg some (by kernel_rfl))⟩
  f57 := ⟨Tryz.f160.name, by decide, Tryz.func160.trans (congrArg some (by kernel_rfl))⟩
  t0 := Tryz.underlying0
  a0 := Tryz.isAgg0
  z0 := Tryz.sizeOf0
  v0 := Tryz.zeroValue0
  t3 := Tryz.underlying3
  a3 := Tryz.isAgg3
  z3 := Tryz.sizeOf3
  v3 := Tryz.zeroValue3
  t4 := Tryz.underlying4
  a4 := Tryz.isAgg4
  z4 := Tryz.sizeOf4
  v4 := Tryz.zeroValue4
  t5 := Tryz.underlying5
  a5 := Tryz.isAgg5
  z5 := Tryz.sizeOf5
  v5 := Tryz.zeroValue5
  t9 := Tryz.underlying9
  a9 := Tryz.isAgg9
  z9 := Tryz.sizeOf9
  v9 := Tryz.zeroValue9
  t22 := Tryz.underlying46
  a22 := Tryz.isAgg46
  z22 := Tryz.sizeOf46
  v22 := Tryz.zeroValue46
  t25 := Tryz.underlying122
  a25 := Tryz.isAgg122
  z25 := Tryz.sizeOf122
  v25 := Tryz.zeroValue122
  t39 := Tryz.underlying145
  a39 := Tryz.isAgg145
  z39 := Tryz.sizeOf145
  v39 := Tryz.zeroValue145
  t45 := Tryz.underlying157
  a45 := Tryz.isAgg157
  z45 := Tryz.sizeOf157
  v45 := Tryz.zeroValue157
  t46 := Tryz.underlying158
  a46 := Tryz.isAgg158
  z46 := Tryz.sizeOf158
  v46 := Tryz.zeroValue158
  t50 := Tryz.underlying162
  a50 := Tryz.isAgg162
  z50 := Tryz.sizeOf162
  v50 := Tryz.zeroValue162
  t53 := Tryz.underlying165
  a53 := Tryz.isAgg165
  z53 := Tryz.sizeOf165
  v53 := Tryz.zeroValue165
  t55 := Tryz.underlying167
  a55 := Tryz.isAgg167
  z55 := Tryz.sizeOf167
  v55 := Tryz.zeroValue167
  t66 := Tryz.underlying180
  a66 := Tryz.isAgg180
  z66 := Tryz.sizeOf180
  v66 := Tryz.zeroValue180
  t70 := Tryz.underlying184
  a70 := Tryz.isAgg184
  z70 := Tryz.sizeOf184
  v70 := Tryz.zeroValue184
  t76 := Tryz.underlying188
  a76 := Tryz.isAgg188
  z76 := Tryz.sizeOf188
  v76 := Tryz.zeroValue188
  t77 := Tryz.underlying77
  a77 := Tryz.isAgg77
  z77 := Tryz.sizeOf77
  v77 := Tryz.zeroValue77 }
theorem lay81a : ∀ w, (isAgg (lay81_ren.t 24)).run Tryz.prog w = .ok true w := Tryz.isAgg51
theorem lay81z : ∀ w, (Go.sizeOf (lay81_ren.t 24)).run Tryz.prog w = .ok 3 w := Tryz.sizeOf51
theorem lay87a : ∀ w, (isAgg (lay87_ren.t 24)).run Tryz.prog w = .ok true w := Tryz.isAgg75
theorem lay87z : ∀ w, (Go.sizeOf (lay87_ren.t 24)).run Tryz.prog w = .ok 3 w := Tryz.sizeOf75
end Go.Proofs.YtjefeigdapcleaaGreat
/- functions, through the machine -/
namespace Go.Proofs.YtjefeigdapcleaaGreat
theorem ai {a b : Prop} (h : a) (k : b) : a ∧ b := ⟨h, k⟩
abbrev vI (x : Int) : Value := .int .i64 x
open Go.RowKit
set_option maxRecDepth 100000
set_option linter.unusedVariables false
set_option linter.unusedSimpArgs false
theorem mixed : Tryz.prog.follows .mixedOrders = true := Checked.mixed Tryz.checked
structure LabLink where
  A : Int
  B : Int
  deriving DecidableEq, Inhabited
def eLabLink (x : LabLink) : List Dat := [.v (vI x.A), .v (vI x.B)]
def F58 (a : List LabLink) (left' : Int) : Int :=
  bif (decide ((left' - (a.length : Int)) < 0)) then (-1) else (left' - (a.length : Int))
def S58 (a : List LabLink) (left' : Int) : Spec := ⟨[.r (.c (.l 2 eLabLink a)), .r (.c (.v (vI left')))], .v (vI (F58 a left')), 0 ≤ left' ∧ left' ≤ 1048576⟩
theorem ok58 (a : List LabLink) (left' : Int) : (S58 a left').ok Tryz.prog 58 :=
  fnG_ok mixed (fn := Tryz.f58) (ct := .seqk [(0, 0)] (.no) (.seq (.reg [(3, .bnd)]) (.seq (.seq (.no) (.cond (.seq (.no) (.no)) (.no))) (.seq (.no) (.no))))) Tryz.func58 (fun (hp : 0 ≤ left' ∧ left' ≤ 1048576) => (fun (hpre0 : 0 ≤ left') (hpre1 : left' ≤ 1048576) => fun (_ : a.length ≤ 9223372036854775807) => ai ((by unfold i64ok; omega : i64ok (left' - (a.length : Int)))) (ai (fun h1 : (decide ((left' - (a.length : Int)) < 0)) = true => (fun _ : (left' - (a.length : Int)) < 0 => (fun hF : ((-1) : Int) = (F58 a left') => ai (congrArg (fun r : Int => (.int .i64 r : Value)) hF) (trivial)) (condT h1 (rfl))) (of_decide_eq_true h1)) (fun h1 : (decide ((left' - (a.length : Int)) < 0)) = false => (fun _ : ¬ (left' - (a.length : Int)) < 0 => (fun hF : ((left' - (a.length : Int)) : Int) = (F58 a left') => ai (congrArg (fun r : Int => (.int .i64 r : Value)) hF) (trivial)) (condF h1 (rfl))) (of_decide_eq_false h1)))) hp.1 hp.2) (by kernel_rfl)
theorem gb58 (a : List LabLink) (left' : Int) : 0 ≤ left' → left' ≤ 1048576 → 0 ≤ (F58 a left') → (F58 a left') ≤ left' ∧ (a.length ≤ 1000000000) := by
  intro h0 h1 h2; simp only [F58] at h2 ⊢; cases h : decide (left' - (a.length : Int) < 0) <;> simp_all <;> omega
theorem g58_0 (a : List LabLink) (left' : Int) : 0 ≤ left' → left' ≤ 1048576 → 0 ≤ (F58 a left') → (F58 a left') ≤ left' := by
  intro h0 h1 h2; exact (gb58 a left' h0 h1 h2).1
theorem g58_1 (a : List LabLink) (left' : Int) : 0 ≤ left' → left' ≤ 1048576 → 0 ≤ (F58 a left') → a.length ≤ 1000000000 := by
  intro h0 h1 h2; exact (gb58 a left' h0 h1 h2).2
structure LabRow where
  In : Int
  Next : Int
  Out : Int
  deriving DecidableEq, Inhabited
def eLabRow (x : LabRow) : List Dat := [.v (vI x.In), .v (vI x.Next), .v (vI x.Out)]
def F119 (a : List LabRow) (left' : Int) : Int :=
  bif (decide ((left' - (a.length : Int)) < 0)) then (-1) else (left' - (a.length : Int))
def S119 (a : List LabRow) (left' : Int) : Spec := ⟨[.r (.c (.l 3 eLabRow a)), .r (.c (.v (vI left')))], .v (vI (F119 a left')), 0 ≤ left' ∧ left' ≤ 1048576⟩
theorem ok119 (a : List LabRow) (left' : Int) : (S119 a left').ok Tryz.prog 119 :=
  fnG_ok mixed (fn := Tryz.f119) (ct := .seqk [(0, 0)] (.no) (.seq (.reg [(3, .bnd)]) (.seq (.seq (.no) (.cond (.seq (.no) (.no)) (.no))) (.seq (.no) (.no))))) Tryz.func119 (fun (hp : 0 ≤ left' ∧ left' ≤ 1048576) => (fun (hpre0 : 0 ≤ left') (hpre1 : left' ≤ 1048576) => fun (_ : a.length ≤ 9223372036854775807) => ai ((by unfold i64ok; omega : i64ok (left' - (a.length : Int)))) (ai (fun h1 : (decide ((left' - (a.length : Int)) < 0)) = true => (fun _ : (left' - (a.length : Int)) < 0 => (fun hF : ((-1) : Int) = (F119 a left') => ai (congrArg (fun r : Int => (.int .i64 r : Value)) hF) (trivial)) (condT h1 (rfl))) (of_decide_eq_true h1)) (fun h1 : (decide ((left' - (a.length : Int)) < 0)) = false => (fun _ : ¬ (left' - (a.length : Int)) < 0 => (fun hF : ((left' - (a.length : Int)) : Int) = (F119 a left') => ai (congrArg (fun r : Int => (.int .i64 r : Value)) hF) (trivial)) (condF h1 (rfl))) (of_decide_eq_false h1)))) hp.1 hp.2) (by kernel_rfl)
theorem gb119 (a : List LabRow) (left' : Int) : 0 ≤ left' → left' ≤ 1048576 → 0 ≤ (F119 a left') → (F119 a left') ≤ left' ∧ (a.length ≤ 1000000000) := by
  intro h0 h1 h2; simp only [F119] at h2 ⊢; cases h : decide (left' - (a.length : Int) < 0) <;> simp_all <;> omega
theorem g119_0 (a : List LabRow) (left' : Int) : 0 ≤ left' → left' ≤ 1048576 → 0 ≤ (F119 a left') → (F119 a left') ≤ left' := by
  intro h0 h1 h2; exact (gb119 a left' h0 h1 h2).1
theorem g119_1 (a : List LabRow) (left' : Int) : 0 ≤ left' → left' ≤ 1048576 → 0 ≤ (F119 a left') → a.length ≤ 1000000000 := by
  intro h0 h1 h2; exact (gb119 a left' h0 h1 h2).2
structure LabVia where
  To : Int
  Via : Int
  Push : Int
  deriving DecidableEq, Inhabited
def eLabVia (x : LabVia) : List Dat := [.v (vI x.To), .v (vI x.Via), .v (vI x.Push)]
def F120 (a : List LabVia) (left' : Int) : Int :=
  bif (decide ((left' - (a.length : Int)) < 0)) then (-1) else (left' - (a.length : Int))
def S120 (a : List LabVia) (left' : Int) : Spec := ⟨[.r (.c (.l 3 eLabVia a)), .r (.c (.v (vI left')))], .v (vI (F120 a left')), 0 ≤ left' ∧ left' ≤ 1048576⟩
theorem ok120 (a : List LabVia) (left' : Int) : (S120 a left').ok Tryz.prog 120 :=
  fnG_ok mixed (fn := Tryz.f120) (ct := .seqk [(0, 0)] (.no) (.seq (.reg [(3, .bnd)]) (.seq (.seq (.no) (.cond (.seq (.no) (.no)) (.no))) (.seq (.no) (.no))))) Tryz.func120 (fun (hp : 0 ≤ left' ∧ left' ≤ 1048576) => (fun (hpre0 : 0 ≤ left') (hpre1 : left' ≤ 1048576) => fun (_ : a.length ≤ 9223372036854775807) => ai ((by unfold i64ok; omega : i64ok (left' - (a.length : Int)))) (ai (fun h1 : (decide ((left' - (a.length : Int)) < 0)) = true => (fun _ : (left' - (a.length : Int)) < 0 => (fun hF : ((-1) : Int) = (F120 a left') => ai (congrArg (fun r : Int => (.int .i64 r : Value)) hF) (trivial)) (condT h1 (rfl))) (of_decide_eq_true h1)) (fun h1 : (decide ((left' - (a.length : Int)) < 0)) = false => (fun _ : ¬ (left' - (a.length : Int)) < 0 => (fun hF : ((left' - (a.length : Int)) : Int) = (F120 a left') => ai (congrArg (fun r : Int => (.int .i64 r : Value)) hF) (trivial)) (condF h1 (rfl))) (of_decide_eq_false h1)))) hp.1 hp.2) (by kernel_rfl)
theorem gb120 (a : List LabVia) (left' : Int) : 0 ≤ left' → left' ≤ 1048576 → 0 ≤ (F120 a left') → (F120 a left') ≤ left' ∧ (a.length ≤ 1000000000) := by
  intro h0 h1 h2; simp only [F120] at h2 ⊢; cases h : decide (left' - (a.length : Int) < 0) <;> simp_all <;> omega
theorem g120_0 (a : List LabVia) (left' : Int) : 0 ≤ left' → left' ≤ 1048576 → 0 ≤ (F120 a left') → (F120 a left') ≤ left' := by
  intro h0 h1 h2; exact (gb120 a left' h0 h1 h2).1
theorem g120_1 (a : List LabVia) (left' : Int) : 0 ≤ left' → left' ≤ 1048576 → 0 ≤ (F120 a left') → a.length ≤ 1000000000 := by
  intro h0 h1 h2; exact (gb120 a left' h0 h1 h2).2
structure LabBox where
  Rows : List LabRow
  Guards : List LabVia
  deriving DecidableEq, Inhabited
def eLabBox (x : LabBox) : List Dat := [.l 3 eLabRow x.Rows, .l 3 eLabVia x.Guards]
def F99 (a : LabBox) (left' : Int) : Int :=
  bif (decide ((F119 a.Rows left') < 0)) then (-1) else (bif (decide ((F120 a.Guards (F119 a.Rows left')) < 0)) then (-1) else (F120 a.Guards (F119 a.Rows left')))
def S99 (a : LabBox) (left' : Int) : Spec := ⟨[.r (.g (eLabBox a)), .r (.c (.v (vI left')))], .v (vI (F99 a left')), 0 ≤ left' ∧ left' ≤ 1048576⟩
theorem ok99 (a : LabBox) (left' : Int) : (S99 a left').ok Tryz.prog 99 :=
  fnG_ok mixed (fn := Tryz.f99) (ct := .seq (.no) (.seq (.reg [(3, .call 119 (S119 a.Rows left') (ok119 a.Rows left') none)]) (.seq (.seq (.no) (.cond (.seq (.no) (.no)) (.no))) (.seq (.reg [(3, .call 120 (S120 a.Guards (F119 a.Rows left')) (ok120 a.Guards (F119 a.Rows left')) none)]) (.seq (.seq (.no) (.cond (.seq (.no) (.no)) (.no))) (.seq (.no) (.no))))))) Tryz.func99 (fun (hp : 0 ≤ left' ∧ left' ≤ 1048576) => (fun (hpre0 : 0 ≤ left') (hpre1 : left' ≤ 1048576) => ai ((ai ((by omega : 0 ≤ left')) ((by omega : left' ≤ 1048576)))) (ai ((Imp.refl (.l 3 eLabRow a.Rows))) (ai ((Imp.refl (.v (vI left')))) ((fun gv1 : 0 ≤ left' → left' ≤ 1048576 → 0 ≤ (F119 a.Rows left') → (F119 a.Rows left') ≤ left' => (fun gv2 : 0 ≤ left' → left' ≤ 1048576 → 0 ≤ (F119 a.Rows left') → a.Rows.length ≤ 1000000000 => ai (fun h3 : (decide ((F119 a.Rows left') < 0)) = true => (fun _ : (F119 a.Rows left') < 0 => (fun hF : ((-1) : Int) = (F99 a left') => ai (congrArg (fun r : Int => (.int .i64 r : Value)) hF) (trivial)) (condT h3 (rfl))) (of_decide_eq_true h3)) (fun h3 : (decide ((F119 a.Rows left') < 0)) = false => (fun _ : ¬ (F119 a.Rows left') < 0 => ai ((ai ((by omega : 0 ≤ (F119 a.Rows left'))) ((by omega : (F119 a.Rows left') ≤ 1048576)))) (ai ((Imp.refl (.l 3 eLabVia a.Guards))) (ai ((Imp.refl (.v (vI (F119 a.Rows left'))))) ((fun gv4 : 0 ≤ (F119 a.Rows left') → (F119 a.Rows left') ≤ 1048576 → 0 ≤ (F120 a.Guards (F119 a.Rows left')) → (F120 a.Guards (F119 a.Rows left')) ≤ (F119 a.Rows left') => (fun gv5 : 0 ≤ (F119 a.Rows left') → (F119 a.Rows left') ≤ 1048576 → 0 ≤ (F120 a.Guards (F119 a.Rows left')) → a.Guards.length ≤ 1000000000 => ai (fun h6 : (decide ((F120 a.Guards (F119 a.Rows left')) < 0)) = true => (fun _ : (F120 a.Guards (F119 a.Rows left')) < 0 => (fun hF : ((-1) : Int) = (F99 a left') => ai (congrArg (fun r : Int => (.int .i64 r : Value)) hF) (trivial)) (condF h3 (condT h6 (rfl)))) (of_decide_eq_true h6)) (fun h6 : (decide ((F120 a.Guards (F119 a.Rows left')) < 0)) = false => (fun _ : ¬ (F120 a.Guards (F119 a.Rows left')) < 0 => (fun hF : ((F120 a.Guards (F119 a.Rows left')) : Int) = (F99 a left') => ai (congrArg (fun r : Int => (.int .i64 r : Value)) hF) (trivial)) (condF h3 (condF h6 (rfl)))) (of_decide_eq_false h6))) (g120_1 a.Guards (F119 a.Rows left'))) (g120_0 a.Guards (F119 a.Rows left')))))) (of_decide_eq_false h3))) (g119_1 a.Rows left')) (g119_0 a.Rows left'))))) hp.1 hp.2) (by kernel_rfl)
theorem gb99 (a : LabBox) (left' : Int) : 0 ≤ left' → left' ≤ 1048576 → 0 ≤ (F99 a left') → (F99 a left') ≤ left' ∧ (a.Rows.length ≤ 1000000000) ∧ (a.Guards.length ≤ 1000000000) := by
  intro h0 h1 h2
  simp only [F99] at h2 ⊢
  rcases Classical.em ((F119 a.Rows left') < 0) with hq0 | hq0
  · rw [decide_eq_true hq0, cond_true] at h2; exact absurd h2 (by decide)
  rw [decide_eq_false hq0, cond_false] at h2 ⊢
  have gq0 := gb119 a.Rows left' (by omega) (by omega) (by omega)
  have lq0 := gq0.1
  rcases Classical.em ((F120 a.Guards (F119 a.Rows left')) < 0) with hq1 | hq1
  · rw [decide_eq_true hq1, cond_true] at h2; exact absurd h2 (by decide)
  rw [decide_eq_false hq1, cond_false] at h2 ⊢
  have gq1 := gb120 a.Guards (F119 a.Rows left') (by omega) (by omega) (by omega)
  have lq1 := gq1.1
  exact ⟨by omega, gq0.2, gq1.2⟩
theorem g99_0 (a : LabBox) (left' : Int) : 0 ≤ left' → left' ≤ 1048576 → 0 ≤ (F99 a left') → (F99 a left') ≤ left' := by
  intro h0 h1 h2; exact (gb99 a left' h0 h1 h2).1
theorem g99_1 (a : LabBox) (left' : Int) : 0 ≤ left' → left' ≤ 1048576 → 0 ≤ (F99 a left') → a.Rows.length ≤ 1000000000 := by
  intro h0 h1 h2; exact (gb99 a left' h0 h1 h2).2.1
theorem g99_2 (a : LabBox) (left' : Int) : 0 ≤ left' → left' ≤ 1048576 → 0 ≤ (F99 a left') → a.Guards.length ≤ 1000000000 := by
  intro h0 h1 h2; exact (gb99 a left' h0 h1 h2).2.2
def F59_s0 (a : List LabBox) (left' : Int) : (Int × Int) → Lp (Int × Int) Int := fun (left'1, i40) =>
  bif (decide (i40 < (a.length : Int))) then (bif (decide ((F99 (a.getD (Int.toNat i40) default) left'1) < 0)) then (.ret (-1)) else (.next ((F99 (a.getD (Int.toNat i40) default) left'1), (i40 + 1)))) else (.done (left'1, i40))
def F59 (a : List LabBox) (left' : Int) : Int :=
  bif (decide ((left' - (a.length : Int)) < 0)) then (-1) else ((runL (F59_s0 a left') ((Int.toNat ((a.length : Int) - 0)) + 1) ((left' - (a.length : Int)), 0)).fin (fun r => r) (fun (left'1, i40) => left'1))
def S59 (a : List LabBox) (left' : Int) : Spec := ⟨[.r (.c (.l 2 eLabBox a)), .r (.c (.v (vI left')))], .v (vI (F59 a left')), 0 ≤ left' ∧ left' ≤ 1048576⟩
theorem ok59 (a : List LabBox) (left' : Int) : (S59 a left').ok Tryz.prog 59 :=
  fnG_ok mixed (fn := Tryz.f59) (ct := .seqk [(0, 0)] (.no) (.seq (.reg [(3, .bnd)]) (.seq (.seq (.no) (.cond (.seq (.no) (.no)) (.no))) (.seq (.seqk [(0, 0)] (.no) (.blk (.loop (ι := Nat × (Int × Int)) (fun i => (fun (left'1 : Int) (i40 : Int) => (⟨[(0, some (.h 0 0)), (1, some (.v (vI left'1))), (5, some (.v (vI i40)))], [(0, some (.shr none (.l 2 eLabBox a)))], 1⟩ : St)) i.2.1 i.2.2) (fun i => runL (F59_s0 a left') i.1 i.2 = (runL (F59_s0 a left') ((Int.toNat ((a.length : Int) - 0)) + 1) ((left' - (a.length : Int)), 0)) ∧ (fun (left'1 : Int) (i40 : Int) => (Int.toNat ((a.length : Int) - i40) < i.1 ∧ 0 ≤ left'1 ∧ left'1 ≤ 1048576 ∧ (0 : Int) ≤ i40)) i.2.1 i.2.2) (fun i => i.1) (((Int.toNat ((a.length : Int) - 0)) + 1), ((left' - (a.length : Int)), 0)) (fun i => (fun (left'1 : Int) (i40 : Int) => (.seq (.seq (.no) (.cond (.no) (.no))) (.seq (.blk (.seq (.reg [(5, .call 99 (S99 (a.getD (Int.toNat i40) default) left'1) (ok99 (a.getD (Int.toNat i40) default) left'1) none)]) (.seq (.no) (.cond (.seq (.no) (.no)) (.no))))) (.reg [(1, .bnd)])))) i.2.1 i.2.2)))) (.seq (.no) (.no)))))) Tryz.func59 (fun (hp : 0 ≤ left' ∧ left' ≤ 1048576) => (fun (hpre0 : 0 ≤ left') (hpre1 : left' ≤ 1048576) => fun (_ : a.length ≤ 9223372036854775807) => ai ((by unfold i64ok; omega : i64ok (left' - (a.length : Int)))) (ai (fun h1 : (decide ((left' - (a.length : Int)) < 0)) = true => (fun _ : (left' - (a.length : Int)) < 0 => (fun hF : ((-1) : Int) = (F59 a left') => ai (congrArg (fun r : Int => (.int .i64 r : Value)) hF) (trivial)) (condT h1 (rfl))) (of_decide_eq_true h1)) (fun h1 : (decide ((left' - (a.length : Int)) < 0)) = false => (fun _ : ¬ (left' - (a.length : Int)) < 0 => fun (_ : a.length ≤ 9223372036854775807) => ai (ai (rfl) (ai (rfl) (ai ((Imp.refl _)) ((ai (rfl : runL (F59_s0 a left') ((Int.toNat ((a.length : Int) - 0)) + 1) ((left' - (a.length : Int)), 0) = (runL (F59_s0 a left') ((Int.toNat ((a.length : Int) - 0)) + 1) ((left' - (a.length : Int)), 0))) (ai ((Nat.lt_succ_self _ : Int.toNat ((a.length : Int) - 0) < ((Int.toNat ((a.length : Int) - 0)) + 1))) (ai ((by omega : 0 ≤ (left' - (a.length : Int)))) (ai ((by omega : (left' - (a.length : Int)) ≤ 1048576)) ((by omega : (0 : Int) ≤ 0))))))))) : ((.int .i64 (left' - (a.length : Int)) : Value) = .int .i64 (left' - (a.length : Int))) ∧ ((.int .i64 0 : Value) = .int .i64 0) ∧ (Imp (.l 2 eLabBox a) (.l 2 eLabBox a)) ∧ (runL (F59_s0 a left') ((Int.toNat ((a.length : Int) - 0)) + 1) ((left' - (a.length : Int)), 0) = (runL (F59_s0 a left') ((Int.toNat ((a.length : Int) - 0)) + 1) ((left' - (a.length : Int)), 0)) ∧ Int.toNat ((a.length : Int) - 0) < ((Int.toNat ((a.length : Int) - 0)) + 1) ∧ 0 ≤ (left' - (a.length : Int)) ∧ (left' - (a.length : Int)) ≤ 1048576 ∧ (0 : Int) ≤ 0)) (fun (i0 : Nat × (Int × Int)) (hi0 : runL (F59_s0 a left') i0.1 i0.2 = (runL (F59_s0 a left') ((Int.toNat ((a.length : Int) - 0)) + 1) ((left' - (a.length : Int)), 0)) ∧ (fun (left'1 : Int) (i40 : Int) => (Int.toNat ((a.length : Int) - i40) < i0.1 ∧ 0 ≤ left'1 ∧ left'1 ≤ 1048576 ∧ (0 : Int) ≤ i40)) i0.2.1 i0.2.2) => (fun (m0 : Nat) (left'1 : Int) (i40 : Int) (hI0 : runL (F59_s0 a left') (m0 + 1) (left'1, i40) = (runL (F59_s0 a left') ((Int.toNat ((a.length : Int) - 0)) + 1) ((left' - (a.length : Int)), 0))) (_ : Int.toNat ((a.length : Int) - i40) < m0 + 1) (hl0 : m0 < i0.1) (_ : 0 ≤ left'1) (_ : left'1 ≤ 1048576) (_ : (0 : Int) ≤ i40) => ai (fun h3 : (decide (i40 < (a.length : Int))) = true => (fun _ : i40 < (a.length : Int) => ai ((by omega : 0 ≤ i40 ∧ i40 < (a.length : Int))) (ai ((ai ((by omega : 0 ≤ left'1)) ((by omega : left'1 ≤ 1048576)))) (ai ((Imps.refl (eLabBox (a.getD (Int.toNat i40) default)))) (ai ((Imp.refl (.v (vI left'1)))) ((fun gv4 : 0 ≤ left'1 → left'1 ≤ 1048576 → 0 ≤ (F99 (a.getD (Int.toNat i40) default) left'1) → (F99 (a.getD (Int.toNat i40) default) left'1) ≤ left'1 => (fun gv5 : 0 ≤ left'1 → left'1 ≤ 1048576 → 0 ≤ (F99 (a.getD (Int.toNat i40) default) left'1) → (a.getD (Int.toNat i40) default).Rows.length ≤ 1000000000 => (fun gv6 : 0 ≤ left'1 → left'1 ≤ 1048576 → 0 ≤ (F99 (a.getD (Int.toNat i40) default) left'1) → (a.getD (Int.toNat i40) default).Guards.length ≤ 1000000000 => ai (fun h7 : (decide ((F99 (a.getD (Int.toNat i40) default) left'1) < 0)) = true => (fun _ : (F99 (a.getD (Int.toNat i40) default) left'1) < 0 => (fun hF : ((-1) : Int) = (F59 a left') => ai (congrArg (fun r : Int => (.int .i64 r : Value)) hF) (trivial)) (condF h1 (finR (runL_ret hI0 (condT h3 (condT h7 (rfl)))) rfl))) (of_decide_eq_true h7)) (fun h7 : (decide ((F99 (a.getD (Int.toNat i40) default) left'1) < 0)) = false => (fun _ : ¬ (F99 (a.getD (Int.toNat i40) default) left'1) < 0 => ai ((by unfold i64ok; omega : i64ok (i40 + 1))) (Exists.intro (p := fun j : Nat × (Int × Int) => (fun (left'1_ : Int) (i40_ : Int) => (((.int .i64 (F99 (a.getD (Int.toNat i40) default) left'1) : Value) = .int .i64 left'1_) ∧ ((.int .i64 (i40 + 1) : Value) = .int .i64 i40_) ∧ (Imp (.l 2 eLabBox a) (.l 2 eLabBox a)) ∧ ((runL (F59_s0 a left') j.1 j.2 = (runL (F59_s0 a left') ((Int.toNat ((a.length : Int) - 0)) + 1) ((left' - (a.length : Int)), 0)) ∧ Int.toNat ((a.length : Int) - i40_) < j.1 ∧ 0 ≤ left'1_ ∧ left'1_ ≤ 1048576 ∧ (0 : Int) ≤ i40_) ∧ j.1 < i0.1))) j.2.1 j.2.2) (m0, ((F99 (a.getD (Int.toNat i40) default) left'1), (i40 + 1))) (ai (rfl) (ai (rfl) (ai ((Imp.refl _)) (ai (ai (runL_next hI0 (condT h3 (condF h7 (rfl)))) (ai ((by omega : Int.toNat ((a.length : Int) - (i40 + 1)) < m0)) (ai ((by omega : 0 ≤ (F99 (a.getD (Int.toNat i40) default) left'1))) (ai ((by omega : (F99 (a.getD (Int.toNat i40) default) left'1) ≤ 1048576)) ((by omega : (0 : Int) ≤ (i40 + 1))))))) hl0)))))) (of_decide_eq_false h7))) (g99_2 (a.getD (Int.toNat i40) default) left'1)) (g99_1 (a.getD (Int.toNat i40) default) left'1)) (g99_0 (a.getD (Int.toNat i40) default) left'1)))))) (of_decide_eq_true h3)) (fun h3 : (decide (i40 < (a.length : Int))) = false => (fun _ : ¬ i40 < (a.length : Int) => (fun hD0_8 : (runL (F59_s0 a left') ((Int.toNat ((a.length : Int) - 0)) + 1) ((left' - (a.length : Int)), 0)) = Lp.done (left'1, i40) => (fun hF : (left'1 : Int) = (F59 a left') => ai (congrArg (fun r : Int => (.int .i64 r : Value)) hF) (trivial)) (condF h1 (finD hD0_8 (rfl)))) (runL_done hI0 (condF h3 (rfl)))) (of_decide_eq_false h3))) (i0.1 - 1) i0.2.1 i0.2.2 (hd1 hi0.1 hi0.2.1) (hd2 hi0.2.1) (hd3 hi0.2.1) hi0.2.2.1 hi0.2.2.2.1 hi0.2.2.2.2)) (of_decide_eq_false h1)))) hp.1 hp.2) (by kernel_rfl)
theorem gb59 (a : List LabBox) (left' : Int) : 0 ≤ left' → left' ≤ 1048576 → 0 ≤ (F59 a left') → (F59 a left') ≤ left' ∧ (a.length ≤ 1000000000) ∧ (∀ k : Nat, (a.getD k default).Rows.length ≤ 1000000000) ∧ (∀ k : Nat, (a.getD k default).Guards.length ≤ 1000000000) := by
  intro h0 h1 h2
  simp only [F59] at h2 ⊢
  cases h : decide (left' - (a.length : Int) < 0)
  · simp only [h, cond_false] at h2 ⊢
    have hc := of_decide_eq_false h
    obtain ⟨hall, hle⟩ := sz_loop F99 (fun x => (x.Rows.length ≤ 1000000000) ∧ (x.Guards.length ≤ 1000000000)) (fun x l g0 g1 g2 => ⟨(gb99 x l g0 g1 g2).2, (gb99 x l g0 g1 g2).1⟩) a (F59_s0 a left') (left' - (a.length : Int)) (by omega) (by omega) (fun l i => rfl) h2
    exact ⟨Int.le_trans hle (by omega), by omega, fun k => by
      by_cases hk : k < a.length
      · exact (hall k hk).1
      · rw [getD_ge a (by omega)]; first | exact Nat.zero_le _ | (intro k'; exact Nat.zero_le _) | (intro k' k''; exact Nat.zero_le _), fun k => by
      by_cases hk : k < a.length
      · exact (hall k hk).2
      · rw [getD_ge a (by omega)]; first | exact Nat.zero_le _ | (intro k'; exact Nat.zero_le _) | (intro k' k''; exact Nat.zero_le _)⟩
  · simp only [h, cond_true] at h2
    exact absurd h2 (by decide)
theorem g59_0 (a : List LabBox) (left' : Int) : 0 ≤ left' → left' ≤ 1048576 → 0 ≤ (F59 a left') → (F59 a left') ≤ left' := by
  intro h0 h1 h2; exact (gb59 a left' h0 h1 h2).1
theorem g59_1 (a : List LabBox) (left' : Int) : 0 ≤ left' → left' ≤ 1048576 → 0 ≤ (F59 a left') → a.length ≤ 1000000000 := by
  intro h0 h1 h2; exact (gb59 a left' h0 h1 h2).2.1
theorem g59_2 (a : List LabBox) (left' : Int) : 0 ≤ left' → left' ≤ 1048576 → 0 ≤ (F59 a left') → ∀ k : Nat, (a.getD k default).Rows.length ≤ 1000000000 := by
  intro h0 h1 h2; exact (gb59 a left' h0 h1 h2).2.2.1
theorem g59_3 (a : List LabBox) (left' : Int) : 0 ≤ left' → left' ≤ 1048576 → 0 ≤ (F59 a left') → ∀ k : Nat, (a.getD k default).Guards.length ≤ 1000000000 := by
  intro h0 h1 h2; exact (gb59 a left' h0 h1 h2).2.2.2
structure LabNet where
  Links : List LabLink
  Boxes : List LabBox
  deriving DecidableEq, Inhabited
def eLabNet (x : LabNet) : List Dat := [.l 2 eLabLink x.Links, .l 2 eLabBox x.Boxes]
def F24 (a : LabNet) (left' : Int) : Int :=
  bif (decide ((F58 a.Links left') < 0)) then (-1) else (bif (decide ((F59 a.Boxes (F58 a.Links left')) < 0)) then (-1) else (F59 a.Boxes (F58 a.Links left')))
def S24 (a : LabNet) (left' : Int) : Spec := ⟨[.r (.g (eLabNet a)), .r (.c (.v (vI left')))], .v (vI (F24 a left')), 0 ≤ left' ∧ left' ≤ 1048576⟩
theorem ok24 (a : LabNet) (left' : Int) : (S24 a left').ok Tryz.prog 24 :=
  fnG_ok mixed (fn := Tryz.f24) (ct := .seq (.no) (.seq (.reg [(3, .call 58 (S58 a.Links left') (ok58 a.Links left') none)]) (.seq (.seq (.no) (.cond (.seq (.no) (.no)) (.no))) (.seq (.reg [(3, .call 59 (S59 a.Boxes (F58 a.Links left')) (ok59 a.Boxes (F58 a.Links left')) none)]) (.seq (.seq (.no) (.cond (.seq (.no) (.no)) (.no))) (.seq (.no) (.no))))))) Tryz.func24 (fun (hp : 0 ≤ left' ∧ left' ≤ 1048576) => (fun (hpre0 : 0 ≤ left') (hpre1 : left' ≤ 1048576) => ai ((ai ((by omega : 0 ≤ left')) ((by omega : left' ≤ 1048576)))) (ai ((Imp.refl (.l 2 eLabLink a.Links))) (ai ((Imp.refl (.v (vI left')))) ((fun gv1 : 0 ≤ left' → left' ≤ 1048576 → 0 ≤ (F58 a.Links left') → (F58 a.Links left') ≤ left' => (fun gv2 : 0 ≤ left' → left' ≤ 1048576 → 0 ≤ (F58 a.Links left') → a.Links.length ≤ 1000000000 => ai (fun h3 : (decide ((F58 a.Links left') < 0)) = true => (fun _ : (F58 a.Links left') < 0 => (fun hF : ((-1) : Int) = (F24 a left') => ai (congrArg (fun r : Int => (.int .i64 r : Value)) hF) (trivial)) (condT h3 (rfl))) (of_decide_eq_true h3)) (fun h3 : (decide ((F58 a.Links left') < 0)) = false => (fun _ : ¬ (F58 a.Links left') < 0 => ai ((ai ((by omega : 0 ≤ (F58 a.Links left'))) ((by omega : (F58 a.Links left') ≤ 1048576)))) (ai ((Imp.refl (.l 2 eLabBox a.Boxes))) (ai ((Imp.refl (.v (vI (F58 a.Links left'))))) ((fun gv4 : 0 ≤ (F58 a.Links left') → (F58 a.Links left') ≤ 1048576 → 0 ≤ (F59 a.Boxes (F58 a.Links left')) → (F59 a.Boxes (F58 a.Links left')) ≤ (F58 a.Links left') => (fun gv5 : 0 ≤ (F58 a.Links left') → (F58 a.Links left') ≤ 1048576 → 0 ≤ (F59 a.Boxes (F58 a.Links left')) → a.Boxes.length ≤ 1000000000 => (fun gv6 : 0 ≤ (F58 a.Links left') → (F58 a.Links left') ≤ 1048576 → 0 ≤ (F59 a.Boxes (F58 a.Links left')) → ∀ k : Nat, (a.Boxes.getD k default).Rows.length ≤ 1000000000 => (fun gv7 : 0 ≤ (F58 a.Links left') → (F58 a.Links left') ≤ 1048576 → 0 ≤ (F59 a.Boxes (F58 a.Links left')) → ∀ k : Nat, (a.Boxes.getD k default).Guards.length ≤ 1000000000 => ai (fun h8 : (decide ((F59 a.Boxes (F58 a.Links left')) < 0)) = true => (fun _ : (F59 a.Boxes (F58 a.Links left')) < 0 => (fun hF : ((-1) : Int) = (F24 a left') => ai (congrArg (fun r : Int => (.int .i64 r : Value)) hF) (trivial)) (condF h3 (condT h8 (rfl)))) (of_decide_eq_true h8)) (fun h8 : (decide ((F59 a.Boxes (F58 a.Links left')) < 0)) = false => (fun _ : ¬ (F59 a.Boxes (F58 a.Links left')) < 0 => (fun hF : ((F59 a.Boxes (F58 a.Links left')) : Int) = (F24 a left') => ai (congrArg (fun r : Int => (.int .i64 r : Value)) hF) (trivial)) (condF h3 (condF h8 (rfl)))) (of_decide_eq_false h8))) (g59_3 a.Boxes (F58 a.Links left'))) (g59_2 a.Boxes (F58 a.Links left'))) (g59_1 a.Boxes (F58 a.Links left'))) (g59_0 a.Boxes (F58 a.Links left')))))) (of_decide_eq_false h3))) (g58_1 a.Links left')) (g58_0 a.Links left'))))) hp.1 hp.2) (by kernel_rfl)
theorem gb24 (a : LabNet) (left' : Int) : 0 ≤ left' → left' ≤ 1048576 → 0 ≤ (F24 a left') → (F24 a left') ≤ left' ∧ (a.Links.length ≤ 1000000000) ∧ (a.Boxes.length ≤ 1000000000) ∧ (∀ k : Nat, (a.Boxes.getD k default).Rows.length ≤ 1000000000) ∧ (∀ k : Nat, (a.Boxes.getD k default).Guards.length ≤ 1000000000) := by
  intro h0 h1 h2
  simp only [F24] at h2 ⊢
  rcases Classical.em ((F58 a.Links left') < 0) with hq0 | hq0
  · rw [decide_eq_true hq0, cond_true] at h2; exact absurd h2 (by decide)
  rw [decide_eq_false hq0, cond_false] at h2 ⊢
  have gq0 := gb58 a.Links left' (by omega) (by omega) (by omega)
  have lq0 := gq0.1
  rcases Classical.em ((F59 a.Boxes (F58 a.Links left')) < 0) with hq1 | hq1
  · rw [decide_eq_true hq1, cond_true] at h2; exact absurd h2 (by decide)
  rw [decide_eq_false hq1, cond_false] at h2 ⊢
  have gq1 := gb59 a.Boxes (F58 a.Links left') (by omega) (by omega) (by omega)
  have lq1 := gq1.1
  exact ⟨by omega, gq0.2, gq1.2.1, gq1.2.2.1, gq1.2.2.2⟩
theorem g24_0 (a : LabNet) (left' : Int) : 0 ≤ left' → left' ≤ 1048576 → 0 ≤ (F24 a left') → (F24 a left') ≤ left' := by
  intro h0 h1 h2; exact (gb24 a left' h0 h1 h2).1
theorem g24_1 (a : LabNet) (left' : Int) : 0 ≤ left' → left' ≤ 1048576 → 0 ≤ (F24 a left') → a.Links.length ≤ 1000000000 := by
  intro h0 h1 h2; exact (gb24 a left' h0 h1 h2).2.1
theorem g24_2 (a : LabNet) (left' : Int) : 0 ≤ left' → left' ≤ 1048576 → 0 ≤ (F24 a left') → a.Boxes.length ≤ 1000000000 := by
  intro h0 h1 h2; exact (gb24 a left' h0 h1 h2).2.2.1
theorem g24_3 (a : LabNet) (left' : Int) : 0 ≤ left' → left' ≤ 1048576 → 0 ≤ (F24 a left') → ∀ k : Nat, (a.Boxes.getD k default).Rows.length ≤ 1000000000 := by
  intro h0 h1 h2; exact (gb24 a left' h0 h1 h2).2.2.2.1
theorem g24_4 (a : LabNet) (left' : Int) : 0 ≤ left' → left' ≤ 1048576 → 0 ≤ (F24 a left') → ∀ k : Nat, (a.Boxes.getD k default).Guards.length ≤ 1000000000 := by
  intro h0 h1 h2; exact (gb24 a left' h0 h1 h2).2.2.2.2
def F100 (a : LabLink) : LabLink :=
  a
def S100 (R : LabLink) (a : LabLink) : Spec := ⟨[.r (.g (eLabLink a))], .ag [.v (vI R.A), .v (vI R.B)], True⟩
theorem ok100 (a : LabLink) : (S100 (F100 a) a).ok Tryz.prog 100 :=
  fnG_ok mixed (fn := Tryz.f100) (ct := .seq (.no) (.seq (.no) (.seq (.no) (.seq (.no) (.seq (.no) (.no)))))) Tryz.func100 (fun (_ : True) => (fun hF : (a : LabLink) = (F100 a) => ai (congrArg (fun r : LabLink => (.int .i64 r.A : Value)) hF) (ai (congrArg (fun r : LabLink => (.int .i64 r.B : Value)) hF) (trivial))) (rfl)) (by kernel_rfl)
theorem as100 (a : LabLink) : F100 a = (a) := by
  rfl
theorem oa100 (a : LabLink) : (S100 (a) a).ok Tryz.prog 100 := by
  intro hp; have h := ok100 a hp; rw [as100 a] at h; exact h
def F60_s0 (a : List LabLink) : (Int × List LabLink) → Lp (Int × List LabLink) (List LabLink) := fun (i40, xs) =>
  bif (decide (i40 < (a.length : Int))) then (.next ((i40 + 1), (xs.set (i40).toNat (a.getD (Int.toNat i40) default)))) else (.done (i40, xs))
def F60 (a : List LabLink) : List LabLink :=
  (runL (F60_s0 a) ((Int.toNat ((a.length : Int) - 0)) + 1) (0, (List.replicate (Int.toNat (a.length : Int)) ((⟨0, 0⟩ : LabLink) : LabLink)))).fin (fun r => r) (fun (i40, xs) => xs)
def S60 (R : List LabLink) (a : List LabLink) : Spec := ⟨[.r (.c (.l 2 eLabLink a))], .ow (.l 2 eLabLink R), a.length ≤ 1000000000⟩
theorem ok60 (a : List LabLink) : (S60 (F60 a) a).ok Tryz.prog 60 :=
  fnG_ok mixed (fn := Tryz.f60) (ct := .seqk [(0, 0)] (.no) (.seq (.reg [(2, .dat (.l 2 eLabLink (List.replicate (Int.toNat (a.length : Int)) ((⟨0, 0⟩ : LabLink) : LabLink))))]) (.seq (.seqk [(0, 0), (3, 0)] (.no) (.blk (.loop (ι := Nat × (Int × List LabLink)) (fun i => (fun (i40 : Int) (xs : List LabLink) => (⟨[(0, some (.h 0 0)), (3, some (.h 1 0)), (4, some (.v (vI i40)))], [(0, some (.shr none (.l 2 eLabLink a))), (1, some (.own 1 (.l 2 eLabLink xs)))], 2⟩ : St)) i.2.1 i.2.2) (fun i => runL (F60_s0 a) i.1 i.2 = (runL (F60_s0 a) ((Int.toNat ((a.length : Int) - 0)) + 1) (0, (List.replicate (Int.toNat (a.length : Int)) ((⟨0, 0⟩ : LabLink) : LabLink)))) ∧ (fun (i40 : Int) (xs : List LabLink) => (Int.toNat ((a.length : Int) - i40) < i.1 ∧ (0 : Int) ≤ i40 ∧ xs.length = (List.replicate (Int.toNat (a.length : Int)) ((⟨0, 0⟩ : LabLink) : LabLink)).length)) i.2.1 i.2.2) (fun i => i.1) (((Int.toNat ((a.length : Int) - 0)) + 1), (0, (List.replicate (Int.toNat (a.length : Int)) ((⟨0, 0⟩ : LabLink) : LabLink)))) (fun i => (fun (i40 : Int) (xs : List LabLink) => (.seq (.seq (.no) (.cond (.no) (.no))) (.seq (.blk (.reg [(6, .call 100 (S100 (a.getD (Int.toNat i40) default) (a.getD (Int.toNat i40) default)) (oa100 (a.getD (Int.toNat i40) default)) none), (8, .dat (.l 2 eLabLink (xs.set (i40).toNat (a.getD (Int.toNat i40) default))))])) (.reg [(1, .bnd)])))) i.2.1 i.2.2)))) (.seq (.no) (.no))))) Tryz.func60 (fun (hpre0 : a.length ≤ 1000000000) => fun (_ : a.length ≤ 9223372036854775807) => ai ((by first | omega | (simp only [lens] at * <;> omega) : 0 ≤ (a.length : Int) ∧ (a.length : Int) ≤ (a.length : Int) ∧ (16 : Int) * (a.length : Int) ≤ 281474976710656)) (ai ((MakeOK.mk eLabLink ((⟨0, 0⟩ : LabLink) : LabLink) (by exact ai (Imp.refl _) (ai (Imp.refl _) (trivial))) : MakeOK 2 [.v (vI 0), .v (vI 0)] (Int.toNat (a.length : Int)) (.l 2 eLabLink (List.replicate (Int.toNat (a.length : Int)) ((⟨0, 0⟩ : LabLink) : LabLink))))) (fun (_ : a.length ≤ 9223372036854775807) => fun (_ : (List.replicate (Int.toNat (a.length : Int)) ((⟨0, 0⟩ : LabLink) : LabLink)).length ≤ 9223372036854775807) => ai (ai (rfl) (ai ((Imp.refl _)) (ai ((Imp.refl _)) ((ai (rfl : runL (F60_s0 a) ((Int.toNat ((a.length : Int) - 0)) + 1) (0, (List.replicate (Int.toNat (a.length : Int)) ((⟨0, 0⟩ : LabLink) : LabLink))) = (runL (F60_s0 a) ((Int.toNat ((a.length : Int) - 0)) + 1) (0, (List.replicate (Int.toNat (a.length : Int)) ((⟨0, 0⟩ : LabLink) : LabLink))))) (ai ((Nat.lt_succ_self _ : Int.toNat ((a.length : Int) - 0) < ((Int.toNat ((a.length : Int) - 0)) + 1))) (ai ((by first | omega | (simp only [lens] at * <;> omega) : (0 : Int) ≤ 0)) ((by first | omega | (simp only [lens] at * <;> omega) : (List.replicate (Int.toNat (a.length : Int)) ((⟨0, 0⟩ : LabLink) : LabLink)).length = (List.replicate (Int.toNat (a.length : Int)) ((⟨0, 0⟩ : LabLink) : LabLink)).length)))))))) : ((.int .i64 0 : Value) = .int .i64 0) ∧ (Imp (.l 2 eLabLink a) (.l 2 eLabLink a)) ∧ (Imp (.l 2 eLabLink (List.replicate (Int.toNat (a.length : Int)) ((⟨0, 0⟩ : LabLink) : LabLink))) (.l 2 eLabLink (List.replicate (Int.toNat (a.length : Int)) ((⟨0, 0⟩ : LabLink) : LabLink)))) ∧ (runL (F60_s0 a) ((Int.toNat ((a.length : Int) - 0)) + 1) (0, (List.replicate (Int.toNat (a.length : Int)) ((⟨0, 0⟩ : LabLink) : LabLink))) = (runL (F60_s0 a) ((Int.toNat ((a.length : Int) - 0)) + 1) (0, (List.replicate (Int.toNat (a.length : Int)) ((⟨0, 0⟩ : LabLink) : LabLink)))) ∧ Int.toNat ((a.length : Int) - 0) < ((Int.toNat ((a.length : Int) - 0)) + 1) ∧ (0 : Int) ≤ 0 ∧ (List.replicate (Int.toNat (a.length : Int)) ((⟨0, 0⟩ : LabLink) : LabLink)).length = (List.replicate (Int.toNat (a.length : Int)) ((⟨0, 0⟩ : LabLink) : LabLink)).length)) (fun (i0 : Nat × (Int × List LabLink)) (hi0 : runL (F60_s0 a) i0.1 i0.2 = (runL (F60_s0 a) ((Int.toNat ((a.length : Int) - 0)) + 1) (0, (List.replicate (Int.toNat (a.length : Int)) ((⟨0, 0⟩ : LabLink) : LabLink)))) ∧ (fun (i40 : Int) (xs : List LabLink) => (Int.toNat ((a.length : Int) - i40) < i0.1 ∧ (0 : Int) ≤ i40 ∧ xs.length = (List.replicate (Int.toNat (a.length : Int)) ((⟨0, 0⟩ : LabLink) : LabLink)).length)) i0.2.1 i0.2.2) => (fun (m0 : Nat) (i40 : Int) (xs : List LabLink) (hI0 : runL (F60_s0 a) (m0 + 1) (i40, xs) = (runL (F60_s0 a) ((Int.toNat ((a.length : Int) - 0)) + 1) (0, (List.replicate (Int.toNat (a.length : Int)) ((⟨0, 0⟩ : LabLink) : LabLink))))) (_ : Int.toNat ((a.length : Int) - i40) < m0 + 1) (hl0 : m0 < i0.1) (_ : (0 : Int) ≤ i40) (_ : xs.length = (List.replicate (Int.toNat (a.length : Int)) ((⟨0, 0⟩ : LabLink) : LabLink)).length) => ai (fun h2 : (decide (i40 < (a.length : Int))) = true => (fun _ : i40 < (a.length : Int) => ai ((by first | omega | (simp only [lens] at * <;> omega) : 0 ≤ i40 ∧ i40 < (a.length : Int))) (ai (trivial) (ai ((Imps.refl (eLabLink (a.getD (Int.toNat i40) default)))) (ai ((by first | omega | (simp only [lens] at * <;> omega) : 0 ≤ i40 ∧ i40 < (xs.length : Int))) (ai ((SetOK.mk eLabLink xs (a.getD (Int.toNat i40) default) rfl (by exact ai (Imp.refl _) (ai (Imp.refl _) (trivial))) : SetOK (.l 2 eLabLink xs) (i40).toNat (eLabLink (xs.getD (Int.toNat i40) default)) [.v (vI ((a.getD (Int.toNat i40) default).A)), .v (vI ((a.getD (Int.toNat i40) default).B))] (.l 2 eLabLink (xs.set (i40).toNat (a.getD (Int.toNat i40) default))))) (ai ((by unfold i64ok; first | omega | (simp only [lens] at * <;> omega) : i64ok (i40 + 1))) (Exists.intro (p := fun j : Nat × (Int × List LabLink) => (fun (i40_ : Int) (xs_ : List LabLink) => (((.int .i64 (i40 + 1) : Value) = .int .i64 i40_) ∧ (Imp (.l 2 eLabLink a) (.l 2 eLabLink a)) ∧ (Imp (.l 2 eLabLink (xs.set (i40).toNat (a.getD (Int.toNat i40) default))) (.l 2 eLabLink xs_)) ∧ ((runL (F60_s0 a) j.1 j.2 = (runL (F60_s0 a) ((Int.toNat ((a.length : Int) - 0)) + 1) (0, (List.replicate (Int.toNat (a.length : Int)) ((⟨0, 0⟩ : LabLink) : LabLink)))) ∧ Int.toNat ((a.length : Int) - i40_) < j.1 ∧ (0 : Int) ≤ i40_ ∧ xs_.length = (List.replicate (Int.toNat (a.length : Int)) ((⟨0, 0⟩ : LabLink) : LabLink)).length) ∧ j.1 < i0.1))) j.2.1 j.2.2) (m0, ((i40 + 1), (xs.set (i40).toNat (a.getD (Int.toNat i40) default)))) (ai (rfl) (ai ((Imp.refl _)) (ai ((Imp.refl _)) (ai (ai (runL_next hI0 (condT h2 (rfl))) (ai ((by first | omega | (simp only [lens] at * <;> omega) : Int.toNat ((a.length : Int) - (i40 + 1)) < m0)) (ai ((by first | omega | (simp only [lens] at * <;> omega) : (0 : Int) ≤ (i40 + 1))) ((by first | omega | (simp only [lens] at * <;> omega) : (xs.set (i40).toNat (a.getD (Int.toNat i40) default)).length = (List.replicate (Int.toNat (a.length : Int)) ((⟨0, 0⟩ : LabLink) : LabLink)).length))))) hl0))))))))))) (of_decide_eq_true h2)) (fun h2 : (decide (i40 < (a.length : Int))) = false => (fun _ : ¬ i40 < (a.length : Int) => (fun hD0_3 : (runL (F60_s0 a) ((Int.toNat ((a.length : Int) - 0)) + 1) (0, (List.replicate (Int.toNat (a.length : Int)) ((⟨0, 0⟩ : LabLink) : LabLink)))) = Lp.done (i40, xs) => (fun hF : (xs : List LabLink) = (F60 a) => ai (Imp.of_eq (congrArg (fun r : List LabLink => Dat.l 2 eLabLink r) hF)) (trivial)) (finD hD0_3 (rfl))) (runL_done hI0 (condF h2 (rfl)))) (of_decide_eq_false h2))) (i0.1 - 1) i0.2.1 i0.2.2 (hd1 hi0.1 hi0.2.1) (hd2 hi0.2.1) (hd3 hi0.2.1) hi0.2.2.1 hi0.2.2.2)))) (by kernel_rfl)
theorem as60 (a : List LabLink) : F60 a = (a) := by
  exact to_loop (fun x => x) (fun _ => rfl) a _ (by simp) (F60_s0 a) (fun i xs => rfl)
theorem oa60 (a : List LabLink) : (S60 (a) a).ok Tryz.prog 60 := by
  intro hp; have h := ok60 a hp; rw [as60 a] at h; exact h
def F147 (a : LabRow) : LabRow :=
  a
def S147 (R : LabRow) (a : LabRow) : Spec := ⟨[.r (.g (eLabRow a))], .ag [.v (vI R.In), .v (vI R.Next), .v (vI R.Out)], True⟩
theorem ok147 (a : LabRow) : (S147 (F147 a) a).ok Tryz.prog 147 :=
  fnG_ok mixed (fn := Tryz.f147) (ct := .seq (.no) (.seq (.no) (.seq (.no) (.seq (.no) (.seq (.no) (.seq (.no) (.no))))))) Tryz.func147 (fun (_ : True) => (fun hF : (a : LabRow) = (F147 a) => ai (congrArg (fun r : LabRow => (.int .i64 r.In : Value)) hF) (ai (congrArg (fun r : LabRow => (.int .i64 r.Next : Value)) hF) (ai (congrArg (fun r : LabRow => (.int .i64 r.Out : Value)) hF) (trivial)))) (rfl)) (by kernel_rfl)
theorem as147 (a : LabRow) : F147 a = (a) := by
  rfl
theorem oa147 (a : LabRow) : (S147 (a) a).ok Tryz.prog 147 := by
  intro hp; have h := ok147 a hp; rw [as147 a] at h; exact h
def F121_s0 (a : List LabRow) : (Int × List LabRow) → Lp (Int × List LabRow) (List LabRow) := fun (i40, xs) =>
  bif (decide (i40 < (a.length : Int))) then (.next ((i40 + 1), (xs.set (i40).toNat (a.getD (Int.toNat i40) default)))) else (.done (i40, xs))
def F121 (a : List LabRow) : List LabRow :=
  (runL (F121_s0 a) ((Int.toNat ((a.length : Int) - 0)) + 1) (0, (List.replicate (Int.toNat (a.length : Int)) ((⟨0, 0, 0⟩ : LabRow) : LabRow)))).fin (fun r => r) (fun (i40, xs) => xs)
def S121 (R : List LabRow) (a : List LabRow) : Spec := ⟨[.r (.c (.l 3 eLabRow a))], .ow (.l 3 eLabRow R), a.length ≤ 1000000000⟩
theorem ok121 (a : List LabRow) : (S121 (F121 a) a).ok Tryz.prog 121 :=
  fnG_ok mixed (fn := Tryz.f121) (ct := .seqk [(0, 0)] (.no) (.seq (.reg [(2, .dat (.l 3 eLabRow (List.replicate (Int.toNat (a.length : Int)) ((⟨0, 0, 0⟩ : LabRow) : LabRow))))]) (.seq (.seqk [(0, 0), (3, 0)] (.no) (.blk (.loop (ι := Nat × (Int × List LabRow)) (fun i => (fun (i40 : Int) (xs : List LabRow) => (⟨[(0, some (.h 0 0)), (3, some (.h 1 0)), (4, some (.v (vI i40)))], [(0, some (.shr none (.l 3 eLabRow a))), (1, some (.own 1 (.l 3 eLabRow xs)))], 2⟩ : St)) i.2.1 i.2.2) (fun i => runL (F121_s0 a) i.1 i.2 = (runL (F121_s0 a) ((Int.toNat ((a.length : Int) - 0)) + 1) (0, (List.replicate (Int.toNat (a.length : Int)) ((⟨0, 0, 0⟩ : LabRow) : LabRow)))) ∧ (fun (i40 : Int) (xs : List LabRow) => (Int.toNat ((a.length : Int) - i40) < i.1 ∧ (0 : Int) ≤ i40 ∧ xs.length = (List.replicate (Int.toNat (a.length : Int)) ((⟨0, 0, 0⟩ : LabRow) : LabRow)).length)) i.2.1 i.2.2) (fun i => i.1) (((Int.toNat ((a.length : Int) - 0)) + 1), (0, (List.replicate (Int.toNat (a.length : Int)) ((⟨0, 0, 0⟩ : LabRow) : LabRow)))) (fun i => (fun (i40 : Int) (xs : List LabRow) => (.seq (.seq (.no) (.cond (.no) (.no))) (.seq (.blk (.reg [(6, .call 147 (S147 (a.getD (Int.toNat i40) default) (a.getD (Int.toNat i40) default)) (oa147 (a.getD (Int.toNat i40) default)) none), (8, .dat (.l 3 eLabRow (xs.set (i40).toNat (a.getD (Int.toNat i40) default))))])) (.reg [(1, .bnd)])))) i.2.1 i.2.2)))) (.seq (.no) (.no))))) Tryz.func121 (fun (hpre0 : a.length ≤ 1000000000) => fun (_ : a.length ≤ 9223372036854775807) => ai ((by first | omega | (simp only [lens] at * <;> omega) : 0 ≤ (a.length : Int) ∧ (a.length : Int) ≤ (a.length : Int) ∧ (24 : Int) * (a.length : Int) ≤ 281474976710656)) (ai ((MakeOK.mk eLabRow ((⟨0, 0, 0⟩ : LabRow) : LabRow) (by exact ai (Imp.refl _) (ai (Imp.refl _) (ai (Imp.refl _) (trivial)))) : MakeOK 3 [.v (vI 0), .v (vI 0), .v (vI 0)] (Int.toNat (a.length : Int)) (.l 3 eLabRow (List.replicate (Int.toNat (a.length : Int)) ((⟨0, 0, 0⟩ : LabRow) : LabRow))))) (fun (_ : a.length ≤ 9223372036854775807) => fun (_ : (List.replicate (Int.toNat (a.length : Int)) ((⟨0, 0, 0⟩ : LabRow) : LabRow)).length ≤ 9223372036854775807) => ai (ai (rfl) (ai ((Imp.refl _)) (ai ((Imp.refl _)) ((ai (rfl : runL (F121_s0 a) ((Int.toNat ((a.length : Int) - 0)) + 1) (0, (List.replicate (Int.toNat (a.length : Int)) ((⟨0, 0, 0⟩ : LabRow) : LabRow))) = (runL (F121_s0 a) ((Int.toNat ((a.length : Int) - 0)) + 1) (0, (List.replicate (Int.toNat (a.length : Int)) ((⟨0, 0, 0⟩ : LabRow) : LabRow))))) (ai ((Nat.lt_succ_self _ : Int.toNat ((a.length : Int) - 0) < ((Int.toNat ((a.length : Int) - 0)) + 1))) (ai ((by first | omega | (simp only [lens] at * <;> omega) : (0 : Int) ≤ 0)) ((by first | omega | (simp only [lens] at * <;> omega) : (List.replicate (Int.toNat (a.length : Int)) ((⟨0, 0, 0⟩ : LabRow) : LabRow)).length = (List.replicate (Int.toNat (a.length : Int)) ((⟨0, 0, 0⟩ : LabRow) : LabRow)).length)))))))) : ((.int .i64 0 : Value) = .int .i64 0) ∧ (Imp (.l 3 eLabRow a) (.l 3 eLabRow a)) ∧ (Imp (.l 3 eLabRow (List.replicate (Int.toNat (a.length : Int)) ((⟨0, 0, 0⟩ : LabRow) : LabRow))) (.l 3 eLabRow (List.replicate (Int.toNat (a.length : Int)) ((⟨0, 0, 0⟩ : LabRow) : LabRow)))) ∧ (runL (F121_s0 a) ((Int.toNat ((a.length : Int) - 0)) + 1) (0, (List.replicate (Int.toNat (a.length : Int)) ((⟨0, 0, 0⟩ : LabRow) : LabRow))) = (runL (F121_s0 a) ((Int.toNat ((a.length : Int) - 0)) + 1) (0, (List.replicate (Int.toNat (a.length : Int)) ((⟨0, 0, 0⟩ : LabRow) : LabRow)))) ∧ Int.toNat ((a.length : Int) - 0) < ((Int.toNat ((a.length : Int) - 0)) + 1) ∧ (0 : Int) ≤ 0 ∧ (List.replicate (Int.toNat (a.length : Int)) ((⟨0, 0, 0⟩ : LabRow) : LabRow)).length = (List.replicate (Int.toNat (a.length : Int)) ((⟨0, 0, 0⟩ : LabRow) : LabRow)).length)) (fun (i0 : Nat × (Int × List LabRow)) (hi0 : runL (F121_s0 a) i0.1 i0.2 = (runL (F121_s0 a) ((Int.toNat ((a.length : Int) - 0)) + 1) (0, (List.replicate (Int.toNat (a.length : Int)) ((⟨0, 0, 0⟩ : LabRow) : LabRow)))) ∧ (fun (i40 : Int) (xs : List LabRow) => (Int.toNat ((a.length : Int) - i40) < i0.1 ∧ (0 : Int) ≤ i40 ∧ xs.length = (List.replicate (Int.toNat (a.length : Int)) ((⟨0, 0, 0⟩ : LabRow) : LabRow)).length)) i0.2.1 i0.2.2) => (fun (m0 : Nat) (i40 : Int) (xs : List LabRow) (hI0 : runL (F121_s0 a) (m0 + 1) (i40, xs) = (runL (F121_s0 a) ((Int.toNat ((a.length : Int) - 0)) + 1) (0, (List.replicate (Int.toNat (a.length : Int)) ((⟨0, 0, 0⟩ : LabRow) : LabRow))))) (_ : Int.toNat ((a.length : Int) - i40) < m0 + 1) (hl0 : m0 < i0.1) (_ : (0 : Int) ≤ i40) (_ : xs.length = (List.replicate (Int.toNat (a.length : Int)) ((⟨0, 0, 0⟩ : LabRow) : LabRow)).length) => ai (fun h2 : (decide (i40 < (a.length : Int))) = true => (fun _ : i40 < (a.length : Int) => ai ((by first | omega | (simp only [lens] at * <;> omega) : 0 ≤ i40 ∧ i40 < (a.length : Int))) (ai (trivial) (ai ((Imps.refl (eLabRow (a.getD (Int.toNat i40) default)))) (ai ((by first | omega | (simp only [lens] at * <;> omega) : 0 ≤ i40 ∧ i40 < (xs.length : Int))) (ai ((SetOK.mk eLabRow xs (a.getD (Int.toNat i40) default) rfl (by exact ai (Imp.refl _) (ai (Imp.refl _) (ai (Imp.refl _) (trivial)))) : SetOK (.l 3 eLabRow xs) (i40).toNat (eLabRow (xs.getD (Int.toNat i40) default)) [.v (vI ((a.getD (Int.toNat i40) default).In)), .v (vI ((a.getD (Int.toNat i40) default).Next)), .v (vI ((a.getD (Int.toNat i40) default).Out))] (.l 3 eLabRow (xs.set (i40).toNat (a.getD (Int.toNat i40) default))))) (ai ((by unfold i64ok; first | omega | (simp only [lens] at * <;> omega) : i64ok (i40 + 1))) (Exists.intro (p := fun j : Nat × (Int × List LabRow) => (fun (i40_ : Int) (xs_ : List LabRow) => (((.int .i64 (i40 + 1) : Value) = .int .i64 i40_) ∧ (Imp (.l 3 eLabRow a) (.l 3 eLabRow a)) ∧ (Imp (.l 3 eLabRow (xs.set (i40).toNat (a.getD (Int.toNat i40) default))) (.l 3 eLabRow xs_)) ∧ ((runL (F121_s0 a) j.1 j.2 = (runL (F121_s0 a) ((Int.toNat ((a.length : Int) - 0)) + 1) (0, (List.replicate (Int.toNat (a.length : Int)) ((⟨0, 0, 0⟩ : LabRow) : LabRow)))) ∧ Int.toNat ((a.length : Int) - i40_) < j.1 ∧ (0 : Int) ≤ i40_ ∧ xs_.length = (List.replicate (Int.toNat (a.length : Int)) ((⟨0, 0, 0⟩ : LabRow) : LabRow)).length) ∧ j.1 < i0.1))) j.2.1 j.2.2) (m0, ((i40 + 1), (xs.set (i40).toNat (a.getD (Int.toNat i40) default)))) (ai (rfl) (ai ((Imp.refl _)) (ai ((Imp.refl _)) (ai (ai (runL_next hI0 (condT h2 (rfl))) (ai ((by first | omega | (simp only [lens] at * <;> omega) : Int.toNat ((a.length : Int) - (i40 + 1)) < m0)) (ai ((by first | omega | (simp only [lens] at * <;> omega) : (0 : Int) ≤ (i40 + 1))) ((by first | omega | (simp only [lens] at * <;> omega) : (xs.set (i40).toNat (a.getD (Int.toNat i40) default)).length = (List.replicate (Int.toNat (a.length : Int)) ((⟨0, 0, 0⟩ : LabRow) : LabRow)).length))))) hl0))))))))))) (of_decide_eq_true h2)) (fun h2 : (decide (i40 < (a.length : Int))) = false => (fun _ : ¬ i40 < (a.length : Int) => (fun hD0_3 : (runL (F121_s0 a) ((Int.toNat ((a.length : Int) - 0)) + 1) (0, (List.replicate (Int.toNat (a.length : Int)) ((⟨0, 0, 0⟩ : LabRow) : LabRow)))) = Lp.done (i40, xs) => (fun hF : (xs : List LabRow) = (F121 a) => ai (Imp.of_eq (congrArg (fun r : List LabRow => Dat.l 3 eLabRow r) hF)) (trivial)) (finD hD0_3 (rfl))) (runL_done hI0 (condF h2 (rfl)))) (of_decide_eq_false h2))) (i0.1 - 1) i0.2.1 i0.2.2 (hd1 hi0.1 hi0.2.1) (hd2 hi0.2.1) (hd3 hi0.2.1) hi0.2.2.1 hi0.2.2.2)))) (by kernel_rfl)
theorem as121 (a : List LabRow) : F121 a = (a) := by
  exact to_loop (fun x => x) (fun _ => rfl) a _ (by simp) (F121_s0 a) (fun i xs => rfl)
theorem oa121 (a : List LabRow) : (S121 (a) a).ok Tryz.prog 121 := by
  intro hp; have h := ok121 a hp; rw [as121 a] at h; exact h
def F148 (a : LabVia) : LabVia :=
  a
def S148 (R : LabVia) (a : LabVia) : Spec := ⟨[.r (.g (eLabVia a))], .ag [.v (vI R.To), .v (vI R.Via), .v (vI R.Push)], True⟩
theorem ok148 (a : LabVia) : (S148 (F148 a) a).ok Tryz.prog 148 :=
  fnG_ok mixed (fn := Tryz.f148) (ct := .seq (.no) (.seq (.no) (.seq (.no) (.seq (.no) (.seq (.no) (.seq (.no) (.no))))))) Tryz.func148 (fun (_ : True) => (fun hF : (a : LabVia) = (F148 a) => ai (congrArg (fun r : LabVia => (.int .i64 r.To : Value)) hF) (ai (congrArg (fun r : LabVia => (.int .i64 r.Via : Value)) hF) (ai (congrArg (fun r : LabVia => (.int .i64 r.Push : Value)) hF) (trivial)))) (rfl)) (by kernel_rfl)
theorem as148 (a : LabVia) : F148 a = (a) := by
  rfl
theorem oa148 (a : LabVia) : (S148 (a) a).ok Tryz.prog 148 := by
  intro hp; have h := ok148 a hp; rw [as148 a] at h; exact h
def F122_s0 (a : List LabVia) : (Int × List LabVia) → Lp (Int × List LabVia) (List LabVia) := fun (i40, xs) =>
  bif (decide (i40 < (a.length : Int))) then (.next ((i40 + 1), (xs.set (i40).toNat (a.getD (Int.toNat i40) default)))) else (.done (i40, xs))
def F122 (a : List LabVia) : List LabVia :=
  (runL (F122_s0 a) ((Int.toNat ((a.length : Int) - 0)) + 1) (0, (List.replicate (Int.toNat (a.length : Int)) ((⟨0, 0, 0⟩ : LabVia) : LabVia)))).fin (fun r => r) (fun (i40, xs) => xs)
def S122 (R : List LabVia) (a : List LabVia) : Spec := ⟨[.r (.c (.l 3 eLabVia a))], .ow (.l 3 eLabVia R), a.length ≤ 1000000000⟩
theorem ok122 (a : List LabVia) : (S122 (F122 a) a).ok Tryz.prog 122 :=
  fnG_ok mixed (fn := Tryz.f122) (ct := .seqk [(0, 0)] (.no) (.seq (.reg [(2, .dat (.l 3 eLabVia (List.replicate (Int.toNat (a.length : Int)) ((⟨0, 0, 0⟩ : LabVia) : LabVia))))]) (.seq (.seqk [(0, 0), (3, 0)] (.no) (.blk (.loop (ι := Nat × (Int × List LabVia)) (fun i => (fun (i40 : Int) (xs : List LabVia) => (⟨[(0, some (.h 0 0)), (3, some (.h 1 0)), (4, some (.v (vI i40)))], [(0, some (.shr none (.l 3 eLabVia a))), (1, some (.own 1 (.l 3 eLabVia xs)))], 2⟩ : St)) i.2.1 i.2.2) (fun i => runL (F122_s0 a) i.1 i.2 = (runL (F122_s0 a) ((Int.toNat ((a.length : Int) - 0)) + 1) (0, (List.replicate (Int.toNat (a.length : Int)) ((⟨0, 0, 0⟩ : LabVia) : LabVia)))) ∧ (fun (i40 : Int) (xs : List LabVia) => (Int.toNat ((a.length : Int) - i40) < i.1 ∧ (0 : Int) ≤ i40 ∧ xs.length = (List.replicate (Int.toNat (a.length : Int)) ((⟨0, 0, 0⟩ : LabVia) : LabVia)).length)) i.2.1 i.2.2) (fun i => i.1) (((Int.toNat ((a.length : Int) - 0)) + 1), (0, (List.replicate (Int.toNat (a.length : Int)) ((⟨0, 0, 0⟩ : LabVia) : LabVia)))) (fun i => (fun (i40 : Int) (xs : List LabVia) => (.seq (.seq (.no) (.cond (.no) (.no))) (.seq (.blk (.reg [(6, .call 148 (S148 (a.getD (Int.toNat i40) default) (a.getD (Int.toNat i40) default)) (oa148 (a.getD (Int.toNat i40) default)) none), (8, .dat (.l 3 eLabVia (xs.set (i40).toNat (a.getD (Int.toNat i40) default))))])) (.reg [(1, .bnd)])))) i.2.1 i.2.2)))) (.seq (.no) (.no))))) Tryz.func122 (fun (hpre0 : a.length ≤ 1000000000) => fun (_ : a.length ≤ 9223372036854775807) => ai ((by first | omega | (simp only [lens] at * <;> omega) : 0 ≤ (a.length : Int) ∧ (a.length : Int) ≤ (a.length : Int) ∧ (24 : Int) * (a.length : Int) ≤ 281474976710656)) (ai ((MakeOK.mk eLabVia ((⟨0, 0, 0⟩ : LabVia) : LabVia) (by exact ai (Imp.refl _) (ai (Imp.refl _) (ai (Imp.refl _) (trivial)))) : MakeOK 3 [.v (vI 0), .v (vI 0), .v (vI 0)] (Int.toNat (a.length : Int)) (.l 3 eLabVia (List.replicate (Int.toNat (a.length : Int)) ((⟨0, 0, 0⟩ : LabVia) : LabVia))))) (fun (_ : a.length ≤ 9223372036854775807) => fun (_ : (List.replicate (Int.toNat (a.length : Int)) ((⟨0, 0, 0⟩ : LabVia) : LabVia)).length ≤ 9223372036854775807) => ai (ai (rfl) (ai ((Imp.refl _)) (ai ((Imp.refl _)) ((ai (rfl : runL (F122_s0 a) ((Int.toNat ((a.length : Int) - 0)) + 1) (0, (List.replicate (Int.toNat (a.length : Int)) ((⟨0, 0, 0⟩ : LabVia) : LabVia))) = (runL (F122_s0 a) ((Int.toNat ((a.length : Int) - 0)) + 1) (0, (List.replicate (Int.toNat (a.length : Int)) ((⟨0, 0, 0⟩ : LabVia) : LabVia))))) (ai ((Nat.lt_succ_self _ : Int.toNat ((a.length : Int) - 0) < ((Int.toNat ((a.length : Int) - 0)) + 1))) (ai ((by first | omega | (simp only [lens] at * <;> omega) : (0 : Int) ≤ 0)) ((by first | omega | (simp only [lens] at * <;> omega) : (List.replicate (Int.toNat (a.length : Int)) ((⟨0, 0, 0⟩ : LabVia) : LabVia)).length = (List.replicate (Int.toNat (a.length : Int)) ((⟨0, 0, 0⟩ : LabVia) : LabVia)).length)))))))) : ((.int .i64 0 : Value) = .int .i64 0) ∧ (Imp (.l 3 eLabVia a) (.l 3 eLabVia a)) ∧ (Imp (.l 3 eLabVia (List.replicate (Int.toNat (a.length : Int)) ((⟨0, 0, 0⟩ : LabVia) : LabVia))) (.l 3 eLabVia (List.replicate (Int.toNat (a.length : Int)) ((⟨0, 0, 0⟩ : LabVia) : LabVia)))) ∧ (runL (F122_s0 a) ((Int.toNat ((a.length : Int) - 0)) + 1) (0, (List.replicate (Int.toNat (a.length : Int)) ((⟨0, 0, 0⟩ : LabVia) : LabVia))) = (runL (F122_s0 a) ((Int.toNat ((a.length : Int) - 0)) + 1) (0, (List.replicate (Int.toNat (a.length : Int)) ((⟨0, 0, 0⟩ : LabVia) : LabVia)))) ∧ Int.toNat ((a.length : Int) - 0) < ((Int.toNat ((a.length : Int) - 0)) + 1) ∧ (0 : Int) ≤ 0 ∧ (List.replicate (Int.toNat (a.length : Int)) ((⟨0, 0, 0⟩ : LabVia) : LabVia)).length = (List.replicate (Int.toNat (a.length : Int)) ((⟨0, 0, 0⟩ : LabVia) : LabVia)).length)) (fun (i0 : Nat × (Int × List LabVia)) (hi0 : runL (F122_s0 a) i0.1 i0.2 = (runL (F122_s0 a) ((Int.toNat ((a.length : Int) - 0)) + 1) (0, (List.replicate (Int.toNat (a.length : Int)) ((⟨0, 0, 0⟩ : LabVia) : LabVia)))) ∧ (fun (i40 : Int) (xs : List LabVia) => (Int.toNat ((a.length : Int) - i40) < i0.1 ∧ (0 : Int) ≤ i40 ∧ xs.length = (List.replicate (Int.toNat (a.length : Int)) ((⟨0, 0, 0⟩ : LabVia) : LabVia)).length)) i0.2.1 i0.2.2) => (fun (m0 : Nat) (i40 : Int) (xs : List LabVia) (hI0 : runL (F122_s0 a) (m0 + 1) (i40, xs) = (runL (F122_s0 a) ((Int.toNat ((a.length : Int) - 0)) + 1) (0, (List.replicate (Int.toNat (a.length : Int)) ((⟨0, 0, 0⟩ : LabVia) : LabVia))))) (_ : Int.toNat ((a.length : Int) - i40) < m0 + 1) (hl0 : m0 < i0.1) (_ : (0 : Int) ≤ i40) (_ : xs.length = (List.replicate (Int.toNat (a.length : Int)) ((⟨0, 0, 0⟩ : LabVia) : LabVia)).length) => ai (fun h2 : (decide (i40 < (a.length : Int))) = true => (fun _ : i40 < (a.length : Int) => ai ((by first | omega | (simp only [lens] at * <;> omega) : 0 ≤ i40 ∧ i40 < (a.length : Int))) (ai (trivial) (ai ((Imps.refl (eLabVia (a.getD (Int.toNat i40) default)))) (ai ((by first | omega | (simp only [lens] at * <;> omega) : 0 ≤ i40 ∧ i40 < (xs.length : Int))) (ai ((SetOK.mk eLabVia xs (a.getD (Int.toNat i40) default) rfl (by exact ai (Imp.refl _) (ai (Imp.refl _) (ai (Imp.refl _) (trivial)))) : SetOK (.l 3 eLabVia xs) (i40).toNat (eLabVia (xs.getD (Int.toNat i40) default)) [.v (vI ((a.getD (Int.toNat i40) default).To)), .v (vI ((a.getD (Int.toNat i40) default).Via)), .v (vI ((a.getD (Int.toNat i40) default).Push))] (.l 3 eLabVia (xs.set (i40).toNat (a.getD (Int.toNat i40) default))))) (ai ((by unfold i64ok; first | omega | (simp only [lens] at * <;> omega) : i64ok (i40 + 1))) (Exists.intro (p := fun j : Nat × (Int × List LabVia) => (fun (i40_ : Int) (xs_ : List LabVia) => (((.int .i64 (i40 + 1) : Value) = .int .i64 i40_) ∧ (Imp (.l 3 eLabVia a) (.l 3 eLabVia a)) ∧ (Imp (.l 3 eLabVia (xs.set (i40).toNat (a.getD (Int.toNat i40) default))) (.l 3 eLabVia xs_)) ∧ ((runL (F122_s0 a) j.1 j.2 = (runL (F122_s0 a) ((Int.toNat ((a.length : Int) - 0)) + 1) (0, (List.replicate (Int.toNat (a.length : Int)) ((⟨0, 0, 0⟩ : LabVia) : LabVia)))) ∧ Int.toNat ((a.length : Int) - i40_) < j.1 ∧ (0 : Int) ≤ i40_ ∧ xs_.length = (List.replicate (Int.toNat (a.length : Int)) ((⟨0, 0, 0⟩ : LabVia) : LabVia)).length) ∧ j.1 < i0.1))) j.2.1 j.2.2) (m0, ((i40 + 1), (xs.set (i40).toNat (a.getD (Int.toNat i40) default)))) (ai (rfl) (ai ((Imp.refl _)) (ai ((Imp.refl _)) (ai (ai (runL_next hI0 (condT h2 (rfl))) (ai ((by first | omega | (simp only [lens] at * <;> omega) : Int.toNat ((a.length : Int) - (i40 + 1)) < m0)) (ai ((by first | omega | (simp only [lens] at * <;> omega) : (0 : Int) ≤ (i40 + 1))) ((by first | omega | (simp only [lens] at * <;> omega) : (xs.set (i40).toNat (a.getD (Int.toNat i40) default)).length = (List.replicate (Int.toNat (a.length : Int)) ((⟨0, 0, 0⟩ : LabVia) : LabVia)).length))))) hl0))))))))))) (of_decide_eq_true h2)) (fun h2 : (decide (i40 < (a.length : Int))) = false => (fun _ : ¬ i40 < (a.length : Int) => (fun hD0_3 : (runL (F122_s0 a) ((Int.toNat ((a.length : Int) - 0)) + 1) (0, (List.replicate (Int.toNat (a.length : Int)) ((⟨0, 0, 0⟩ : LabVia) : LabVia)))) = Lp.done (i40, xs) => (fun hF : (xs : List LabVia) = (F122 a) => ai (Imp.of_eq (congrArg (fun r : List LabVia => Dat.l 3 eLabVia r) hF)) (trivial)) (finD hD0_3 (rfl))) (runL_done hI0 (condF h2 (rfl)))) (of_decide_eq_false h2))) (i0.1 - 1) i0.2.1 i0.2.2 (hd1 hi0.1 hi0.2.1) (hd2 hi0.2.1) (hd3 hi0.2.1) hi0.2.2.1 hi0.2.2.2)))) (by kernel_rfl)
theorem as122 (a : List LabVia) : F122 a = (a) := by
  exact to_loop (fun x => x) (fun _ => rfl) a _ (by simp) (F122_s0 a) (fun i xs => rfl)
theorem oa122 (a : List LabVia) : (S122 (a) a).ok Tryz.prog 122 := by
  intro hp; have h := ok122 a hp; rw [as122 a] at h; exact h
def F101 (a : LabBox) : LabBox :=
  a
def S101 (R : LabBox) (a : LabBox) : Spec := ⟨[.r (.g (eLabBox a))], .ag [.ow (.l 3 eLabRow R.Rows), .ow (.l 3 eLabVia R.Guards)], a.Rows.length ≤ 1000000000 ∧ a.Guards.length ≤ 1000000000⟩
theorem ok101 (a : LabBox) : (S101 (F101 a) a).ok Tryz.prog 101 :=
  fnG_ok mixed (fn := Tryz.f101) (ct := .seq (.no) (.seq (.no) (.seq (.reg [(2, .call 121 (S121 a.Rows a.Rows) (oa121 a.Rows) none)]) (.seq (.reg [(2, .call 122 (S122 a.Guards a.Guards) (oa122 a.Guards) none)]) (.seq (.no) (.no)))))) Tryz.func101 (fun (hp : a.Rows.length ≤ 1000000000 ∧ a.Guards.length ≤ 1000000000) => (fun (hpre0 : a.Rows.length ≤ 1000000000) (hpre1 : a.Guards.length ≤ 1000000000) => ai (((by omega : a.Rows.length ≤ 1000000000))) (ai ((Imp.refl (.l 3 eLabRow a.Rows))) (ai (((by omega : a.Guards.length ≤ 1000000000))) (ai ((Imp.refl (.l 3 eLabVia a.Guards))) ((fun hF : (a : LabBox) = (F101 a) => ai (Imp.of_eq (congrArg (fun r : LabBox => Dat.l 3 eLabRow r.Rows) hF)) (ai (Imp.of_eq (congrArg (fun r : LabBox => Dat.l 3 eLabVia r.Guards) hF)) (trivial))) (rfl)))))) hp.1 hp.2) (by kernel_rfl)
theorem as101 (a : LabBox) : F101 a = (a) := by
  rfl
theorem oa101 (a : LabBox) : (S101 (a) a).ok Tryz.prog 101 := by
  intro hp; have h := ok101 a hp; rw [as101 a] at h; exact h
def F61_s0 (a : List LabBox) : (Int × List LabBox) → Lp (Int × List LabBox) (List LabBox) := fun (i40, xs) =>
  bif (decide (i40 < (a.length : Int))) then (.next ((i40 + 1), (xs.set (i40).toNat (a.getD (Int.toNat i40) default)))) else (.done (i40, xs))
def F61 (a : List LabBox) : List LabBox :=
  (runL (F61_s0 a) ((Int.toNat ((a.length : Int) - 0)) + 1) (0, (List.replicate (Int.toNat (a.length : Int)) ((⟨[], []⟩ : LabBox) : LabBox)))).fin (fun r => r) (fun (i40, xs) => xs)
def S61 (R : List LabBox) (a : List LabBox) : Spec := ⟨[.r (.c (.l 2 eLabBox a))], .ow (.l 2 eLabBox R), a.length ≤ 1000000000 ∧ (∀ k : Nat, (a.getD k default).Rows.length ≤ 1000000000) ∧ (∀ k : Nat, (a.getD k default).Guards.length ≤ 1000000000)⟩
theorem ok61 (a : List LabBox) : (S61 (F61 a) a).ok Tryz.prog 61 :=
  fnG_ok mixed (fn := Tryz.f61) (ct := .seqk [(0, 0)] (.no) (.seq (.reg [(2, .dat (.l 2 eLabBox (List.replicate (Int.toNat (a.length : Int)) ((⟨[], []⟩ : LabBox) : LabBox))))]) (.seq (.seqk [(0, 0), (3, 0)] (.no) (.blk (.loop (ι := Nat × (Int × List LabBox)) (fun i => (fun (i40 : Int) (xs : List LabBox) => (⟨[(0, some (.h 0 0)), (3, some (.h 1 0)), (4, some (.v (vI i40)))], [(0, some (.shr none (.l 2 eLabBox a))), (1, some (.own 1 (.l 2 eLabBox xs)))], 2⟩ : St)) i.2.1 i.2.2) (fun i => runL (F61_s0 a) i.1 i.2 = (runL (F61_s0 a) ((Int.toNat ((a.length : Int) - 0)) + 1) (0, (List.replicate (Int.toNat (a.length : Int)) ((⟨[], []⟩ : LabBox) : LabBox)))) ∧ (fun (i40 : Int) (xs : List LabBox) => (Int.toNat ((a.length : Int) - i40) < i.1 ∧ (0 : Int) ≤ i40 ∧ xs.length = (List.replicate (Int.toNat (a.length : Int)) ((⟨[], []⟩ : LabBox) : LabBox)).length)) i.2.1 i.2.2) (fun i => i.1) (((Int.toNat ((a.length : Int) - 0)) + 1), (0, (List.replicate (Int.toNat (a.length : Int)) ((⟨[], []⟩ : LabBox) : LabBox)))) (fun i => (fun (i40 : Int) (xs : List LabBox) => (.seq (.seq (.no) (.cond (.no) (.no))) (.seq (.blk (.reg [(6, .call 101 (S101 (a.getD (Int.toNat i40) default) (a.getD (Int.toNat i40) default)) (oa101 (a.getD (Int.toNat i40) default)) none), (8, .dat (.l 2 eLabBox (xs.set (i40).toNat (a.getD (Int.toNat i40) default))))])) (.reg [(1, .bnd)])))) i.2.1 i.2.2)))) (.seq (.no) (.no))))) Tryz.func61 (fun (hp : a.length ≤ 1000000000 ∧ (∀ k : Nat, (a.getD k default).Rows.length ≤ 1000000000) ∧ (∀ k : Nat, (a.getD k default).Guards.length ≤ 1000000000)) => (fun (hpre0 : a.length ≤ 1000000000) (hpre1 : ∀ k : Nat, (a.getD k default).Rows.length ≤ 1000000000) (hpre2 : ∀ k : Nat, (a.getD k default).Guards.length ≤ 1000000000) => fun (_ : a.length ≤ 9223372036854775807) => ai ((by first | omega | (simp only [lens] at * <;> omega) : 0 ≤ (a.length : Int) ∧ (a.length : Int) ≤ (a.length : Int) ∧ (48 : Int) * (a.length : Int) ≤ 281474976710656)) (ai ((MakeOK.mk eLabBox ((⟨[], []⟩ : LabBox) : LabBox) (by exact ai (Imp.nil _ _) (ai (Imp.nil _ _) (trivial))) : MakeOK 2 [.v (.slice none 0 0), .v (.slice none 0 0)] (Int.toNat (a.length : Int)) (.l 2 eLabBox (List.replicate (Int.toNat (a.length : Int)) ((⟨[], []⟩ : LabBox) : LabBox))))) (fun (_ : a.length ≤ 9223372036854775807) => fun (_ : (List.replicate (Int.toNat (a.length : Int)) ((⟨[], []⟩ : LabBox) : LabBox)).length ≤ 9223372036854775807) => ai (ai (rfl) (ai ((Imp.refl _)) (ai ((Imp.refl _)) ((ai (rfl : runL (F61_s0 a) ((Int.toNat ((a.length : Int) - 0)) + 1) (0, (List.replicate (Int.toNat (a.length : Int)) ((⟨[], []⟩ : LabBox) : LabBox))) = (runL (F61_s0 a) ((Int.toNat ((a.length : Int) - 0)) + 1) (0, (List.replicate (Int.toNat (a.length : Int)) ((⟨[], []⟩ : LabBox) : LabBox))))) (ai ((Nat.lt_succ_self _ : Int.toNat ((a.length : Int) - 0) < ((Int.toNat ((a.length : Int) - 0)) + 1))) (ai ((by first | omega | (simp only [lens] at * <;> omega) : (0 : Int) ≤ 0)) ((by first | omega | (simp only [lens] at * <;> omega) : (List.replicate (Int.toNat (a.length : Int)) ((⟨[], []⟩ : LabBox) : LabBox)).length = (List.replicate (Int.toNat (a.length : Int)) ((⟨[], []⟩ : LabBox) : LabBox)).length)))))))) : ((.int .i64 0 : Value) = .int .i64 0) ∧ (Imp (.l 2 eLabBox a) (.l 2 eLabBox a)) ∧ (Imp (.l 2 eLabBox (List.replicate (Int.toNat (a.length : Int)) ((⟨[], []⟩ : LabBox) : LabBox))) (.l 2 eLabBox (List.replicate (Int.toNat (a.length : Int)) ((⟨[], []⟩ : LabBox) : LabBox)))) ∧ (runL (F61_s0 a) ((Int.toNat ((a.length : Int) - 0)) + 1) (0, (List.replicate (Int.toNat (a.length : Int)) ((⟨[], []⟩ : LabBox) : LabBox))) = (runL (F61_s0 a) ((Int.toNat ((a.length : Int) - 0)) + 1) (0, (List.replicate (Int.toNat (a.length : Int)) ((⟨[], []⟩ : LabBox) : LabBox)))) ∧ Int.toNat ((a.length : Int) - 0) < ((Int.toNat ((a.length : Int) - 0)) + 1) ∧ (0 : Int) ≤ 0 ∧ (List.replicate (Int.toNat (a.length : Int)) ((⟨[], []⟩ : LabBox) : LabBox)).length = (List.replicate (Int.toNat (a.length : Int)) ((⟨[], []⟩ : LabBox) : LabBox)).length)) (fun (i0 : Nat × (Int × List LabBox)) (hi0 : runL (F61_s0 a) i0.1 i0.2 = (runL (F61_s0 a) ((Int.toNat ((a.length : Int) - 0)) + 1) (0, (List.replicate (Int.toNat (a.length : Int)) ((⟨[], []⟩ : LabBox) : LabBox)))) ∧ (fun (i40 : Int) (xs : List LabBox) => (Int.toNat ((a.length : Int) - i40) < i0.1 ∧ (0 : Int) ≤ i40 ∧ xs.length = (List.replicate (Int.toNat (a.length : Int)) ((⟨[], []⟩ : LabBox) : LabBox)).length)) i0.2.1 i0.2.2) => (fun (m0 : Nat) (i40 : Int) (xs : List LabBox) (hI0 : runL (F61_s0 a) (m0 + 1) (i40, xs) = (runL (F61_s0 a) ((Int.toNat ((a.length : Int) - 0)) + 1) (0, (List.replicate (Int.toNat (a.length : Int)) ((⟨[], []⟩ : LabBox) : LabBox))))) (_ : Int.toNat ((a.length : Int) - i40) < m0 + 1) (hl0 : m0 < i0.1) (_ : (0 : Int) ≤ i40) (_ : xs.length = (List.replicate (Int.toNat (a.length : Int)) ((⟨[], []⟩ : LabBox) : LabBox)).length) => ai (fun h2 : (decide (i40 < (a.length : Int))) = true => (fun _ : i40 < (a.length : Int) => ai ((by first | omega | (simp only [lens] at * <;> omega) : 0 ≤ i40 ∧ i40 < (a.length : Int))) (ai ((ai ((by first | omega | exact hpre1 _ | exact hpre2 _ | (intros; exact Nat.zero_le _) : (a.getD (Int.toNat i40) default).Rows.length ≤ 1000000000)) ((by first | omega | exact hpre1 _ | exact hpre2 _ | (intros; exact Nat.zero_le _) : (a.getD (Int.toNat i40) default).Guards.length ≤ 1000000000)))) (ai ((Imps.refl (eLabBox (a.getD (Int.toNat i40) default)))) (ai ((by first | omega | (simp only [lens] at * <;> omega) : 0 ≤ i40 ∧ i40 < (xs.length : Int))) (ai ((SetOK.mk eLabBox xs (a.getD (Int.toNat i40) default) rfl (by exact ai (Imp.refl _) (ai (Imp.refl _) (trivial))) : SetOK (.l 2 eLabBox xs) (i40).toNat (eLabBox (xs.getD (Int.toNat i40) default)) [.l 3 eLabRow ((a.getD (Int.toNat i40) default).Rows), .l 3 eLabVia ((a.getD (Int.toNat i40) default).Guards)] (.l 2 eLabBox (xs.set (i40).toNat (a.getD (Int.toNat i40) default))))) (ai ((by unfold i64ok; first | omega | (simp only [lens] at * <;> omega) : i64ok (i40 + 1))) (Exists.intro (p := fun j : Nat × (Int × List LabBox) => (fun (i40_ : Int) (xs_ : List LabBox) => (((.int .i64 (i40 + 1) : Value) = .int .i64 i40_) ∧ (Imp (.l 2 eLabBox a) (.l 2 eLabBox a)) ∧ (Imp (.l 2 eLabBox (xs.set (i40).toNat (a.getD (Int.toNat i40) default))) (.l 2 eLabBox xs_)) ∧ ((runL (F61_s0 a) j.1 j.2 = (runL (F61_s0 a) ((Int.toNat ((a.length : Int) - 0)) + 1) (0, (List.replicate (Int.toNat (a.length : Int)) ((⟨[], []⟩ : LabBox) : LabBox)))) ∧ Int.toNat ((a.length : Int) - i40_) < j.1 ∧ (0 : Int) ≤ i40_ ∧ xs_.length = (List.replicate (Int.toNat (a.length : Int)) ((⟨[], []⟩ : LabBox) : LabBox)).length) ∧ j.1 < i0.1))) j.2.1 j.2.2) (m0, ((i40 + 1), (xs.set (i40).toNat (a.getD (Int.toNat i40) default)))) (ai (rfl) (ai ((Imp.refl _)) (ai ((Imp.refl _)) (ai (ai (runL_next hI0 (condT h2 (rfl))) (ai ((by first | omega | (simp only [lens] at * <;> omega) : Int.toNat ((a.length : Int) - (i40 + 1)) < m0)) (ai ((by first | omega | (simp only [lens] at * <;> omega) : (0 : Int) ≤ (i40 + 1))) ((by first | omega | (simp only [lens] at * <;> omega) : (xs.set (i40).toNat (a.getD (Int.toNat i40) default)).length = (List.replicate (Int.toNat (a.length : Int)) ((⟨[], []⟩ : LabBox) : LabBox)).length))))) hl0))))))))))) (of_decide_eq_true h2)) (fun h2 : (decide (i40 < (a.length : Int))) = false => (fun _ : ¬ i40 < (a.length : Int) => (fun hD0_3 : (runL (F61_s0 a) ((Int.toNat ((a.length : Int) - 0)) + 1) (0, (List.replicate (Int.toNat (a.length : Int)) ((⟨[], []⟩ : LabBox) : LabBox)))) = Lp.done (i40, xs) => (fun hF : (xs : List LabBox) = (F61 a) => ai (Imp.of_eq (congrArg (fun r : List LabBox => Dat.l 2 eLabBox r) hF)) (trivial)) (finD hD0_3 (rfl))) (runL_done hI0 (condF h2 (rfl)))) (of_decide_eq_false h2))) (i0.1 - 1) i0.2.1 i0.2.2 (hd1 hi0.1 hi0.2.1) (hd2 hi0.2.1) (hd3 hi0.2.1) hi0.2.2.1 hi0.2.2.2)))) hp.1 hp.2.1 hp.2.2) (by kernel_rfl)
theorem as61 (a : List LabBox) : F61 a = (a) := by
  exact to_loop (fun x => x) (fun _ => rfl) a _ (by simp) (F61_s0 a) (fun i xs => rfl)
theorem oa61 (a : List LabBox) : (S61 (a) a).ok Tryz.prog 61 := by
  intro hp; have h := ok61 a hp; rw [as61 a] at h; exact h
def F25 (a : LabNet) : LabNet :=
  a
def S25 (R : LabNet) (a : LabNet) : Spec := ⟨[.r (.g (eLabNet a))], .ag [.ow (.l 2 eLabLink R.Links), .ow (.l 2 eLabBox R.Boxes)], a.Links.length ≤ 1000000000 ∧ a.Boxes.length ≤ 1000000000 ∧ (∀ k : Nat, (a.Boxes.getD k default).Rows.length ≤ 1000000000) ∧ (∀ k : Nat, (a.Boxes.getD k default).Guards.length ≤ 1000000000)⟩
theorem ok25 (a : LabNet) : (S25 (F25 a) a).ok Tryz.prog 25 :=
  fnG_ok mixed (fn := Tryz.f25) (ct := .seq (.no) (.seq (.no) (.seq (.reg [(2, .call 60 (S60 a.Links a.Links) (oa60 a.Links) none)]) (.seq (.reg [(2, .call 61 (S61 a.Boxes a.Boxes) (oa61 a.Boxes) none)]) (.seq (.no) (.no)))))) Tryz.func25 (fun (hp : a.Links.length ≤ 1000000000 ∧ a.Boxes.length ≤ 1000000000 ∧ (∀ k : Nat, (a.Boxes.getD k default).Rows.length ≤ 1000000000) ∧ (∀ k : Nat, (a.Boxes.getD k default).Guards.length ≤ 1000000000)) => (fun (hpre0 : a.Links.length ≤ 1000000000) (hpre1 : a.Boxes.length ≤ 1000000000) (hpre2 : ∀ k : Nat, (a.Boxes.getD k default).Rows.length ≤ 1000000000) (hpre3 : ∀ k : Nat, (a.Boxes.getD k default).Guards.length ≤ 1000000000) => ai (((by omega : a.Links.length ≤ 1000000000))) (ai ((Imp.refl (.l 2 eLabLink a.Links))) (ai ((ai ((by omega : a.Boxes.length ≤ 1000000000)) (ai ((by first | assumption | exact hpre2 _ | exact hpre3 _ | (intros; exact Nat.zero_le _) : ∀ k : Nat, (a.Boxes.getD k default).Rows.length ≤ 1000000000)) ((by first | assumption | exact hpre2 _ | exact hpre3 _ | (intros; exact Nat.zero_le _) : ∀ k : Nat, (a.Boxes.getD k default).Guards.length ≤ 1000000000))))) (ai ((Imp.refl (.l 2 eLabBox a.Boxes))) ((fun hF : (a : LabNet) = (F25 a) => ai (Imp.of_eq (congrArg (fun r : LabNet => Dat.l 2 eLabLink r.Links) hF)) (ai (Imp.of_eq (congrArg (fun r : LabNet => Dat.l 2 eLabBox r.Boxes) hF)) (trivial))) (rfl)))))) hp.1 hp.2.1 hp.2.2.1 hp.2.2.2) (by kernel_rfl)
theorem as25 (a : LabNet) : F25 a = (a) := by
  rfl
theorem oa25 (a : LabNet) : (S25 (a) a).ok Tryz.prog 25 := by
  intro hp; have h := ok25 a hp; rw [as25 a] at h; exact h
def F102 (a : LabLink) (b : LabLink) : Bool :=
  bif (a.A != b.A) then false else (bif (a.B != b.B) then false else true)
def S102 (R : Bool) (a : LabLink) (b : LabLink) : Spec := ⟨[.r (.g (eLabLink a)), .r (.g (eLabLink b))], .v (.bool R), True⟩
theorem ok102 (a : LabLink) (b : LabLink) : (S102 (F102 a b) a b).ok Tryz.prog 102 :=
  fnG_ok mixed (fn := Tryz.f102) (ct := .seq (.no) (.seq (.seq (.no) (.cond (.seq (.no) (.no)) (.no))) (.seq (.seq (.no) (.cond (.seq (.no) (.no)) (.no))) (.seq (.no) (.no))))) Tryz.func102 (fun (_ : True) => ai (fun h1 : (a.A != b.A) = true => (fun _ : ¬ a.A = b.A => (fun hF : (false : Bool) = (F102 a b) => ai (congrArg (fun r : Bool => (.bool r : Value)) hF) (trivial)) (condT h1 (rfl))) (bneT h1)) (fun h1 : (a.A != b.A) = false => (fun _ : a.A = b.A => ai (fun h2 : (a.B != b.B) = true => (fun _ : ¬ a.B = b.B => (fun hF : (false : Bool) = (F102 a b) => ai (congrArg (fun r : Bool => (.bool r : Value)) hF) (trivial)) (condF h1 (condT h2 (rfl)))) (bneT h2)) (fun h2 : (a.B != b.B) = false => (fun _ : a.B = b.B => (fun hF : (true : Bool) = (F102 a b) => ai (congrArg (fun r : Bool => (.bool r : Value)) hF) (trivial)) (condF h1 (condF h2 (rfl)))) (bneF h2))) (bneF h1))) (by kernel_rfl)
theorem as102 (a : LabLink) (b : LabLink) : F102 a b = (decide (a = b)) := by
  cases a; cases b
  simp only [F102, LabLink.mk.injEq, neI, neB, neS, eqstep, Bool.decide_and, Bool.and_true]
theorem oa102 (a : LabLink) (b : LabLink) : (S102 (decide (a = b)) a b).ok Tryz.prog 102 := by
  intro hp; have h := ok102 a b hp; rw [as102 a b] at h; exact h
def F62_s0 (a : List LabLink) (b : List LabLink) : Int → Lp Int Bool := fun i40 =>
  bif (decide (i40 < (a.length : Int))) then (bif (!(decide ((a.getD (Int.toNat i40) default) = (b.getD (Int.toNat i40) default)))) then (.ret false) else (.next (i40 + 1))) else (.done i40)
def F62 (a : List LabLink) (b : List LabLink) : Bool :=
  bif ((a.length : Int) != (b.length : Int)) then false else ((runL (F62_s0 a b) ((Int.toNat ((a.length : Int) - 0)) + 1) 0).fin (fun r => r) (fun i40 => true))
def S62 (R : Bool) (a : List LabLink) (b : List LabLink) : Spec := ⟨[.r (.c (.l 2 eLabLink a)), .r (.c (.l 2 eLabLink b))], .v (.bool R), True⟩
theorem ok62 (a : List LabLink) (b : List LabLink) : (S62 (F62 a b) a b).ok Tryz.prog 62 :=
  fnG_ok mixed (fn := Tryz.f62) (ct := .seqk [(0, 0), (1, 0)] (.no) (.seq (.seq (.no) (.cond (.seq (.no) (.no)) (.no))) (.seq (.seqk [(0, 0), (1, 0)] (.no) (.blk (.loop (ι := Nat × Int) (fun i => (fun (i40 : Int) => (⟨[(0, some (.h 0 0)), (1, some (.h 1 0)), (5, some (.v (vI i40)))], [(0, some (.shr none (.l 2 eLabLink a))), (1, some (.shr none (.l 2 eLabLink b)))], 2⟩ : St)) i.2) (fun i => runL (F62_s0 a b) i.1 i.2 = (runL (F62_s0 a b) ((Int.toNat ((a.length : Int) - 0)) + 1) 0) ∧ (fun (i40 : Int) => (Int.toNat ((a.length : Int) - i40) < i.1 ∧ (0 : Int) ≤ i40)) i.2) (fun i => i.1) (((Int.toNat ((a.length : Int) - 0)) + 1), 0) (fun i => (fun (i40 : Int) => (.seq (.seq (.no) (.cond (.no) (.no))) (.seq (.blk (.seq (.reg [(8, .call 102 (S102 (decide ((a.getD (Int.toNat i40) default) = (b.getD (Int.toNat i40) default))) (a.getD (Int.toNat i40) default) (b.getD (Int.toNat i40) default)) (oa102 (a.getD (Int.toNat i40) default) (b.getD (Int.toNat i40) default)) none)]) (.cond (.seq (.no) (.no)) (.no)))) (.reg [(1, .bnd)])))) i.2)))) (.seq (.no) (.no))))) Tryz.func62 (fun (_ : True) => fun (_ : a.length ≤ 9223372036854775807) => fun (_ : b.length ≤ 9223372036854775807) => ai (fun h1 : ((a.length : Int) != (b.length : Int)) = true => (fun _ : ¬ (a.length : Int) = (b.length : Int) => (fun hF : (false : Bool) = (F62 a b) => ai (congrArg (fun r : Bool => (.bool r : Value)) hF) (trivial)) (condT h1 (rfl))) (bneT h1)) (fun h1 : ((a.length : Int) != (b.length : Int)) = false => (fun _ : (a.length : Int) = (b.length : Int) => fun (_ : a.length ≤ 9223372036854775807) => fun (_ : b.length ≤ 9223372036854775807) => ai (ai (rfl) (ai ((Imp.refl _)) (ai ((Imp.refl _)) ((ai (rfl : runL (F62_s0 a b) ((Int.toNat ((a.length : Int) - 0)) + 1) 0 = (runL (F62_s0 a b) ((Int.toNat ((a.length : Int) - 0)) + 1) 0)) (ai ((Nat.lt_succ_self _ : Int.toNat ((a.length : Int) - 0) < ((Int.toNat ((a.length : Int) - 0)) + 1))) ((by omega : (0 : Int) ≤ 0))))))) : ((.int .i64 0 : Value) = .int .i64 0) ∧ (Imp (.l 2 eLabLink a) (.l 2 eLabLink a)) ∧ (Imp (.l 2 eLabLink b) (.l 2 eLabLink b)) ∧ (runL (F62_s0 a b) ((Int.toNat ((a.length : Int) - 0)) + 1) 0 = (runL (F62_s0 a b) ((Int.toNat ((a.length : Int) - 0)) + 1) 0) ∧ Int.toNat ((a.length : Int) - 0) < ((Int.toNat ((a.length : Int) - 0)) + 1) ∧ (0 : Int) ≤ 0)) (fun (i0 : Nat × Int) (hi0 : runL (F62_s0 a b) i0.1 i0.2 = (runL (F62_s0 a b) ((Int.toNat ((a.length : Int) - 0)) + 1) 0) ∧ (fun (i40 : Int) => (Int.toNat ((a.length : Int) - i40) < i0.1 ∧ (0 : Int) ≤ i40)) i0.2) => (fun (m0 : Nat) (i40 : Int) (hI0 : runL (F62_s0 a b) (m0 + 1) i40 = (runL (F62_s0 a b) ((Int.toNat ((a.length : Int) - 0)) + 1) 0)) (_ : Int.toNat ((a.length : Int) - i40) < m0 + 1) (hl0 : m0 < i0.1) (_ : (0 : Int) ≤ i40) => ai (fun h3 : (decide (i40 < (a.length : Int))) = true => (fun _ : i40 < (a.length : Int) => ai ((by omega : 0 ≤ i40 ∧ i40 < (a.length : Int))) (ai ((by omega : 0 ≤ i40 ∧ i40 < (b.length : Int))) (ai (trivial) (ai ((Imps.refl (eLabLink (a.getD (Int.toNat i40) default)))) (ai ((Imps.refl (eLabLink (b.getD (Int.toNat i40) default)))) (ai (fun h4 : (!(decide ((a.getD (Int.toNat i40) default) = (b.getD (Int.toNat i40) default)))) = true => (fun _ : ¬ ((a.getD (Int.toNat i40) default) = (b.getD (Int.toNat i40) default)) => (fun hF : (false : Bool) = (F62 a b) => ai (congrArg (fun r : Bool => (.bool r : Value)) hF) (trivial)) (condF h1 (finR (runL_ret hI0 (condT h3 (condT h4 (rfl)))) rfl))) (of_decide_eq_false (notET h4))) (fun h4 : (!(decide ((a.getD (Int.toNat i40) default) = (b.getD (Int.toNat i40) default)))) = false => (fun _ : (a.getD (Int.toNat i40) default) = (b.getD (Int.toNat i40) default) => ai ((by unfold i64ok; omega : i64ok (i40 + 1))) (Exists.intro (p := fun j : Nat × Int => (fun (i40_ : Int) => (((.int .i64 (i40 + 1) : Value) = .int .i64 i40_) ∧ (Imp (.l 2 eLabLink a) (.l 2 eLabLink a)) ∧ (Imp (.l 2 eLabLink b) (.l 2 eLabLink b)) ∧ ((runL (F62_s0 a b) j.1 j.2 = (runL (F62_s0 a b) ((Int.toNat ((a.length : Int) - 0)) + 1) 0) ∧ Int.toNat ((a.length : Int) - i40_) < j.1 ∧ (0 : Int) ≤ i40_) ∧ j.1 < i0.1))) j.2) (m0, (i40 + 1)) (ai (rfl) (ai ((Imp.refl _)) (ai ((Imp.refl _)) (ai (ai (runL_next hI0 (condT h3 (condF h4 (rfl)))) (ai ((by omega : Int.toNat ((a.length : Int) - (i40 + 1)) < m0)) ((by omega : (0 : Int) ≤ (i40 + 1))))) hl0)))))) (of_decide_eq_true (notEF h4))))))))) (of_decide_eq_true h3)) (fun h3 : (decide (i40 < (a.length : Int))) = false => (fun _ : ¬ i40 < (a.length : Int) => (fun hD0_5 : (runL (F62_s0 a b) ((Int.toNat ((a.length : Int) - 0)) + 1) 0) = Lp.done i40 => (fun hF : (true : Bool) = (F62 a b) => ai (congrArg (fun r : Bool => (.bool r : Value)) hF) (trivial)) (condF h1 (finD hD0_5 (rfl)))) (runL_done hI0 (condF h3 (rfl)))) (of_decide_eq_false h3))) (i0.1 - 1) i0.2 (hd1 hi0.1 hi0.2.1) (hd2 hi0.2.1) (hd3 hi0.2.1) hi0.2.2)) (bneF h1))) (by kernel_rfl)
theorem as62 (a : List LabLink) (b : List LabLink) : F62 a b = (decide (a = b)) := by
  exact eq_loop (fun x y => decide (x = y)) (fun _ _ => rfl) a b (F62_s0 a b) (fun i => rfl)
theorem oa62 (a : List LabLink) (b : List LabLink) : (S62 (decide (a = b)) a b).ok Tryz.prog 62 := by
  intro hp; have h := ok62 a b hp; rw [as62 a b] at h; exact h
def F149 (a : LabRow) (b : LabRow) : Bool :=
  bif (a.In != b.In) then false else (bif (a.Next != b.Next) then false else (bif (a.Out != b.Out) then false else true))
def S149 (R : Bool) (a : LabRow) (b : LabRow) : Spec := ⟨[.r (.g (eLabRow a)), .r (.g (eLabRow b))], .v (.bool R), True⟩
theorem ok149 (a : LabRow) (b : LabRow) : (S149 (F149 a b) a b).ok Tryz.prog 149 :=
  fnG_ok mixed (fn := Tryz.f149) (ct := .seq (.no) (.seq (.seq (.no) (.cond (.seq (.no) (.no)) (.no))) (.seq (.seq (.no) (.cond (.seq (.no) (.no)) (.no))) (.seq (.seq (.no) (.cond (.seq (.no) (.no)) (.no))) (.seq (.no) (.no)))))) Tryz.func149 (fun (_ : True) => ai (fun h1 : (a.In != b.In) = true => (fun _ : ¬ a.In = b.In => (fun hF : (false : Bool) = (F149 a b) => ai (congrArg (fun r : Bool => (.bool r : Value)) hF) (trivial)) (condT h1 (rfl))) (bneT h1)) (fun h1 : (a.In != b.In) = false => (fun _ : a.In = b.In => ai (fun h2 : (a.Next != b.Next) = true => (fun _ : ¬ a.Next = b.Next => (fun hF : (false : Bool) = (F149 a b) => ai (congrArg (fun r : Bool => (.bool r : Value)) hF) (trivial)) (condF h1 (condT h2 (rfl)))) (bneT h2)) (fun h2 : (a.Next != b.Next) = false => (fun _ : a.Next = b.Next => ai (fun h3 : (a.Out != b.Out) = true => (fun _ : ¬ a.Out = b.Out => (fun hF : (false : Bool) = (F149 a b) => ai (congrArg (fun r : Bool => (.bool r : Value)) hF) (trivial)) (condF h1 (condF h2 (condT h3 (rfl))))) (bneT h3)) (fun h3 : (a.Out != b.Out) = false => (fun _ : a.Out = b.Out => (fun hF : (true : Bool) = (F149 a b) => ai (congrArg (fun r : Bool => (.bool r : Value)) hF) (trivial)) (condF h1 (condF h2 (condF h3 (rfl))))) (bneF h3))) (bneF h2))) (bneF h1))) (by kernel_rfl)
theorem as149 (a : LabRow) (b : LabRow) : F149 a b = (decide (a = b)) := by
  cases a; cases b
  simp only [F149, LabRow.mk.injEq, neI, neB, neS, eqstep, Bool.decide_and, Bool.and_true]
theorem oa149 (a : LabRow) (b : LabRow) : (S149 (decide (a = b)) a b).ok Tryz.prog 149 := by
  intro hp; have h := ok149 a b hp; rw [as149 a b] at h; exact h
def F123_s0 (a : List LabRow) (b : List LabRow) : Int → Lp Int Bool := fun i40 =>
  bif (decide (i40 < (a.length : Int))) then (bif (!(decide ((a.getD (Int.toNat i40) default) = (b.getD (Int.toNat i40) default)))) then (.ret false) else (.next (i40 + 1))) else (.done i40)
def F123 (a : List LabRow) (b : List LabRow) : Bool :=
  bif ((a.length : Int) != (b.length : Int)) then false else ((runL (F123_s0 a b) ((Int.toNat ((a.length : Int) - 0)) + 1) 0).fin (fun r => r) (fun i40 => true))
def S123 (R : Bool) (a : List LabRow) (b : List LabRow) : Spec := ⟨[.r (.c (.l 3 eLabRow a)), .r (.c (.l 3 eLabRow b))], .v (.bool R), True⟩
theorem ok123 (a : List LabRow) (b : List LabRow) : (S123 (F123 a b) a b).ok Tryz.prog 123 :=
  fnG_ok mixed (fn := Tryz.f123) (ct := .seqk [(0, 0), (1, 0)] (.no) (.seq (.seq (.no) (.cond (.seq (.no) (.no)) (.no))) (.seq (.seqk [(0, 0), (1, 0)] (.no) (.blk (.loop (ι := Nat × Int) (fun i => (fun (i40 : Int) => (⟨[(0, some (.h 0 0)), (1, some (.h 1 0)), (5, some (.v (vI i40)))], [(0, some (.shr none (.l 3 eLabRow a))), (1, some (.shr none (.l 3 eLabRow b)))], 2⟩ : St)) i.2) (fun i => runL (F123_s0 a b) i.1 i.2 = (runL (F123_s0 a b) ((Int.toNat ((a.length : Int) - 0)) + 1) 0) ∧ (fun (i40 : Int) => (Int.toNat ((a.length : Int) - i40) < i.1 ∧ (0 : Int) ≤ i40)) i.2) (fun i => i.1) (((Int.toNat ((a.length : Int) - 0)) + 1), 0) (fun i => (fun (i40 : Int) => (.seq (.seq (.no) (.cond (.no) (.no))) (.seq (.blk (.seq (.reg [(8, .call 149 (S149 (decide ((a.getD (Int.toNat i40) default) = (b.getD (Int.toNat i40) default))) (a.getD (Int.toNat i40) default) (b.getD (Int.toNat i40) default)) (oa149 (a.getD (Int.toNat i40) default) (b.getD (Int.toNat i40) default)) none)]) (.cond (.seq (.no) (.no)) (.no)))) (.reg [(1, .bnd)])))) i.2)))) (.seq (.no) (.no))))) Tryz.func123 (fun (_ : True) => fun (_ : a.length ≤ 9223372036854775807) => fun (_ : b.length ≤ 9223372036854775807) => ai (fun h1 : ((a.length : Int) != (b.length : Int)) = true => (fun _ : ¬ (a.length : Int) = (b.length : Int) => (fun hF : (false : Bool) = (F123 a b) => ai (congrArg (fun r : Bool => (.bool r : Value)) hF) (trivial)) (condT h1 (rfl))) (bneT h1)) (fun h1 : ((a.length : Int) != (b.length : Int)) = false => (fun _ : (a.length : Int) = (b.length : Int) => fun (_ : a.length ≤ 9223372036854775807) => fun (_ : b.length ≤ 9223372036854775807) => ai (ai (rfl) (ai ((Imp.refl _)) (ai ((Imp.refl _)) ((ai (rfl : runL (F123_s0 a b) ((Int.toNat ((a.length : Int) - 0)) + 1) 0 = (runL (F123_s0 a b) ((Int.toNat ((a.length : Int) - 0)) + 1) 0)) (ai ((Nat.lt_succ_self _ : Int.toNat ((a.length : Int) - 0) < ((Int.toNat ((a.length : Int) - 0)) + 1))) ((by omega : (0 : Int) ≤ 0))))))) : ((.int .i64 0 : Value) = .int .i64 0) ∧ (Imp (.l 3 eLabRow a) (.l 3 eLabRow a)) ∧ (Imp (.l 3 eLabRow b) (.l 3 eLabRow b)) ∧ (runL (F123_s0 a b) ((Int.toNat ((a.length : Int) - 0)) + 1) 0 = (runL (F123_s0 a b) ((Int.toNat ((a.length : Int) - 0)) + 1) 0) ∧ Int.toNat ((a.length : Int) - 0) < ((Int.toNat ((a.length : Int) - 0)) + 1) ∧ (0 : Int) ≤ 0)) (fun (i0 : Nat × Int) (hi0 : runL (F123_s0 a b) i0.1 i0.2 = (runL (F123_s0 a b) ((Int.toNat ((a.length : Int) - 0)) + 1) 0) ∧ (fun (i40 : Int) => (Int.toNat ((a.length : Int) - i40) < i0.1 ∧ (0 : Int) ≤ i40)) i0.2) => (fun (m0 : Nat) (i40 : Int) (hI0 : runL (F123_s0 a b) (m0 + 1) i40 = (runL (F123_s0 a b) ((Int.toNat ((a.length : Int) - 0)) + 1) 0)) (_ : Int.toNat ((a.length : Int) - i40) < m0 + 1) (hl0 : m0 < i0.1) (_ : (0 : Int) ≤ i40) => ai (fun h3 : (decide (i40 < (a.length : Int))) = true => (fun _ : i40 < (a.length : Int) => ai ((by omega : 0 ≤ i40 ∧ i40 < (a.length : Int))) (ai ((by omega : 0 ≤ i40 ∧ i40 < (b.length : Int))) (ai (trivial) (ai ((Imps.refl (eLabRow (a.getD (Int.toNat i40) default)))) (ai ((Imps.refl (eLabRow (b.getD (Int.toNat i40) default)))) (ai (fun h4 : (!(decide ((a.getD (Int.toNat i40) default) = (b.getD (Int.toNat i40) default)))) = true => (fun _ : ¬ ((a.getD (Int.toNat i40) default) = (b.getD (Int.toNat i40) default)) => (fun hF : (false : Bool) = (F123 a b) => ai (congrArg (fun r : Bool => (.bool r : Value)) hF) (trivial)) (condF h1 (finR (runL_ret hI0 (condT h3 (condT h4 (rfl)))) rfl))) (of_decide_eq_false (notET h4))) (fun h4 : (!(decide ((a.getD (Int.toNat i40) default) = (b.getD (Int.toNat i40) default)))) = false => (fun _ : (a.getD (Int.toNat i40) default) = (b.getD (Int.toNat i40) default) => ai ((by unfold i64ok; omega : i64ok (i40 + 1))) (Exists.intro (p := fun j : Nat × Int => (fun (i40_ : Int) => (((.int .i64 (i40 + 1) : Value) = .int .i64 i40_) ∧ (Imp (.l 3 eLabRow a) (.l 3 eLabRow a)) ∧ (Imp (.l 3 eLabRow b) (.l 3 eLabRow b)) ∧ ((runL (F123_s0 a b) j.1 j.2 = (runL (F123_s0 a b) ((Int.toNat ((a.length : Int) - 0)) + 1) 0) ∧ Int.toNat ((a.length : Int) - i40_) < j.1 ∧ (0 : Int) ≤ i40_) ∧ j.1 < i0.1))) j.2) (m0, (i40 + 1)) (ai (rfl) (ai ((Imp.refl _)) (ai ((Imp.refl _)) (ai (ai (runL_next hI0 (condT h3 (condF h4 (rfl)))) (ai ((by omega : Int.toNat ((a.length : Int) - (i40 + 1)) < m0)) ((by omega : (0 : Int) ≤ (i40 + 1))))) hl0)))))) (of_decide_eq_true (notEF h4))))))))) (of_decide_eq_true h3)) (fun h3 : (decide (i40 < (a.length : Int))) = false => (fun _ : ¬ i40 < (a.length : Int) => (fun hD0_5 : (runL (F123_s0 a b) ((Int.toNat ((a.length : Int) - 0)) + 1) 0) = Lp.done i40 => (fun hF : (true : Bool) = (F123 a b) => ai (congrArg (fun r : Bool => (.bool r : Value)) hF) (trivial)) (condF h1 (finD hD0_5 (rfl)))) (runL_done hI0 (condF h3 (rfl)))) (of_decide_eq_false h3))) (i0.1 - 1) i0.2 (hd1 hi0.1 hi0.2.1) (hd2 hi0.2.1) (hd3 hi0.2.1) hi0.2.2)) (bneF h1))) (by kernel_rfl)
theorem as123 (a : List LabRow) (b : List LabRow) : F123 a b = (decide (a = b)) := by
  exact eq_loop (fun x y => decide (x = y)) (fun _ _ => rfl) a b (F123_s0 a b) (fun i => rfl)
theorem oa123 (a : List LabRow) (b : List LabRow) : (S123 (decide (a = b)) a b).ok Tryz.prog 123 := by
  intro hp; have h := ok123 a b hp; rw [as123 a b] at h; exact h
def F150 (a : LabVia) (b : LabVia) : Bool :=
  bif (a.To != b.To) then false else (bif (a.Via != b.Via) then false else (bif (a.Push != b.Push) then false else true))
def S150 (R : Bool) (a : LabVia) (b : LabVia) : Spec := ⟨[.r (.g (eLabVia a)), .r (.g (eLabVia b))], .v (.bool R), True⟩
theorem ok150 (a : LabVia) (b : LabVia) : (S150 (F150 a b) a b).ok Tryz.prog 150 :=
  fnG_ok mixed (fn := Tryz.f150) (ct := .seq (.no) (.seq (.seq (.no) (.cond (.seq (.no) (.no)) (.no))) (.seq (.seq (.no) (.cond (.seq (.no) (.no)) (.no))) (.seq (.seq (.no) (.cond (.seq (.no) (.no)) (.no))) (.seq (.no) (.no)))))) Tryz.func150 (fun (_ : True) => ai (fun h1 : (a.To != b.To) = true => (fun _ : ¬ a.To = b.To => (fun hF : (false : Bool) = (F150 a b) => ai (congrArg (fun r : Bool => (.bool r : Value)) hF) (trivial)) (condT h1 (rfl))) (bneT h1)) (fun h1 : (a.To != b.To) = false => (fun _ : a.To = b.To => ai (fun h2 : (a.Via != b.Via) = true => (fun _ : ¬ a.Via = b.Via => (fun hF : (false : Bool) = (F150 a b) => ai (congrArg (fun r : Bool => (.bool r : Value)) hF) (trivial)) (condF h1 (condT h2 (rfl)))) (bneT h2)) (fun h2 : (a.Via != b.Via) = false => (fun _ : a.Via = b.Via => ai (fun h3 : (a.Push != b.Push) = true => (fun _ : ¬ a.Push = b.Push => (fun hF : (false : Bool) = (F150 a b) => ai (congrArg (fun r : Bool => (.bool r : Value)) hF) (trivial)) (condF h1 (condF h2 (condT h3 (rfl))))) (bneT h3)) (fun h3 : (a.Push != b.Push) = false => (fun _ : a.Push = b.Push => (fun hF : (true : Bool) = (F150 a b) => ai (congrArg (fun r : Bool => (.bool r : Value)) hF) (trivial)) (condF h1 (condF h2 (condF h3 (rfl))))) (bneF h3))) (bneF h2))) (bneF h1))) (by kernel_rfl)
theorem as150 (a : LabVia) (b : LabVia) : F150 a b = (decide (a = b)) := by
  cases a; cases b
  simp only [F150, LabVia.mk.injEq, neI, neB, neS, eqstep, Bool.decide_and, Bool.and_true]
theorem oa150 (a : LabVia) (b : LabVia) : (S150 (decide (a = b)) a b).ok Tryz.prog 150 := by
  intro hp; have h := ok150 a b hp; rw [as150 a b] at h; exact h
def F124_s0 (a : List LabVia) (b : List LabVia) : Int → Lp Int Bool := fun i40 =>
  bif (decide (i40 < (a.length : Int))) then (bif (!(decide ((a.getD (Int.toNat i40) default) = (b.getD (Int.toNat i40) default)))) then (.ret false) else (.next (i40 + 1))) else (.done i40)
def F124 (a : List LabVia) (b : List LabVia) : Bool :=
  bif ((a.length : Int) != (b.length : Int)) then false else ((runL (F124_s0 a b) ((Int.toNat ((a.length : Int) - 0)) + 1) 0).fin (fun r => r) (fun i40 => true))
def S124 (R : Bool) (a : List LabVia) (b : List LabVia) : Spec := ⟨[.r (.c (.l 3 eLabVia a)), .r (.c (.l 3 eLabVia b))], .v (.bool R), True⟩
theorem ok124 (a : List LabVia) (b : List LabVia) : (S124 (F124 a b) a b).ok Tryz.prog 124 :=
  fnG_ok mixed (fn := Tryz.f124) (ct := .seqk [(0, 0), (1, 0)] (.no) (.seq (.seq (.no) (.cond (.seq (.no) (.no)) (.no))) (.seq (.seqk [(0, 0), (1, 0)] (.no) (.blk (.loop (ι := Nat × Int) (fun i => (fun (i40 : Int) => (⟨[(0, some (.h 0 0)), (1, some (.h 1 0)), (5, some (.v (vI i40)))], [(0, some (.shr none (.l 3 eLabVia a))), (1, some (.shr none (.l 3 eLabVia b)))], 2⟩ : St)) i.2) (fun i => runL (F124_s0 a b) i.1 i.2 = (runL (F124_s0 a b) ((Int.toNat ((a.length : Int) - 0)) + 1) 0) ∧ (fun (i40 : Int) => (Int.toNat ((a.length : Int) - i40) < i.1 ∧ (0 : Int) ≤ i40)) i.2) (fun i => i.1) (((Int.toNat ((a.length : Int) - 0)) + 1), 0) (fun i => (fun (i40 : Int) => (.seq (.seq (.no) (.cond (.no) (.no))) (.seq (.blk (.seq (.reg [(8, .call 150 (S150 (decide ((a.getD (Int.toNat i40) default) = (b.getD (Int.toNat i40) default))) (a.getD (Int.toNat i40) default) (b.getD (Int.toNat i40) default)) (oa150 (a.getD (Int.toNat i40) default) (b.getD (Int.toNat i40) default)) none)]) (.cond (.seq (.no) (.no)) (.no)))) (.reg [(1, .bnd)])))) i.2)))) (.seq (.no) (.no))))) Tryz.func124 (fun (_ : True) => fun (_ : a.length ≤ 9223372036854775807) => fun (_ : b.length ≤ 9223372036854775807) => ai (fun h1 : ((a.length : Int) != (b.length : Int)) = true => (fun _ : ¬ (a.length : Int) = (b.length : Int) => (fun hF : (false : Bool) = (F124 a b) => ai (congrArg (fun r : Bool => (.bool r : Value)) hF) (trivial)) (condT h1 (rfl))) (bneT h1)) (fun h1 : ((a.length : Int) != (b.length : Int)) = false => (fun _ : (a.length : Int) = (b.length : Int) => fun (_ : a.length ≤ 9223372036854775807) => fun (_ : b.length ≤ 9223372036854775807) => ai (ai (rfl) (ai ((Imp.refl _)) (ai ((Imp.refl _)) ((ai (rfl : runL (F124_s0 a b) ((Int.toNat ((a.length : Int) - 0)) + 1) 0 = (runL (F124_s0 a b) ((Int.toNat ((a.length : Int) - 0)) + 1) 0)) (ai ((Nat.lt_succ_self _ : Int.toNat ((a.length : Int) - 0) < ((Int.toNat ((a.length : Int) - 0)) + 1))) ((by omega : (0 : Int) ≤ 0))))))) : ((.int .i64 0 : Value) = .int .i64 0) ∧ (Imp (.l 3 eLabVia a) (.l 3 eLabVia a)) ∧ (Imp (.l 3 eLabVia b) (.l 3 eLabVia b)) ∧ (runL (F124_s0 a b) ((Int.toNat ((a.length : Int) - 0)) + 1) 0 = (runL (F124_s0 a b) ((Int.toNat ((a.length : Int) - 0)) + 1) 0) ∧ Int.toNat ((a.length : Int) - 0) < ((Int.toNat ((a.length : Int) - 0)) + 1) ∧ (0 : Int) ≤ 0)) (fun (i0 : Nat × Int) (hi0 : runL (F124_s0 a b) i0.1 i0.2 = (runL (F124_s0 a b) ((Int.toNat ((a.length : Int) - 0)) + 1) 0) ∧ (fun (i40 : Int) => (Int.toNat ((a.length : Int) - i40) < i0.1 ∧ (0 : Int) ≤ i40)) i0.2) => (fun (m0 : Nat) (i40 : Int) (hI0 : runL (F124_s0 a b) (m0 + 1) i40 = (runL (F124_s0 a b) ((Int.toNat ((a.length : Int) - 0)) + 1) 0)) (_ : Int.toNat ((a.length : Int) - i40) < m0 + 1) (hl0 : m0 < i0.1) (_ : (0 : Int) ≤ i40) => ai (fun h3 : (decide (i40 < (a.length : Int))) = true => (fun _ : i40 < (a.length : Int) => ai ((by omega : 0 ≤ i40 ∧ i40 < (a.length : Int))) (ai ((by omega : 0 ≤ i40 ∧ i40 < (b.length : Int))) (ai (trivial) (ai ((Imps.refl (eLabVia (a.getD (Int.toNat i40) default)))) (ai ((Imps.refl (eLabVia (b.getD (Int.toNat i40) default)))) (ai (fun h4 : (!(decide ((a.getD (Int.toNat i40) default) = (b.getD (Int.toNat i40) default)))) = true => (fun _ : ¬ ((a.getD (Int.toNat i40) default) = (b.getD (Int.toNat i40) default)) => (fun hF : (false : Bool) = (F124 a b) => ai (congrArg (fun r : Bool => (.bool r : Value)) hF) (trivial)) (condF h1 (finR (runL_ret hI0 (condT h3 (condT h4 (rfl)))) rfl))) (of_decide_eq_false (notET h4))) (fun h4 : (!(decide ((a.getD (Int.toNat i40) default) = (b.getD (Int.toNat i40) default)))) = false => (fun _ : (a.getD (Int.toNat i40) default) = (b.getD (Int.toNat i40) default) => ai ((by unfold i64ok; omega : i64ok (i40 + 1))) (Exists.intro (p := fun j : Nat × Int => (fun (i40_ : Int) => (((.int .i64 (i40 + 1) : Value) = .int .i64 i40_) ∧ (Imp (.l 3 eLabVia a) (.l 3 eLabVia a)) ∧ (Imp (.l 3 eLabVia b) (.l 3 eLabVia b)) ∧ ((runL (F124_s0 a b) j.1 j.2 = (runL (F124_s0 a b) ((Int.toNat ((a.length : Int) - 0)) + 1) 0) ∧ Int.toNat ((a.length : Int) - i40_) < j.1 ∧ (0 : Int) ≤ i40_) ∧ j.1 < i0.1))) j.2) (m0, (i40 + 1)) (ai (rfl) (ai ((Imp.refl _)) (ai ((Imp.refl _)) (ai (ai (runL_next hI0 (condT h3 (condF h4 (rfl)))) (ai ((by omega : Int.toNat ((a.length : Int) - (i40 + 1)) < m0)) ((by omega : (0 : Int) ≤ (i40 + 1))))) hl0)))))) (of_decide_eq_true (notEF h4))))))))) (of_decide_eq_true h3)) (fun h3 : (decide (i40 < (a.length : Int))) = false => (fun _ : ¬ i40 < (a.length : Int) => (fun hD0_5 : (runL (F124_s0 a b) ((Int.toNat ((a.length : Int) - 0)) + 1) 0) = Lp.done i40 => (fun hF : (true : Bool) = (F124 a b) => ai (congrArg (fun r : Bool => (.bool r : Value)) hF) (trivial)) (condF h1 (finD hD0_5 (rfl)))) (runL_done hI0 (condF h3 (rfl)))) (of_decide_eq_false h3))) (i0.1 - 1) i0.2 (hd1 hi0.1 hi0.2.1) (hd2 hi0.2.1) (hd3 hi0.2.1) hi0.2.2)) (bneF h1))) (by kernel_rfl)
theorem as124 (a : List LabVia) (b : List LabVia) : F124 a b = (decide (a = b)) := by
  exact eq_loop (fun x y => decide (x = y)) (fun _ _ => rfl) a b (F124_s0 a b) (fun i => rfl)
theorem oa124 (a : List LabVia) (b : List LabVia) : (S124 (decide (a = b)) a b).ok Tryz.prog 124 := by
  intro hp; have h := ok124 a b hp; rw [as124 a b] at h; exact h
def F103 (a : LabBox) (b : LabBox) : Bool :=
  bif (!(decide (a.Rows = b.Rows))) then false else (bif (!(decide (a.Guards = b.Guards))) then false else true)
def S103 (R : Bool) (a : LabBox) (b : LabBox) : Spec := ⟨[.r (.g (eLabBox a)), .r (.g (eLabBox b))], .v (.bool R), True⟩
theorem ok103 (a : LabBox) (b : LabBox) : (S103 (F103 a b) a b).ok Tryz.prog 103 :=
  fnG_ok mixed (fn := Tryz.f103) (ct := .seq (.no) (.seq (.seq (.reg [(4, .call 123 (S123 (decide (a.Rows = b.Rows)) a.Rows b.Rows) (oa123 a.Rows b.Rows) none)]) (.cond (.seq (.no) (.no)) (.no))) (.seq (.seq (.reg [(4, .call 124 (S124 (decide (a.Guards = b.Guards)) a.Guards b.Guards) (oa124 a.Guards b.Guards) none)]) (.cond (.seq (.no) (.no)) (.no))) (.seq (.no) (.no))))) Tryz.func103 (fun (_ : True) => ai (trivial) (ai ((Imp.refl (.l 3 eLabRow a.Rows))) (ai ((Imp.refl (.l 3 eLabRow b.Rows))) (ai (fun h1 : (!(decide (a.Rows = b.Rows))) = true => (fun _ : ¬ (a.Rows = b.Rows) => (fun hF : (false : Bool) = (F103 a b) => ai (congrArg (fun r : Bool => (.bool r : Value)) hF) (trivial)) (condT h1 (rfl))) (of_decide_eq_false (notET h1))) (fun h1 : (!(decide (a.Rows = b.Rows))) = false => (fun _ : a.Rows = b.Rows => ai (trivial) (ai ((Imp.refl (.l 3 eLabVia a.Guards))) (ai ((Imp.refl (.l 3 eLabVia b.Guards))) (ai (fun h2 : (!(decide (a.Guards = b.Guards))) = true => (fun _ : ¬ (a.Guards = b.Guards) => (fun hF : (false : Bool) = (F103 a b) => ai (congrArg (fun r : Bool => (.bool r : Value)) hF) (trivial)) (condF h1 (condT h2 (rfl)))) (of_decide_eq_false (notET h2))) (fun h2 : (!(decide (a.Guards = b.Guards))) = false => (fun _ : a.Guards = b.Guards => (fun hF : (true : Bool) = (F103 a b) => ai (congrArg (fun r : Bool => (.bool r : Value)) hF) (trivial)) (condF h1 (condF h2 (rfl)))) (of_decide_eq_true (notEF h2))))))) (of_decide_eq_true (notEF h1))))))) (by kernel_rfl)
theorem as103 (a : LabBox) (b : LabBox) : F103 a b = (decide (a = b)) := by
  cases a; cases b
  simp only [F103, LabBox.mk.injEq, neI, neB, neS, eqstep, Bool.decide_and, Bool.and_true]
theorem oa103 (a : LabBox) (b : LabBox) : (S103 (decide (a = b)) a b).ok Tryz.prog 103 := by
  intro hp; have h := ok103 a b hp; rw [as103 a b] at h; exact h
def F63_s0 (a : List LabBox) (b : List LabBox) : Int → Lp Int Bool := fun i40 =>
  bif (decide (i40 < (a.length : Int))) then (bif (!(decide ((a.getD (Int.toNat i40) default) = (b.getD (Int.toNat i40) default)))) then (.ret false) else (.next (i40 + 1))) else (.done i40)
def F63 (a : List LabBox) (b : List LabBox) : Bool :=
  bif ((a.length : Int) != (b.length : Int)) then false else ((runL (F63_s0 a b) ((Int.toNat ((a.length : Int) - 0)) + 1) 0).fin (fun r => r) (fun i40 => true))
def S63 (R : Bool) (a : List LabBox) (b : List LabBox) : Spec := ⟨[.r (.c (.l 2 eLabBox a)), .r (.c (.l 2 eLabBox b))], .v (.bool R), True⟩
theorem ok63 (a : List LabBox) (b : List LabBox) : (S63 (F63 a b) a b).ok Tryz.prog 63 :=
  fnG_ok mixed (fn := Tryz.f63) (ct := .seqk [(0, 0), (1, 0)] (.no) (.seq (.seq (.no) (.cond (.seq (.no) (.no)) (.no))) (.seq (.seqk [(0, 0), (1, 0)] (.no) (.blk (.loop (ι := Nat × Int) (fun i => (fun (i40 : Int) => (⟨[(0, some (.h 0 0)), (1, some (.h 1 0)), (5, some (.v (vI i40)))], [(0, some (.shr none (.l 2 eLabBox a))), (1, some (.shr none (.l 2 eLabBox b)))], 2⟩ : St)) i.2) (fun i => runL (F63_s0 a b) i.1 i.2 = (runL (F63_s0 a b) ((Int.toNat ((a.length : Int) - 0)) + 1) 0) ∧ (fun (i40 : Int) => (Int.toNat ((a.length : Int) - i40) < i.1 ∧ (0 : Int) ≤ i40)) i.2) (fun i => i.1) (((Int.toNat ((a.length : Int) - 0)) + 1), 0) (fun i => (fun (i40 : Int) => (.seq (.seq (.no) (.cond (.no) (.no))) (.seq (.blk (.seq (.reg [(8, .call 103 (S103 (decide ((a.getD (Int.toNat i40) default) = (b.getD (Int.toNat i40) default))) (a.getD (Int.toNat i40) default) (b.getD (Int.toNat i40) default)) (oa103 (a.getD (Int.toNat i40) default) (b.getD (Int.toNat i40) default)) none)]) (.cond (.seq (.no) (.no)) (.no)))) (.reg [(1, .bnd)])))) i.2)))) (.seq (.no) (.no))))) Tryz.func63 (fun (_ : True) => fun (_ : a.length ≤ 9223372036854775807) => fun (_ : b.length ≤ 9223372036854775807) => ai (fun h1 : ((a.length : Int) != (b.length : Int)) = true => (fun _ : ¬ (a.length : Int) = (b.length : Int) => (fun hF : (false : Bool) = (F63 a b) => ai (congrArg (fun r : Bool => (.bool r : Value)) hF) (trivial)) (condT h1 (rfl))) (bneT h1)) (fun h1 : ((a.length : Int) != (b.length : Int)) = false => (fun _ : (a.length : Int) = (b.length : Int) => fun (_ : a.length ≤ 9223372036854775807) => fun (_ : b.length ≤ 9223372036854775807) => ai (ai (rfl) (ai ((Imp.refl _)) (ai ((Imp.refl _)) ((ai (rfl : runL (F63_s0 a b) ((Int.toNat ((a.length : Int) - 0)) + 1) 0 = (runL (F63_s0 a b) ((Int.toNat ((a.length : Int) - 0)) + 1) 0)) (ai ((Nat.lt_succ_self _ : Int.toNat ((a.length : Int) - 0) < ((Int.toNat ((a.length : Int) - 0)) + 1))) ((by omega : (0 : Int) ≤ 0))))))) : ((.int .i64 0 : Value) = .int .i64 0) ∧ (Imp (.l 2 eLabBox a) (.l 2 eLabBox a)) ∧ (Imp (.l 2 eLabBox b) (.l 2 eLabBox b)) ∧ (runL (F63_s0 a b) ((Int.toNat ((a.length : Int) - 0)) + 1) 0 = (runL (F63_s0 a b) ((Int.toNat ((a.length : Int) - 0)) + 1) 0) ∧ Int.toNat ((a.length : Int) - 0) < ((Int.toNat ((a.length : Int) - 0)) + 1) ∧ (0 : Int) ≤ 0)) (fun (i0 : Nat × Int) (hi0 : runL (F63_s0 a b) i0.1 i0.2 = (runL (F63_s0 a b) ((Int.toNat ((a.length : Int) - 0)) + 1) 0) ∧ (fun (i40 : Int) => (Int.toNat ((a.length : Int) - i40) < i0.1 ∧ (0 : Int) ≤ i40)) i0.2) => (fun (m0 : Nat) (i40 : Int) (hI0 : runL (F63_s0 a b) (m0 + 1) i40 = (runL (F63_s0 a b) ((Int.toNat ((a.length : Int) - 0)) + 1) 0)) (_ : Int.toNat ((a.length : Int) - i40) < m0 + 1) (hl0 : m0 < i0.1) (_ : (0 : Int) ≤ i40) => ai (fun h3 : (decide (i40 < (a.length : Int))) = true => (fun _ : i40 < (a.length : Int) => ai ((by omega : 0 ≤ i40 ∧ i40 < (a.length : Int))) (ai ((by omega : 0 ≤ i40 ∧ i40 < (b.length : Int))) (ai (trivial) (ai ((Imps.refl (eLabBox (a.getD (Int.toNat i40) default)))) (ai ((Imps.refl (eLabBox (b.getD (Int.toNat i40) default)))) (ai (fun h4 : (!(decide ((a.getD (Int.toNat i40) default) = (b.getD (Int.toNat i40) default)))) = true => (fun _ : ¬ ((a.getD (Int.toNat i40) default) = (b.getD (Int.toNat i40) default)) => (fun hF : (false : Bool) = (F63 a b) => ai (congrArg (fun r : Bool => (.bool r : Value)) hF) (trivial)) (condF h1 (finR (runL_ret hI0 (condT h3 (condT h4 (rfl)))) rfl))) (of_decide_eq_false (notET h4))) (fun h4 : (!(decide ((a.getD (Int.toNat i40) default) = (b.getD (Int.toNat i40) default)))) = false => (fun _ : (a.getD (Int.toNat i40) default) = (b.getD (Int.toNat i40) default) => ai ((by unfold i64ok; omega : i64ok (i40 + 1))) (Exists.intro (p := fun j : Nat × Int => (fun (i40_ : Int) => (((.int .i64 (i40 + 1) : Value) = .int .i64 i40_) ∧ (Imp (.l 2 eLabBox a) (.l 2 eLabBox a)) ∧ (Imp (.l 2 eLabBox b) (.l 2 eLabBox b)) ∧ ((runL (F63_s0 a b) j.1 j.2 = (runL (F63_s0 a b) ((Int.toNat ((a.length : Int) - 0)) + 1) 0) ∧ Int.toNat ((a.length : Int) - i40_) < j.1 ∧ (0 : Int) ≤ i40_) ∧ j.1 < i0.1))) j.2) (m0, (i40 + 1)) (ai (rfl) (ai ((Imp.refl _)) (ai ((Imp.refl _)) (ai (ai (runL_next hI0 (condT h3 (condF h4 (rfl)))) (ai ((by omega : Int.toNat ((a.length : Int) - (i40 + 1)) < m0)) ((by omega : (0 : Int) ≤ (i40 + 1))))) hl0)))))) (of_decide_eq_true (notEF h4))))))))) (of_decide_eq_true h3)) (fun h3 : (decide (i40 < (a.length : Int))) = false => (fun _ : ¬ i40 < (a.length : Int) => (fun hD0_5 : (runL (F63_s0 a b) ((Int.toNat ((a.length : Int) - 0)) + 1) 0) = Lp.done i40 => (fun hF : (true : Bool) = (F63 a b) => ai (congrArg (fun r : Bool => (.bool r : Value)) hF) (trivial)) (condF h1 (finD hD0_5 (rfl)))) (runL_done hI0 (condF h3 (rfl)))) (of_decide_eq_false h3))) (i0.1 - 1) i0.2 (hd1 hi0.1 hi0.2.1) (hd2 hi0.2.1) (hd3 hi0.2.1) hi0.2.2)) (bneF h1))) (by kernel_rfl)
theorem as63 (a : List LabBox) (b : List LabBox) : F63 a b = (decide (a = b)) := by
  exact eq_loop (fun x y => decide (x = y)) (fun _ _ => rfl) a b (F63_s0 a b) (fun i => rfl)
theorem oa63 (a : List LabBox) (b : List LabBox) : (S63 (decide (a = b)) a b).ok Tryz.prog 63 := by
  intro hp; have h := ok63 a b hp; rw [as63 a b] at h; exact h
def F26 (a : LabNet) (b : LabNet) : Bool :=
  bif (!(decide (a.Links = b.Links))) then false else (bif (!(decide (a.Boxes = b.Boxes))) then false else true)
def S26 (R : Bool) (a : LabNet) (b : LabNet) : Spec := ⟨[.r (.g (eLabNet a)), .r (.g (eLabNet b))], .v (.bool R), True⟩
theorem ok26 (a : LabNet) (b : LabNet) : (S26 (F26 a b) a b).ok Tryz.prog 26 :=
  fnG_ok mixed (fn := Tryz.f26) (ct := .seq (.no) (.seq (.seq (.reg [(4, .call 62 (S62 (decide (a.Links = b.Links)) a.Links b.Links) (oa62 a.Links b.Links) none)]) (.cond (.seq (.no) (.no)) (.no))) (.seq (.seq (.reg [(4, .call 63 (S63 (decide (a.Boxes = b.Boxes)) a.Boxes b.Boxes) (oa63 a.Boxes b.Boxes) none)]) (.cond (.seq (.no) (.no)) (.no))) (.seq (.no) (.no))))) Tryz.func26 (fun (_ : True) => ai (trivial) (ai ((Imp.refl (.l 2 eLabLink a.Links))) (ai ((Imp.refl (.l 2 eLabLink b.Links))) (ai (fun h1 : (!(decide (a.Links = b.Links))) = true => (fun _ : ¬ (a.Links = b.Links) => (fun hF : (false : Bool) = (F26 a b) => ai (congrArg (fun r : Bool => (.bool r : Value)) hF) (trivial)) (condT h1 (rfl))) (of_decide_eq_false (notET h1))) (fun h1 : (!(decide (a.Links = b.Links))) = false => (fun _ : a.Links = b.Links => ai (trivial) (ai ((Imp.refl (.l 2 eLabBox a.Boxes))) (ai ((Imp.refl (.l 2 eLabBox b.Boxes))) (ai (fun h2 : (!(decide (a.Boxes = b.Boxes))) = true => (fun _ : ¬ (a.Boxes = b.Boxes) => (fun hF : (false : Bool) = (F26 a b) => ai (congrArg (fun r : Bool => (.bool r : Value)) hF) (trivial)) (condF h1 (condT h2 (rfl)))) (of_decide_eq_false (notET h2))) (fun h2 : (!(decide (a.Boxes = b.Boxes))) = false => (fun _ : a.Boxes = b.Boxes => (fun hF : (true : Bool) = (F26 a b) => ai (congrArg (fun r : Bool => (.bool r : Value)) hF) (trivial)) (condF h1 (condF h2 (rfl)))) (of_decide_eq_true (notEF h2))))))) (of_decide_eq_true (notEF h1))))))) (by kernel_rfl)
theorem as26 (a : LabNet) (b : LabNet) : F26 a b = (decide (a = b)) := by
  cases a; cases b
  simp only [F26, LabNet.mk.injEq, neI, neB, neS, eqstep, Bool.decide_and, Bool.and_true]
theorem oa26 (a : LabNet) (b : LabNet) : (S26 (decide (a = b)) a b).ok Tryz.prog 26 := by
  intro hp; have h := ok26 a b hp; rw [as26 a b] at h; exact h
def F64_s0 (a : List LabLink) (k : Int) : (Int × Int × List LabLink) → Lp (Int × Int × List LabLink) (Int × List LabLink) := fun (k400, i40, xs) =>
  bif (decide (i40 < (xs.length : Int))) then (.next ((IntKind.i64.wrap ((IntKind.i64.wrap (k400 + 1)) + 1)), (i40 + 1), (xs.set (i40).toNat (⟨k400, (IntKind.i64.wrap (k400 + 1))⟩ : LabLink)))) else (.done (k400, i40, xs))
def F64 (a : List LabLink) (k : Int) : Int × List LabLink :=
  (runL (F64_s0 a k) ((Int.toNat ((a.length : Int) - 0)) + 1) (k, 0, a)).fin (fun r => r) (fun (k400, i40, xs) => (k400, xs))
def S64 (a : List LabLink) (k : Int) : Spec := ⟨[.ow (.l 2 eLabLink a) (some (.l 2 eLabLink ((F64 a k).2))), .r (.c (.v (vI k)))], .v (vI ((F64 a k).1)), True⟩
theorem ok64 (a : List LabLink) (k : Int) : (S64 a k).ok Tryz.prog 64 :=
  fnG_ok mixed (fn := Tryz.f64) (ct := .seqk [(0, 0)] (.no) (.seq (.seqk [(0, 0)] (.no) (.blk (.loop (ι := Nat × (Int × Int × List LabLink)) (fun i => (fun (k400 : Int) (i40 : Int) (xs : List LabLink) => (⟨[(0, some (.h 0 0)), (1, some (.v (vI k400))), (5, some (.v (vI i40)))], [(0, some (.own 0 (.l 2 eLabLink xs)))], 1⟩ : St)) i.2.1 i.2.2.1 i.2.2.2) (fun i => runL (F64_s0 a k) i.1 i.2 = (runL (F64_s0 a k) ((Int.toNat ((a.length : Int) - 0)) + 1) (k, 0, a)) ∧ (fun (k400 : Int) (i40 : Int) (xs : List LabLink) => (Int.toNat ((xs.length : Int) - i40) < i.1 ∧ (0 : Int) ≤ i40 ∧ xs.length = a.length)) i.2.1 i.2.2.1 i.2.2.2) (fun i => i.1) (((Int.toNat ((a.length : Int) - 0)) + 1), (k, 0, a)) (fun i => (fun (k400 : Int) (i40 : Int) (xs : List LabLink) => (.seq (.seq (.no) (.cond (.no) (.no))) (.seq (.blk (.seq (.reg [(5, .dat (.l 2 eLabLink (xs.set (i40).toNat (⟨k400, (xs.getD (Int.toNat i40) default).B⟩ : LabLink))))]) (.seq (.no) (.seq (.reg [(3, .ix (eLabLink (⟨k400, (xs.getD (Int.toNat i40) default).B⟩ : LabLink))), (5, .dat (.l 2 eLabLink (xs.set (i40).toNat (⟨k400, (IntKind.i64.wrap (k400 + 1))⟩ : LabLink))))]) (.no))))) (.reg [(1, .bnd)])))) i.2.1 i.2.2.1 i.2.2.2)))) (.seq (.no) (.no)))) Tryz.func64 (fun (_ : True) => fun (_ : a.length ≤ 9223372036854775807) => fun (_ : a.length ≤ 9223372036854775807) => ai (ai (rfl) (ai (rfl) (ai ((Imp.refl _)) ((ai (rfl : runL (F64_s0 a k) ((Int.toNat ((a.length : Int) - 0)) + 1) (k, 0, a) = (runL (F64_s0 a k) ((Int.toNat ((a.length : Int) - 0)) + 1) (k, 0, a))) (ai ((Nat.lt_succ_self _ : Int.toNat ((a.length : Int) - 0) < ((Int.toNat ((a.length : Int) - 0)) + 1))) (ai ((by first | omega | (simp only [lens] at * <;> omega) : (0 : Int) ≤ 0)) ((by first | omega | (simp only [lens] at * <;> omega) : a.length = a.length)))))))) : ((.int .i64 k : Value) = .int .i64 k) ∧ ((.int .i64 0 : Value) = .int .i64 0) ∧ (Imp (.l 2 eLabLink a) (.l 2 eLabLink a)) ∧ (runL (F64_s0 a k) ((Int.toNat ((a.length : Int) - 0)) + 1) (k, 0, a) = (runL (F64_s0 a k) ((Int.toNat ((a.length : Int) - 0)) + 1) (k, 0, a)) ∧ Int.toNat ((a.length : Int) - 0) < ((Int.toNat ((a.length : Int) - 0)) + 1) ∧ (0 : Int) ≤ 0 ∧ a.length = a.length)) (fun (i0 : Nat × (Int × Int × List LabLink)) (hi0 : runL (F64_s0 a k) i0.1 i0.2 = (runL (F64_s0 a k) ((Int.toNat ((a.length : Int) - 0)) + 1) (k, 0, a)) ∧ (fun (k400 : Int) (i40 : Int) (xs : List LabLink) => (Int.toNat ((xs.length : Int) - i40) < i0.1 ∧ (0 : Int) ≤ i40 ∧ xs.length = a.length)) i0.2.1 i0.2.2.1 i0.2.2.2) => (fun (m0 : Nat) (k400 : Int) (i40 : Int) (xs : List LabLink) (hI0 : runL (F64_s0 a k) (m0 + 1) (k400, i40, xs) = (runL (F64_s0 a k) ((Int.toNat ((a.length : Int) - 0)) + 1) (k, 0, a))) (_ : Int.toNat ((xs.length : Int) - i40) < m0 + 1) (hl0 : m0 < i0.1) (_ : (0 : Int) ≤ i40) (_ : xs.length = a.length) => ai (fun h2 : (decide (i40 < (xs.length : Int))) = true => (fun _ : i40 < (xs.length : Int) => ai ((by first | omega | (simp only [lens] at * <;> omega) : 0 ≤ i40 ∧ i40 < (xs.length : Int))) (ai ((SetOK.mk eLabLink xs (⟨k400, (xs.getD (Int.toNat i40) default).B⟩ : LabLink) rfl (by exact ai (Imp.refl _) (ai (Imp.refl _) (trivial))) : SetOK (.l 2 eLabLink xs) (i40).toNat (eLabLink (xs.getD (Int.toNat i40) default)) [.v (vI k400), .v (vI ((xs.getD (Int.toNat i40) default).B))] (.l 2 eLabLink (xs.set (i40).toNat (⟨k400, (xs.getD (Int.toNat i40) default).B⟩ : LabLink))))) (ai ((by first | omega | (simp only [lens] at * <;> omega) : 0 ≤ i40 ∧ i40 < ((xs.set (i40).toNat (⟨k400, (xs.getD (Int.toNat i40) default).B⟩ : LabLink)).length : Int))) (ai ((Imps.of_eq (congrArg eLabLink (getD_set_eq xs (i40).toNat (⟨k400, (xs.getD (Int.toNat i40) default).B⟩ : LabLink) (by first | omega | (simp only [lens] at * <;> omega) : (i40).toNat < xs.length))))) (ai ((SetOK.mk2 eLabLink xs (⟨k400, (xs.getD (Int.toNat i40) default).B⟩ : LabLink) (⟨k400, (IntKind.i64.wrap (k400 + 1))⟩ : LabLink) (by first | omega | (simp only [lens] at * <;> omega) : (i40).toNat < xs.length) (by exact ai (Imp.refl _) (ai (Imp.refl _) (trivial))) : SetOK (.l 2 eLabLink (xs.set (i40).toNat (⟨k400, (xs.getD (Int.toNat i40) default).B⟩ : LabLink))) (i40).toNat (eLabLink (⟨k400, (xs.getD (Int.toNat i40) default).B⟩ : LabLink)) [.v (vI k400), .v (vI (IntKind.i64.wrap (k400 + 1)))] (.l 2 eLabLink (xs.set (i40).toNat (⟨k400, (IntKind.i64.wrap (k400 + 1))⟩ : LabLink))))) (ai ((by unfold i64ok; first | omega | (simp only [lens] at * <;> omega) : i64ok (i40 + 1))) (Exists.intro (p := fun j : Nat × (Int × Int × List LabLink) => (fun (k400_ : Int) (i40_ : Int) (xs_ : List LabLink) => (((.int .i64 (IntKind.i64.wrap ((IntKind.i64.wrap (k400 + 1)) + 1)) : Value) = .int .i64 k400_) ∧ ((.int .i64 (i40 + 1) : Value) = .int .i64 i40_) ∧ (Imp (.l 2 eLabLink (xs.set (i40).toNat (⟨k400, (IntKind.i64.wrap (k400 + 1))⟩ : LabLink))) (.l 2 eLabLink xs_)) ∧ ((runL (F64_s0 a k) j.1 j.2 = (runL (F64_s0 a k) ((Int.toNat ((a.length : Int) - 0)) + 1) (k, 0, a)) ∧ Int.toNat ((xs_.length : Int) - i40_) < j.1 ∧ (0 : Int) ≤ i40_ ∧ xs_.length = a.length) ∧ j.1 < i0.1))) j.2.1 j.2.2.1 j.2.2.2) (m0, ((IntKind.i64.wrap ((IntKind.i64.wrap (k400 + 1)) + 1)), (i40 + 1), (xs.set (i40).toNat (⟨k400, (IntKind.i64.wrap (k400 + 1))⟩ : LabLink)))) (ai (rfl) (ai (rfl) (ai ((Imp.refl _)) (ai (ai (runL_next hI0 (condT h2 (rfl))) (ai ((by first | omega | (simp only [lens] at * <;> omega) : Int.toNat (((xs.set (i40).toNat (⟨k400, (IntKind.i64.wrap (k400 + 1))⟩ : LabLink)).length : Int) - (i40 + 1)) < m0)) (ai ((by first | omega | (simp only [lens] at * <;> omega) : (0 : Int) ≤ (i40 + 1))) ((by first | omega | (simp only [lens] at * <;> omega) : (xs.set (i40).toNat (⟨k400, (IntKind.i64.wrap (k400 + 1))⟩ : LabLink)).length = a.length))))) hl0))))))))))) (of_decide_eq_true h2)) (fun h2 : (decide (i40 < (xs.length : Int))) = false => (fun _ : ¬ i40 < (xs.length : Int) => (fun hD0_3 : (runL (F64_s0 a k) ((Int.toNat ((a.length : Int) - 0)) + 1) (k, 0, a)) = Lp.done (k400, i40, xs) => (fun hF : (k400, xs) = (F64 a k) => ai (congrArg (fun r : Int × List LabLink => (.int .i64 r.1 : Value)) hF) (ai (Imp.of_eq (congrArg (fun r : Int × List LabLink => Dat.l 2 eLabLink r.2) hF)) (trivial))) (finD hD0_3 (rfl))) (runL_done hI0 (condF h2 (rfl)))) (of_decide_eq_false h2))) (i0.1 - 1) i0.2.1 i0.2.2.1 i0.2.2.2 (hd1 hi0.1 hi0.2.1) (hd2 hi0.2.1) (hd3 hi0.2.1) hi0.2.2.1 hi0.2.2.2)) (by kernel_rfl)
def F104_s0 (a : List LabRow) (k : Int) : (Int × Int × List LabRow) → Lp (Int × Int × List LabRow) (Int × List LabRow) := fun (k400, i40, xs) =>
  bif (decide (i40 < (xs.length : Int))) then (.next ((IntKind.i64.wrap ((IntKind.i64.wrap ((IntKind.i64.wrap (k400 + 1)) + 1)) + 1)), (i40 + 1), (xs.set (i40).toNat (⟨k400, (IntKind.i64.wrap (k400 + 1)), (IntKind.i64.wrap ((IntKind.i64.wrap (k400 + 1)) + 1))⟩ : LabRow)))) else (.done (k400, i40, xs))
def F104 (a : List LabRow) (k : Int) : Int × List LabRow :=
  (runL (F104_s0 a k) ((Int.toNat ((a.length : Int) - 0)) + 1) (k, 0, a)).fin (fun r => r) (fun (k400, i40, xs) => (k400, xs))
def S104 (a : List LabRow) (k : Int) : Spec := ⟨[.ow (.l 3 eLabRow a) (some (.l 3 eLabRow ((F104 a k).2))), .r (.c (.v (vI k)))], .v (vI ((F104 a k).1)), True⟩
theorem ok104 (a : List LabRow) (k : Int) : (S104 a k).ok Tryz.prog 104 :=
  fnG_ok mixed (fn := Tryz.f104) (ct := .seqk [(0, 0)] (.no) (.seq (.seqk [(0, 0)] (.no) (.blk (.loop (ι := Nat × (Int × Int × List LabRow)) (fun i => (fun (k400 : Int) (i40 : Int) (xs : List LabRow) => (⟨[(0, some (.h 0 0)), (1, some (.v (vI k400))), (5, some (.v (vI i40)))], [(0, some (.own 0 (.l 3 eLabRow xs)))], 1⟩ : St)) i.2.1 i.2.2.1 i.2.2.2) (fun i => runL (F104_s0 a k) i.1 i.2 = (runL (F104_s0 a k) ((Int.toNat ((a.length : Int) - 0)) + 1) (k, 0, a)) ∧ (fun (k400 : Int) (i40 : Int) (xs : List LabRow) => (Int.toNat ((xs.length : Int) - i40) < i.1 ∧ (0 : Int) ≤ i40 ∧ xs.length = a.length)) i.2.1 i.2.2.1 i.2.2.2) (fun i => i.1) (((Int.toNat ((a.length : Int) - 0)) + 1), (k, 0, a)) (fun i => (fun (k400 : Int) (i40 : Int) (xs : List LabRow) => (.seq (.seq (.no) (.cond (.no) (.no))) (.seq (.blk (.seq (.reg [(5, .dat (.l 3 eLabRow (xs.set (i40).toNat (⟨k400, (xs.getD (Int.toNat i40) default).Next, (xs.getD (Int.toNat i40) default).Out⟩ : LabRow))))]) (.seq (.no) (.seq (.reg [(3, .ix (eLabRow (⟨k400, (xs.getD (Int.toNat i40) default).Next, (xs.getD (Int.toNat i40) default).Out⟩ : LabRow))), (5, .dat (.l 3 eLabRow (xs.set (i40).toNat (⟨k400, (IntKind.i64.wrap (k400 + 1)), (xs.getD (Int.toNat i40) default).Out⟩ : LabRow))))]) (.seq (.no) (.seq (.reg [(3, .ix (eLabRow (⟨k400, (IntKind.i64.wrap (k400 + 1)), (xs.getD (Int.toNat i40) default).Out⟩ : LabRow))), (5, .dat (.l 3 eLabRow (xs.set (i40).toNat (⟨k400, (IntKind.i64.wrap (k400 + 1)), (IntKind.i64.wrap ((IntKind.i64.wrap (k400 + 1)) + 1))⟩ : LabRow))))]) (.no))))))) (.reg [(1, .bnd)])))) i.2.1 i.2.2.1 i.2.2.2)))) (.seq (.no) (.no)))) Tryz.func104 (fun (_ : True) => fun (_ : a.length ≤ 9223372036854775807) => fun (_ : a.length ≤ 9223372036854775807) => ai (ai (rfl) (ai (rfl) (ai ((Imp.refl _)) ((ai (rfl : runL (F104_s0 a k) ((Int.toNat ((a.length : Int) - 0)) + 1) (k, 0, a) = (runL (F104_s0 a k) ((Int.toNat ((a.length : Int) - 0)) + 1) (k, 0, a))) (ai ((Nat.lt_succ_self _ : Int.toNat ((a.length : Int) - 0) < ((Int.toNat ((a.length : Int) - 0)) + 1))) (ai ((by first | omega | (simp only [lens] at * <;> omega) : (0 : Int) ≤ 0)) ((by first | omega | (simp only [lens] at * <;> omega) : a.length = a.length)))))))) : ((.int .i64 k : Value) = .int .i64 k) ∧ ((.int .i64 0 : Value) = .int .i64 0) ∧ (Imp (.l 3 eLabRow a) (.l 3 eLabRow a)) ∧ (runL (F104_s0 a k) ((Int.toNat ((a.length : Int) - 0)) + 1) (k, 0, a) = (runL (F104_s0 a k) ((Int.toNat ((a.length : Int) - 0)) + 1) (k, 0, a)) ∧ Int.toNat ((a.length : Int) - 0) < ((Int.toNat ((a.length : Int) - 0)) + 1) ∧ (0 : Int) ≤ 0 ∧ a.length = a.length)) (fun (i0 : Nat × (Int × Int × List LabRow)) (hi0 : runL (F104_s0 a k) i0.1 i0.2 = (runL (F104_s0 a k) ((Int.toNat ((a.length : Int) - 0)) + 1) (k, 0, a)) ∧ (fun (k400 : Int) (i40 : Int) (xs : List LabRow) => (Int.toNat ((xs.length : Int) - i40) < i0.1 ∧ (0 : Int) ≤ i40 ∧ xs.length = a.length)) i0.2.1 i0.2.2.1 i0.2.2.2) => (fun (m0 : Nat) (k400 : Int) (i40 : Int) (xs : List LabRow) (hI0 : runL (F104_s0 a k) (m0 + 1) (k400, i40, xs) = (runL (F104_s0 a k) ((Int.toNat ((a.length : Int) - 0)) + 1) (k, 0, a))) (_ : Int.toNat ((xs.length : Int) - i40) < m0 + 1) (hl0 : m0 < i0.1) (_ : (0 : Int) ≤ i40) (_ : xs.length = a.length) => ai (fun h2 : (decide (i40 < (xs.length : Int))) = true => (fun _ : i40 < (xs.length : Int) => ai ((by first | omega | (simp only [lens] at * <;> omega) : 0 ≤ i40 ∧ i40 < (xs.length : Int))) (ai ((SetOK.mk eLabRow xs (⟨k400, (xs.getD (Int.toNat i40) default).Next, (xs.getD (Int.toNat i40) default).Out⟩ : LabRow) rfl (by exact ai (Imp.refl _) (ai (Imp.refl _) (ai (Imp.refl _) (trivial)))) : SetOK (.l 3 eLabRow xs) (i40).toNat (eLabRow (xs.getD (Int.toNat i40) default)) [.v (vI k400), .v (vI ((xs.getD (Int.toNat i40) default).Next)), .v (vI ((xs.getD (Int.toNat i40) default).Out))] (.l 3 eLabRow (xs.set (i40).toNat (⟨k400, (xs.getD (Int.toNat i40) default).Next, (xs.getD (Int.toNat i40) default).Out⟩ : LabRow))))) (ai ((by first | omega | (simp only [lens] at * <;> omega) : 0 ≤ i40 ∧ i40 < ((xs.set (i40).toNat (⟨k400, (xs.getD (Int.toNat i40) default).Next, (xs.getD (Int.toNat i40) default).Out⟩ : LabRow)).length : Int))) (ai ((Imps.of_eq (congrArg eLabRow (getD_set_eq xs (i40).toNat (⟨k400, (xs.getD (Int.toNat i40) default).Next, (xs.getD (Int.toNat i40) default).Out⟩ : LabRow) (by first | omega | (simp only [lens] at * <;> omega) : (i40).toNat < xs.length))))) (ai ((SetOK.mk2 eLabRow xs (⟨k400, (xs.getD (Int.toNat i40) default).Next, (xs.getD (Int.toNat i40) default).Out⟩ : LabRow) (⟨k400, (IntKind.i64.wrap (k400 + 1)), (xs.getD (Int.toNat i40) default).Out⟩ : LabRow) (by first | omega | (simp only [lens] at * <;> omega) : (i40).toNat < xs.length) (by exact ai (Imp.refl _) (ai (Imp.refl _) (ai (Imp.refl _) (trivial)))) : SetOK (.l 3 eLabRow (xs.set (i40).toNat (⟨k400, (xs.getD (Int.toNat i40) default).Next, (xs.getD (Int.toNat i40) default).Out⟩ : LabRow))) (i40).toNat (eLabRow (⟨k400, (xs.getD (Int.toNat i40) default).Next, (xs.getD (Int.toNat i40) default).Out⟩ : LabRow)) [.v (vI k400), .v (vI (IntKind.i64.wrap (k400 + 1))), .v (vI ((xs.getD (Int.toNat i40) default).Out))] (.l 3 eLabRow (xs.set (i40).toNat (⟨k400, (IntKind.i64.wrap (k400 + 1)), (xs.getD (Int.toNat i40) default).Out⟩ : LabRow))))) (ai ((by first | omega | (simp only [lens] at * <;> omega) : 0 ≤ i40 ∧ i40 < ((xs.set (i40).toNat (⟨k400, (IntKind.i64.wrap (k400 + 1)), (xs.getD (Int.toNat i40) default).Out⟩ : LabRow)).length : Int))) (ai ((Imps.of_eq (congrArg eLabRow (getD_set_eq xs (i40).toNat (⟨k400, (IntKind.i64.wrap (k400 + 1)), (xs.getD (Int.toNat i40) default).Out⟩ : LabRow) (by first | omega | (simp only [lens] at * <;> omega) : (i40).toNat < xs.length))))) (ai ((SetOK.mk2 eLabRow xs (⟨k400, (IntKind.i64.wrap (k400 + 1)), (xs.getD (Int.toNat i40) default).Out⟩ : LabRow) (⟨k400, (IntKind.i64.wrap (k400 + 1)), (IntKind.i64.wrap ((IntKind.i64.wrap (k400 + 1)) + 1))⟩ : LabRow) (by first | omega | (simp only [lens] at * <;> omega) : (i40).toNat < xs.length) (by exact ai (Imp.refl _) (ai (Imp.refl _) (ai (Imp.refl _) (trivial)))) : SetOK (.l 3 eLabRow (xs.set (i40).toNat (⟨k400, (IntKind.i64.wrap (k400 + 1)), (xs.getD (Int.toNat i40) default).Out⟩ : LabRow))) (i40).toNat (eLabRow (⟨k400, (IntKind.i64.wrap (k400 + 1)), (xs.getD (Int.toNat i40) default).Out⟩ : LabRow)) [.v (vI k400), .v (vI (IntKind.i64.wrap (k400 + 1))), .v (vI (IntKind.i64.wrap ((IntKind.i64.wrap (k400 + 1)) + 1)))] (.l 3 eLabRow (xs.set (i40).toNat (⟨k400, (IntKind.i64.wrap (k400 + 1)), (IntKind.i64.wrap ((IntKind.i64.wrap (k400 + 1)) + 1))⟩ : LabRow))))) (ai ((by unfold i64ok; first | omega | (simp only [lens] at * <;> omega) : i64ok (i40 + 1))) (Exists.intro (p := fun j : Nat × (Int × Int × List LabRow) => (fun (k400_ : Int) (i40_ : Int) (xs_ : List LabRow) => (((.int .i64 (IntKind.i64.wrap ((IntKind.i64.wrap ((IntKind.i64.wrap (k400 + 1)) + 1)) + 1)) : Value) = .int .i64 k400_) ∧ ((.int .i64 (i40 + 1) : Value) = .int .i64 i40_) ∧ (Imp (.l 3 eLabRow (xs.set (i40).toNat (⟨k400, (IntKind.i64.wrap (k400 + 1)), (IntKind.i64.wrap ((IntKind.i64.wrap (k400 + 1)) + 1))⟩ : LabRow))) (.l 3 eLabRow xs_)) ∧ ((runL (F104_s0 a k) j.1 j.2 = (runL (F104_s0 a k) ((Int.toNat ((a.length : Int) - 0)) + 1) (k, 0, a)) ∧ Int.toNat ((xs_.length : Int) - i40_) < j.1 ∧ (0 : Int) ≤ i40_ ∧ xs_.length = a.length) ∧ j.1 < i0.1))) j.2.1 j.2.2.1 j.2.2.2) (m0, ((IntKind.i64.wrap ((IntKind.i64.wrap ((IntKind.i64.wrap (k400 + 1)) + 1)) + 1)), (i40 + 1), (xs.set (i40).toNat (⟨k400, (IntKind.i64.wrap (k400 + 1)), (IntKind.i64.wrap ((IntKind.i64.wrap (k400 + 1)) + 1))⟩ : LabRow)))) (ai (rfl) (ai (rfl) (ai ((Imp.refl _)) (ai (ai (runL_next hI0 (condT h2 (rfl))) (ai ((by first | omega | (simp only [lens] at * <;> omega) : Int.toNat (((xs.set (i40).toNat (⟨k400, (IntKind.i64.wrap (k400 + 1)), (IntKind.i64.wrap ((IntKind.i64.wrap (k400 + 1)) + 1))⟩ : LabRow)).length : Int) - (i40 + 1)) < m0)) (ai ((by first | omega | (simp only [lens] at * <;> omega) : (0 : Int) ≤ (i40 + 1))) ((by first | omega | (simp only [lens] at * <;> omega) : (xs.set (i40).toNat (⟨k400, (IntKind.i64.wrap (k400 + 1)), (IntKind.i64.wrap ((IntKind.i64.wrap (k400 + 1)) + 1))⟩ : LabRow)).length = a.length))))) hl0)))))))))))))) (of_decide_eq_true h2)) (fun h2 : (decide (i40 < (xs.length : Int))) = false => (fun _ : ¬ i40 < (xs.length : Int) => (fun hD0_3 : (runL (F104_s0 a k) ((Int.toNat ((a.length : Int) - 0)) + 1) (k, 0, a)) = Lp.done (k400, i40, xs) => (fun hF : (k400, xs) = (F104 a k) => ai (congrArg (fun r : Int × List LabRow => (.int .i64 r.1 : Value)) hF) (ai (Imp.of_eq (congrArg (fun r : Int × List LabRow => Dat.l 3 eLabRow r.2) hF)) (trivial))) (finD hD0_3 (rfl))) (runL_done hI0 (condF h2 (rfl)))) (of_decide_eq_false h2))) (i0.1 - 1) i0.2.1 i0.2.2.1 i0.2.2.2 (hd1 hi0.1 hi0.2.1) (hd2 hi0.2.1) (hd3 hi0.2.1) hi0.2.2.1 hi0.2.2.2)) (by kernel_rfl)
def F105_s0 (a : List LabVia) (k : Int) : (Int × Int × List LabVia) → Lp (Int × Int × List LabVia) (Int × List LabVia) := fun (k400, i40, xs) =>
  bif (decide (i40 < (xs.length : Int))) then (.next ((IntKind.i64.wrap ((IntKind.i64.wrap ((IntKind.i64.wrap (k400 + 1)) + 1)) + 1)), (i40 + 1), (xs.set (i40).toNat (⟨k400, (IntKind.i64.wrap (k400 + 1)), (IntKind.i64.wrap ((IntKind.i64.wrap (k400 + 1)) + 1))⟩ : LabVia)))) else (.done (k400, i40, xs))
def F105 (a : List LabVia) (k : Int) : Int × List LabVia :=
  (runL (F105_s0 a k) ((Int.toNat ((a.length : Int) - 0)) + 1) (k, 0, a)).fin (fun r => r) (fun (k400, i40, xs) => (k400, xs))
def S105 (a : List LabVia) (k : Int) : Spec := ⟨[.ow (.l 3 eLabVia a) (some (.l 3 eLabVia ((F105 a k).2))), .r (.c (.v (vI k)))], .v (vI ((F105 a k).1)), True⟩
theorem ok105 (a : List LabVia) (k : Int) : (S105 a k).ok Tryz.prog 105 :=
  fnG_ok mixed (fn := Tryz.f105) (ct := .seqk [(0, 0)] (.no) (.seq (.seqk [(0, 0)] (.no) (.blk (.loop (ι := Nat × (Int × Int × List LabVia)) (fun i => (fun (k400 : Int) (i40 : Int) (xs : List LabVia) => (⟨[(0, some (.h 0 0)), (1, some (.v (vI k400))), (5, some (.v (vI i40)))], [(0, some (.own 0 (.l 3 eLabVia xs)))], 1⟩ : St)) i.2.1 i.2.2.1 i.2.2.2) (fun i => runL (F105_s0 a k) i.1 i.2 = (runL (F105_s0 a k) ((Int.toNat ((a.length : Int) - 0)) + 1) (k, 0, a)) ∧ (fun (k400 : Int) (i40 : Int) (xs : List LabVia) => (Int.toNat ((xs.length : Int) - i40) < i.1 ∧ (0 : Int) ≤ i40 ∧ xs.length = a.length)) i.2.1 i.2.2.1 i.2.2.2) (fun i => i.1) (((Int.toNat ((a.length : Int) - 0)) + 1), (k, 0, a)) (fun i => (fun (k400 : Int) (i40 : Int) (xs : List LabVia) => (.seq (.seq (.no) (.cond (.no) (.no))) (.seq (.blk (.seq (.reg [(5, .dat (.l 3 eLabVia (xs.set (i40).toNat (⟨k400, (xs.getD (Int.toNat i40) default).Via, (xs.getD (Int.toNat i40) default).Push⟩ : LabVia))))]) (.seq (.no) (.seq (.reg [(3, .ix (eLabVia (⟨k400, (xs.getD (Int.toNat i40) default).Via, (xs.getD (Int.toNat i40) default).Push⟩ : LabVia))), (5, .dat (.l 3 eLabVia (xs.set (i40).toNat (⟨k400, (IntKind.i64.wrap (k400 + 1)), (xs.getD (Int.toNat i40) default).Push⟩ : LabVia))))]) (.seq (.no) (.seq (.reg [(3, .ix (eLabVia (⟨k400, (IntKind.i64.wrap (k400 + 1)), (xs.getD (Int.toNat i40) default).Push⟩ : LabVia))), (5, .dat (.l 3 eLabVia (xs.set (i40).toNat (⟨k400, (IntKind.i64.wrap (k400 + 1)), (IntKind.i64.wrap ((IntKind.i64.wrap (k400 + 1)) + 1))⟩ : LabVia))))]) (.no))))))) (.reg [(1, .bnd)])))) i.2.1 i.2.2.1 i.2.2.2)))) (.seq (.no) (.no)))) Tryz.func105 (fun (_ : True) => fun (_ : a.length ≤ 9223372036854775807) => fun (_ : a.length ≤ 9223372036854775807) => ai (ai (rfl) (ai (rfl) (ai ((Imp.refl _)) ((ai (rfl : runL (F105_s0 a k) ((Int.toNat ((a.length : Int) - 0)) + 1) (k, 0, a) = (runL (F105_s0 a k) ((Int.toNat ((a.length : Int) - 0)) + 1) (k, 0, a))) (ai ((Nat.lt_succ_self _ : Int.toNat ((a.length : Int) - 0) < ((Int.toNat ((a.length : Int) - 0)) + 1))) (ai ((by first | omega | (simp only [lens] at * <;> omega) : (0 : Int) ≤ 0)) ((by first | omega | (simp only [lens] at * <;> omega) : a.length = a.length)))))))) : ((.int .i64 k : Value) = .int .i64 k) ∧ ((.int .i64 0 : Value) = .int .i64 0) ∧ (Imp (.l 3 eLabVia a) (.l 3 eLabVia a)) ∧ (runL (F105_s0 a k) ((Int.toNat ((a.length : Int) - 0)) + 1) (k, 0, a) = (runL (F105_s0 a k) ((Int.toNat ((a.length : Int) - 0)) + 1) (k, 0, a)) ∧ Int.toNat ((a.length : Int) - 0) < ((Int.toNat ((a.length : Int) - 0)) + 1) ∧ (0 : Int) ≤ 0 ∧ a.length = a.length)) (fun (i0 : Nat × (Int × Int × List LabVia)) (hi0 : runL (F105_s0 a k) i0.1 i0.2 = (runL (F105_s0 a k) ((Int.toNat ((a.length : Int) - 0)) + 1) (k, 0, a)) ∧ (fun (k400 : Int) (i40 : Int) (xs : List LabVia) => (Int.toNat ((xs.length : Int) - i40) < i0.1 ∧ (0 : Int) ≤ i40 ∧ xs.length = a.length)) i0.2.1 i0.2.2.1 i0.2.2.2) => (fun (m0 : Nat) (k400 : Int) (i40 : Int) (xs : List LabVia) (hI0 : runL (F105_s0 a k) (m0 + 1) (k400, i40, xs) = (runL (F105_s0 a k) ((Int.toNat ((a.length : Int) - 0)) + 1) (k, 0, a))) (_ : Int.toNat ((xs.length : Int) - i40) < m0 + 1) (hl0 : m0 < i0.1) (_ : (0 : Int) ≤ i40) (_ : xs.length = a.length) => ai (fun h2 : (decide (i40 < (xs.length : Int))) = true => (fun _ : i40 < (xs.length : Int) => ai ((by first | omega | (simp only [lens] at * <;> omega) : 0 ≤ i40 ∧ i40 < (xs.length : Int))) (ai ((SetOK.mk eLabVia xs (⟨k400, (xs.getD (Int.toNat i40) default).Via, (xs.getD (Int.toNat i40) default).Push⟩ : LabVia) rfl (by exact ai (Imp.refl _) (ai (Imp.refl _) (ai (Imp.refl _) (trivial)))) : SetOK (.l 3 eLabVia xs) (i40).toNat (eLabVia (xs.getD (Int.toNat i40) default)) [.v (vI k400), .v (vI ((xs.getD (Int.toNat i40) default).Via)), .v (vI ((xs.getD (Int.toNat i40) default).Push))] (.l 3 eLabVia (xs.set (i40).toNat (⟨k400, (xs.getD (Int.toNat i40) default).Via, (xs.getD (Int.toNat i40) default).Push⟩ : LabVia))))) (ai ((by first | omega | (simp only [lens] at * <;> omega) : 0 ≤ i40 ∧ i40 < ((xs.set (i40).toNat (⟨k400, (xs.getD (Int.toNat i40) default).Via, (xs.getD (Int.toNat i40) default).Push⟩ : LabVia)).length : Int))) (ai ((Imps.of_eq (congrArg eLabVia (getD_set_eq xs (i40).toNat (⟨k400, (xs.getD (Int.toNat i40) default).Via, (xs.getD (Int.toNat i40) default).Push⟩ : LabVia) (by first | omega | (simp only [lens] at * <;> omega) : (i40).toNat < xs.length))))) (ai ((SetOK.mk2 eLabVia xs (⟨k400, (xs.getD (Int.toNat i40) default).Via, (xs.getD (Int.toNat i40) default).Push⟩ : LabVia) (⟨k400, (IntKind.i64.wrap (k400 + 1)), (xs.getD (Int.toNat i40) default).Push⟩ : LabVia) (by first | omega | (simp only [lens] at * <;> omega) : (i40).toNat < xs.length) (by exact ai (Imp.refl _) (ai (Imp.refl _) (ai (Imp.refl _) (trivial)))) : SetOK (.l 3 eLabVia (xs.set (i40).toNat (⟨k400, (xs.getD (Int.toNat i40) default).Via, (xs.getD (Int.toNat i40) default).Push⟩ : LabVia))) (i40).toNat (eLabVia (⟨k400, (xs.getD (Int.toNat i40) default).Via, (xs.getD (Int.toNat i40) default).Push⟩ : LabVia)) [.v (vI k400), .v (vI (IntKind.i64.wrap (k400 + 1))), .v (vI ((xs.getD (Int.toNat i40) default).Push))] (.l 3 eLabVia (xs.set (i40).toNat (⟨k400, (IntKind.i64.wrap (k400 + 1)), (xs.getD (Int.toNat i40) default).Push⟩ : LabVia))))) (ai ((by first | omega | (simp only [lens] at * <;> omega) : 0 ≤ i40 ∧ i40 < ((xs.set (i40).toNat (⟨k400, (IntKind.i64.wrap (k400 + 1)), (xs.getD (Int.toNat i40) default).Push⟩ : LabVia)).length : Int))) (ai ((Imps.of_eq (congrArg eLabVia (getD_set_eq xs (i40).toNat (⟨k400, (IntKind.i64.wrap (k400 + 1)), (xs.getD (Int.toNat i40) default).Push⟩ : LabVia) (by first | omega | (simp only [lens] at * <;> omega) : (i40).toNat < xs.length))))) (ai ((SetOK.mk2 eLabVia xs (⟨k400, (IntKind.i64.wrap (k400 + 1)), (xs.getD (Int.toNat i40) default).Push⟩ : LabVia) (⟨k400, (IntKind.i64.wrap (k400 + 1)), (IntKind.i64.wrap ((IntKind.i64.wrap (k400 + 1)) + 1))⟩ : LabVia) (by first | omega | (simp only [lens] at * <;> omega) : (i40).toNat < xs.length) (by exact ai (Imp.refl _) (ai (Imp.refl _) (ai (Imp.refl _) (trivial)))) : SetOK (.l 3 eLabVia (xs.set (i40).toNat (⟨k400, (IntKind.i64.wrap (k400 + 1)), (xs.getD (Int.toNat i40) default).Push⟩ : LabVia))) (i40).toNat (eLabVia (⟨k400, (IntKind.i64.wrap (k400 + 1)), (xs.getD (Int.toNat i40) default).Push⟩ : LabVia)) [.v (vI k400), .v (vI (IntKind.i64.wrap (k400 + 1))), .v (vI (IntKind.i64.wrap ((IntKind.i64.wrap (k400 + 1)) + 1)))] (.l 3 eLabVia (xs.set (i40).toNat (⟨k400, (IntKind.i64.wrap (k400 + 1)), (IntKind.i64.wrap ((IntKind.i64.wrap (k400 + 1)) + 1))⟩ : LabVia))))) (ai ((by unfold i64ok; first | omega | (simp only [lens] at * <;> omega) : i64ok (i40 + 1))) (Exists.intro (p := fun j : Nat × (Int × Int × List LabVia) => (fun (k400_ : Int) (i40_ : Int) (xs_ : List LabVia) => (((.int .i64 (IntKind.i64.wrap ((IntKind.i64.wrap ((IntKind.i64.wrap (k400 + 1)) + 1)) + 1)) : Value) = .int .i64 k400_) ∧ ((.int .i64 (i40 + 1) : Value) = .int .i64 i40_) ∧ (Imp (.l 3 eLabVia (xs.set (i40).toNat (⟨k400, (IntKind.i64.wrap (k400 + 1)), (IntKind.i64.wrap ((IntKind.i64.wrap (k400 + 1)) + 1))⟩ : LabVia))) (.l 3 eLabVia xs_)) ∧ ((runL (F105_s0 a k) j.1 j.2 = (runL (F105_s0 a k) ((Int.toNat ((a.length : Int) - 0)) + 1) (k, 0, a)) ∧ Int.toNat ((xs_.length : Int) - i40_) < j.1 ∧ (0 : Int) ≤ i40_ ∧ xs_.length = a.length) ∧ j.1 < i0.1))) j.2.1 j.2.2.1 j.2.2.2) (m0, ((IntKind.i64.wrap ((IntKind.i64.wrap ((IntKind.i64.wrap (k400 + 1)) + 1)) + 1)), (i40 + 1), (xs.set (i40).toNat (⟨k400, (IntKind.i64.wrap (k400 + 1)), (IntKind.i64.wrap ((IntKind.i64.wrap (k400 + 1)) + 1))⟩ : LabVia)))) (ai (rfl) (ai (rfl) (ai ((Imp.refl _)) (ai (ai (runL_next hI0 (condT h2 (rfl))) (ai ((by first | omega | (simp only [lens] at * <;> omega) : Int.toNat (((xs.set (i40).toNat (⟨k400, (IntKind.i64.wrap (k400 + 1)), (IntKind.i64.wrap ((IntKind.i64.wrap (k400 + 1)) + 1))⟩ : LabVia)).length : Int) - (i40 + 1)) < m0)) (ai ((by first | omega | (simp only [lens] at * <;> omega) : (0 : Int) ≤ (i40 + 1))) ((by first | omega | (simp only [lens] at * <;> omega) : (xs.set (i40).toNat (⟨k400, (IntKind.i64.wrap (k400 + 1)), (IntKind.i64.wrap ((IntKind.i64.wrap (k400 + 1)) + 1))⟩ : LabVia)).length = a.length))))) hl0)))))))))))))) (of_decide_eq_true h2)) (fun h2 : (decide (i40 < (xs.length : Int))) = false => (fun _ : ¬ i40 < (xs.length : Int) => (fun hD0_3 : (runL (F105_s0 a k) ((Int.toNat ((a.length : Int) - 0)) + 1) (k, 0, a)) = Lp.done (k400, i40, xs) => (fun hF : (k400, xs) = (F105 a k) => ai (congrArg (fun r : Int × List LabVia => (.int .i64 r.1 : Value)) hF) (ai (Imp.of_eq (congrArg (fun r : Int × List LabVia => Dat.l 3 eLabVia r.2) hF)) (trivial))) (finD hD0_3 (rfl))) (runL_done hI0 (condF h2 (rfl)))) (of_decide_eq_false h2))) (i0.1 - 1) i0.2.1 i0.2.2.1 i0.2.2.2 (hd1 hi0.1 hi0.2.1) (hd2 hi0.2.1) (hd3 hi0.2.1) hi0.2.2.1 hi0.2.2.2)) (by kernel_rfl)
def F65_s0 (a : List LabBox) (k : Int) : (Int × Int × List LabBox) → Lp (Int × Int × List LabBox) (Int × List LabBox) := fun (k400, i40, xs) =>
  bif (decide (i40 < (xs.length : Int))) then (.next ((F105 ((xs.getD (Int.toNat i40) default).Guards) ((F104 ((xs.getD (Int.toNat i40) default).Rows) k400).1)).1, (i40 + 1), (xs.set (i40).toNat (⟨(F104 ((xs.getD (Int.toNat i40) default).Rows) k400).2, (F105 ((xs.getD (Int.toNat i40) default).Guards) ((F104 ((xs.getD (Int.toNat i40) default).Rows) k400).1)).2⟩ : LabBox)))) else (.done (k400, i40, xs))
def F65 (a : List LabBox) (k : Int) : Int × List LabBox :=
  (runL (F65_s0 a k) ((Int.toNat ((a.length : Int) - 0)) + 1) (k, 0, a)).fin (fun r => r) (fun (k400, i40, xs) => (k400, xs))
def S65 (a : List LabBox) (k : Int) : Spec := ⟨[.ow (.l 2 eLabBox a) (some (.l 2 eLabBox ((F65 a k).2))), .r (.c (.v (vI k)))], .v (vI ((F65 a k).1)), True⟩
theorem ok65 (a : List LabBox) (k : Int) : (S65 a k).ok Tryz.prog 65 :=
  fnG_ok mixed (fn := Tryz.f65) (ct := .seqk [(0, 0)] (.no) (.seq (.seqk [(0, 0)] (.no) (.blk (.loop (ι := Nat × (Int × Int × List LabBox)) (fun i => (fun (k400 : Int) (i40 : Int) (xs : List LabBox) => (⟨[(0, some (.h 0 0)), (1, some (.v (vI k400))), (5, some (.v (vI i40)))], [(0, some (.own 0 (.l 2 eLabBox xs)))], 1⟩ : St)) i.2.1 i.2.2.1 i.2.2.2) (fun i => runL (F65_s0 a k) i.1 i.2 = (runL (F65_s0 a k) ((Int.toNat ((a.length : Int) - 0)) + 1) (k, 0, a)) ∧ (fun (k400 : Int) (i40 : Int) (xs : List LabBox) => (Int.toNat ((xs.length : Int) - i40) < i.1 ∧ (0 : Int) ≤ i40 ∧ xs.length = a.length)) i.2.1 i.2.2.1 i.2.2.2) (fun i => i.1) (((Int.toNat ((a.length : Int) - 0)) + 1), (k, 0, a)) (fun i => (fun (k400 : Int) (i40 : Int) (xs : List LabBox) => (.seq (.seq (.no) (.cond (.no) (.no))) (.seq (.blk (.seq (.reg [(6, .calle 104 (S104 ((xs.getD (Int.toNat i40) default).Rows) k400) (ok104 ((xs.getD (Int.toNat i40) default).Rows) k400) (.l 2 eLabBox (xs.set (i40).toNat (⟨(F104 ((xs.getD (Int.toNat i40) default).Rows) k400).2, (xs.getD (Int.toNat i40) default).Guards⟩ : LabBox))))]) (.reg [(2, .ix (eLabBox (⟨(F104 ((xs.getD (Int.toNat i40) default).Rows) k400).2, (xs.getD (Int.toNat i40) default).Guards⟩ : LabBox))), (6, .calle 105 (S105 ((xs.getD (Int.toNat i40) default).Guards) ((F104 ((xs.getD (Int.toNat i40) default).Rows) k400).1)) (ok105 ((xs.getD (Int.toNat i40) default).Guards) ((F104 ((xs.getD (Int.toNat i40) default).Rows) k400).1)) (.l 2 eLabBox (xs.set (i40).toNat (⟨(F104 ((xs.getD (Int.toNat i40) default).Rows) k400).2, (F105 ((xs.getD (Int.toNat i40) default).Guards) ((F104 ((xs.getD (Int.toNat i40) default).Rows) k400).1)).2⟩ : LabBox))))]))) (.reg [(1, .bnd)])))) i.2.1 i.2.2.1 i.2.2.2)))) (.seq (.no) (.no)))) Tryz.func65 (fun (_ : True) => fun (_ : a.length ≤ 9223372036854775807) => fun (_ : a.length ≤ 9223372036854775807) => ai (ai (rfl) (ai (rfl) (ai ((Imp.refl _)) ((ai (rfl : runL (F65_s0 a k) ((Int.toNat ((a.length : Int) - 0)) + 1) (k, 0, a) = (runL (F65_s0 a k) ((Int.toNat ((a.length : Int) - 0)) + 1) (k, 0, a))) (ai ((Nat.lt_succ_self _ : Int.toNat ((a.length : Int) - 0) < ((Int.toNat ((a.length : Int) - 0)) + 1))) (ai ((by first | omega | (simp only [lens] at * <;> omega) : (0 : Int) ≤ 0)) ((by first | omega | (simp only [lens] at * <;> omega) : a.length = a.length)))))))) : ((.int .i64 k : Value) = .int .i64 k) ∧ ((.int .i64 0 : Value) = .int .i64 0) ∧ (Imp (.l 2 eLabBox a) (.l 2 eLabBox a)) ∧ (runL (F65_s0 a k) ((Int.toNat ((a.length : Int) - 0)) + 1) (k, 0, a) = (runL (F65_s0 a k) ((Int.toNat ((a.length : Int) - 0)) + 1) (k, 0, a)) ∧ Int.toNat ((a.length : Int) - 0) < ((Int.toNat ((a.length : Int) - 0)) + 1) ∧ (0 : Int) ≤ 0 ∧ a.length = a.length)) (fun (i0 : Nat × (Int × Int × List LabBox)) (hi0 : runL (F65_s0 a k) i0.1 i0.2 = (runL (F65_s0 a k) ((Int.toNat ((a.length : Int) - 0)) + 1) (k, 0, a)) ∧ (fun (k400 : Int) (i40 : Int) (xs : List LabBox) => (Int.toNat ((xs.length : Int) - i40) < i0.1 ∧ (0 : Int) ≤ i40 ∧ xs.length = a.length)) i0.2.1 i0.2.2.1 i0.2.2.2) => (fun (m0 : Nat) (k400 : Int) (i40 : Int) (xs : List LabBox) (hI0 : runL (F65_s0 a k) (m0 + 1) (k400, i40, xs) = (runL (F65_s0 a k) ((Int.toNat ((a.length : Int) - 0)) + 1) (k, 0, a))) (_ : Int.toNat ((xs.length : Int) - i40) < m0 + 1) (hl0 : m0 < i0.1) (_ : (0 : Int) ≤ i40) (_ : xs.length = a.length) => ai (fun h2 : (decide (i40 < (xs.length : Int))) = true => (fun _ : i40 < (xs.length : Int) => ai ((by first | omega | (simp only [lens] at * <;> omega) : 0 ≤ i40 ∧ i40 < (xs.length : Int))) (ai (trivial) (ai ((Imp.refl (.l 3 eLabRow ((xs.getD (Int.toNat i40) default).Rows)))) (ai ((SetOK.mk eLabBox xs (⟨(F104 ((xs.getD (Int.toNat i40) default).Rows) k400).2, (xs.getD (Int.toNat i40) default).Guards⟩ : LabBox) rfl (by exact ai (Imp.refl _) (ai (Imp.refl _) (trivial))) : SetOK (.l 2 eLabBox xs) (i40).toNat (eLabBox (xs.getD (Int.toNat i40) default)) [.l 3 eLabRow ((F104 ((xs.getD (Int.toNat i40) default).Rows) k400).2), .l 3 eLabVia ((xs.getD (Int.toNat i40) default).Guards)] (.l 2 eLabBox (xs.set (i40).toNat (⟨(F104 ((xs.getD (Int.toNat i40) default).Rows) k400).2, (xs.getD (Int.toNat i40) default).Guards⟩ : LabBox))))) (ai ((Imp.refl (.v (vI k400)))) (ai ((by first | omega | (simp only [lens] at * <;> omega) : 0 ≤ i40 ∧ i40 < ((xs.set (i40).toNat (⟨(F104 ((xs.getD (Int.toNat i40) default).Rows) k400).2, (xs.getD (Int.toNat i40) default).Guards⟩ : LabBox)).length : Int))) (ai ((Imps.of_eq (congrArg eLabBox (getD_set_eq xs (i40).toNat (⟨(F104 ((xs.getD (Int.toNat i40) default).Rows) k400).2, (xs.getD (Int.toNat i40) default).Guards⟩ : LabBox) (by first | omega | (simp only [lens] at * <;> omega) : (i40).toNat < xs.length))))) (ai (trivial) (ai ((Imp.refl (.l 3 eLabVia ((xs.getD (Int.toNat i40) default).Guards)))) (ai ((SetOK.mk2 eLabBox xs (⟨(F104 ((xs.getD (Int.toNat i40) default).Rows) k400).2, (xs.getD (Int.toNat i40) default).Guards⟩ : LabBox) (⟨(F104 ((xs.getD (Int.toNat i40) default).Rows) k400).2, (F105 ((xs.getD (Int.toNat i40) default).Guards) ((F104 ((xs.getD (Int.toNat i40) default).Rows) k400).1)).2⟩ : LabBox) (by first | omega | (simp only [lens] at * <;> omega) : (i40).toNat < xs.length) (by exact ai (Imp.refl _) (ai (Imp.refl _) (trivial))) : SetOK (.l 2 eLabBox (xs.set (i40).toNat (⟨(F104 ((xs.getD (Int.toNat i40) default).Rows) k400).2, (xs.getD (Int.toNat i40) default).Guards⟩ : LabBox))) (i40).toNat (eLabBox (⟨(F104 ((xs.getD (Int.toNat i40) default).Rows) k400).2, (xs.getD (Int.toNat i40) default).Guards⟩ : LabBox)) [.l 3 eLabRow ((F104 ((xs.getD (Int.toNat i40) default).Rows) k400).2), .l 3 eLabVia ((F105 ((xs.getD (Int.toNat i40) default).Guards) ((F104 ((xs.getD (Int.toNat i40) default).Rows) k400).1)).2)] (.l 2 eLabBox (xs.set (i40).toNat (⟨(F104 ((xs.getD (Int.toNat i40) default).Rows) k400).2, (F105 ((xs.getD (Int.toNat i40) default).Guards) ((F104 ((xs.getD (Int.toNat i40) default).Rows) k400).1)).2⟩ : LabBox))))) (ai ((Imp.refl (.v (vI ((F104 ((xs.getD (Int.toNat i40) default).Rows) k400).1))))) (ai ((by unfold i64ok; first | omega | (simp only [lens] at * <;> omega) : i64ok (i40 + 1))) (Exists.intro (p := fun j : Nat × (Int × Int × List LabBox) => (fun (k400_ : Int) (i40_ : Int) (xs_ : List LabBox) => (((.int .i64 ((F105 ((xs.getD (Int.toNat i40) default).Guards) ((F104 ((xs.getD (Int.toNat i40) default).Rows) k400).1)).1) : Value) = .int .i64 k400_) ∧ ((.int .i64 (i40 + 1) : Value) = .int .i64 i40_) ∧ (Imp (.l 2 eLabBox (xs.set (i40).toNat (⟨(F104 ((xs.getD (Int.toNat i40) default).Rows) k400).2, (F105 ((xs.getD (Int.toNat i40) default).Guards) ((F104 ((xs.getD (Int.toNat i40) default).Rows) k400).1)).2⟩ : LabBox))) (.l 2 eLabBox xs_)) ∧ ((runL (F65_s0 a k) j.1 j.2 = (runL (F65_s0 a k) ((Int.toNat ((a.length : Int) - 0)) + 1) (k, 0, a)) ∧ Int.toNat ((xs_.length : Int) - i40_) < j.1 ∧ (0 : Int) ≤ i40_ ∧ xs_.length = a.length) ∧ j.1 < i0.1))) j.2.1 j.2.2.1 j.2.2.2) (m0, ((F105 ((xs.getD (Int.toNat i40) default).Guards) ((F104 ((xs.getD (Int.toNat i40) default).Rows) k400).1)).1, (i40 + 1), (xs.set (i40).toNat (⟨(F104 ((xs.getD (Int.toNat i40) default).Rows) k400).2, (F105 ((xs.getD (Int.toNat i40) default).Guards) ((F104 ((xs.getD (Int.toNat i40) default).Rows) k400).1)).2⟩ : LabBox)))) (ai (rfl) (ai (rfl) (ai ((Imp.refl _)) (ai (ai (runL_next hI0 (condT h2 (rfl))) (ai ((by first | omega | (simp only [lens] at * <;> omega) : Int.toNat (((xs.set (i40).toNat (⟨(F104 ((xs.getD (Int.toNat i40) default).Rows) k400).2, (F105 ((xs.getD (Int.toNat i40) default).Guards) ((F104 ((xs.getD (Int.toNat i40) default).Rows) k400).1)).2⟩ : LabBox)).length : Int) - (i40 + 1)) < m0)) (ai ((by first | omega | (simp only [lens] at * <;> omega) : (0 : Int) ≤ (i40 + 1))) ((by first | omega | (simp only [lens] at * <;> omega) : (xs.set (i40).toNat (⟨(F104 ((xs.getD (Int.toNat i40) default).Rows) k400).2, (F105 ((xs.getD (Int.toNat i40) default).Guards) ((F104 ((xs.getD (Int.toNat i40) default).Rows) k400).1)).2⟩ : LabBox)).length = a.length))))) hl0))))))))))))))))) (of_decide_eq_true h2)) (fun h2 : (decide (i40 < (xs.length : Int))) = false => (fun _ : ¬ i40 < (xs.length : Int) => (fun hD0_3 : (runL (F65_s0 a k) ((Int.toNat ((a.length : Int) - 0)) + 1) (k, 0, a)) = Lp.done (k400, i40, xs) => (fun hF : (k400, xs) = (F65 a k) => ai (congrArg (fun r : Int × List LabBox => (.int .i64 r.1 : Value)) hF) (ai (Imp.of_eq (congrArg (fun r : Int × List LabBox => Dat.l 2 eLabBox r.2) hF)) (trivial))) (finD hD0_3 (rfl))) (runL_done hI0 (condF h2 (rfl)))) (of_decide_eq_false h2))) (i0.1 - 1) i0.2.1 i0.2.2.1 i0.2.2.2 (hd1 hi0.1 hi0.2.1) (hd2 hi0.2.1) (hd3 hi0.2.1) hi0.2.2.1 hi0.2.2.2)) (by kernel_rfl)
def F27 (a : LabNet) (k : Int) : Int × LabNet :=
  ((F65 a.Boxes ((F64 a.Links k).1)).1, (⟨(F64 a.Links k).2, (F65 a.Boxes ((F64 a.Links k).1)).2⟩ : LabNet))
def S27 (a : LabNet) (k : Int) : Spec := ⟨[.og (eLabNet a) (eLabNet ((F27 a k).2)), .r (.c (.v (vI k)))], .v (vI ((F27 a k).1)), True⟩
theorem ok27 (a : LabNet) (k : Int) : (S27 a k).ok Tryz.prog 27 :=
  fnG_ok mixed (fn := Tryz.f27) (ct := .seqk [(0, 0), (0, 1)] (.no) (.seq (.reg [(3, .call 64 (S64 a.Links k) (ok64 a.Links k) none)]) (.seq (.reg [(3, .call 65 (S65 a.Boxes ((F64 a.Links k).1)) (ok65 a.Boxes ((F64 a.Links k).1)) none)]) (.seq (.no) (.no))))) Tryz.func27 (fun (_ : True) => fun (_ : a.Links.length ≤ 9223372036854775807) => fun (_ : a.Boxes.length ≤ 9223372036854775807) => ai (trivial) (ai ((Imp.refl (.l 2 eLabLink a.Links))) (ai ((Imp.refl (.v (vI k)))) (ai (trivial) (ai ((Imp.refl (.l 2 eLabBox a.Boxes))) (ai ((Imp.refl (.v (vI ((F64 a.Links k).1))))) ((fun hF : ((F65 a.Boxes ((F64 a.Links k).1)).1, (⟨(F64 a.Links k).2, (F65 a.Boxes ((F64 a.Links k).1)).2⟩ : LabNet)) = (F27 a k) => ai (congrArg (fun r : Int × LabNet => (.int .i64 r.1 : Value)) hF) (ai (ai (Imp.of_eq (congrArg (fun r : Int × LabNet => Dat.l 2 eLabLink r.2.Links) hF)) (ai (Imp.of_eq (congrArg (fun r : Int × LabNet => Dat.l 2 eLabBox r.2.Boxes) hF)) (trivial))) (trivial))) (rfl)))))))) (by kernel_rfl)
def F66_s0 (a : List LabLink) (k : Int) : (Int × Int) → Lp (Int × Int) Int := fun (k400, i40) =>
  bif (decide (i40 < (a.length : Int))) then (bif ((a.getD (Int.toNat i40) default).A != k400) then (.ret (-1)) else (bif ((a.getD (Int.toNat i40) default).B != (IntKind.i64.wrap (k400 + 1))) then (.ret (-1)) else (.next ((IntKind.i64.wrap ((IntKind.i64.wrap (k400 + 1)) + 1)), (i40 + 1))))) else (.done (k400, i40))
def F66 (a : List LabLink) (k : Int) : Int :=
  (runL (F66_s0 a k) ((Int.toNat ((a.length : Int) - 0)) + 1) (k, 0)).fin (fun r => r) (fun (k400, i40) => k400)
def S66 (a : List LabLink) (k : Int) : Spec := ⟨[.r (.c (.l 2 eLabLink a)), .r (.c (.v (vI k)))], .v (vI (F66 a k)), True⟩
theorem ok66 (a : List LabLink) (k : Int) : (S66 a k).ok Tryz.prog 66 :=
  fnG_ok mixed (fn := Tryz.f66) (ct := .seqk [(0, 0)] (.no) (.seq (.seqk [(0, 0)] (.no) (.blk (.loop (ι := Nat × (Int × Int)) (fun i => (fun (k400 : Int) (i40 : Int) => (⟨[(0, some (.h 0 0)), (1, some (.v (vI k400))), (5, some (.v (vI i40)))], [(0, some (.shr none (.l 2 eLabLink a)))], 1⟩ : St)) i.2.1 i.2.2) (fun i => runL (F66_s0 a k) i.1 i.2 = (runL (F66_s0 a k) ((Int.toNat ((a.length : Int) - 0)) + 1) (k, 0)) ∧ (fun (k400 : Int) (i40 : Int) => (Int.toNat ((a.length : Int) - i40) < i.1 ∧ (0 : Int) ≤ i40)) i.2.1 i.2.2) (fun i => i.1) (((Int.toNat ((a.length : Int) - 0)) + 1), (k, 0)) (fun i => (fun (k400 : Int) (i40 : Int) => (.seq (.seq (.no) (.cond (.no) (.no))) (.seq (.blk (.seq (.seq (.no) (.cond (.seq (.no) (.no)) (.no))) (.seq (.no) (.seq (.seq (.no) (.cond (.seq (.no) (.no)) (.no))) (.no))))) (.reg [(1, .bnd)])))) i.2.1 i.2.2)))) (.seq (.no) (.no)))) Tryz.func66 (fun (_ : True) => fun (_ : a.length ≤ 9223372036854775807) => fun (_ : a.length ≤ 9223372036854775807) => ai (ai (rfl) (ai (rfl) (ai ((Imp.refl _)) ((ai (rfl : runL (F66_s0 a k) ((Int.toNat ((a.length : Int) - 0)) + 1) (k, 0) = (runL (F66_s0 a k) ((Int.toNat ((a.length : Int) - 0)) + 1) (k, 0))) (ai ((Nat.lt_succ_self _ : Int.toNat ((a.length : Int) - 0) < ((Int.toNat ((a.length : Int) - 0)) + 1))) ((by omega : (0 : Int) ≤ 0))))))) : ((.int .i64 k : Value) = .int .i64 k) ∧ ((.int .i64 0 : Value) = .int .i64 0) ∧ (Imp (.l 2 eLabLink a) (.l 2 eLabLink a)) ∧ (runL (F66_s0 a k) ((Int.toNat ((a.length : Int) - 0)) + 1) (k, 0) = (runL (F66_s0 a k) ((Int.toNat ((a.length : Int) - 0)) + 1) (k, 0)) ∧ Int.toNat ((a.length : Int) - 0) < ((Int.toNat ((a.length : Int) - 0)) + 1) ∧ (0 : Int) ≤ 0)) (fun (i0 : Nat × (Int × Int)) (hi0 : runL (F66_s0 a k) i0.1 i0.2 = (runL (F66_s0 a k) ((Int.toNat ((a.length : Int) - 0)) + 1) (k, 0)) ∧ (fun (k400 : Int) (i40 : Int) => (Int.toNat ((a.length : Int) - i40) < i0.1 ∧ (0 : Int) ≤ i40)) i0.2.1 i0.2.2) => (fun (m0 : Nat) (k400 : Int) (i40 : Int) (hI0 : runL (F66_s0 a k) (m0 + 1) (k400, i40) = (runL (F66_s0 a k) ((Int.toNat ((a.length : Int) - 0)) + 1) (k, 0))) (_ : Int.toNat ((a.length : Int) - i40) < m0 + 1) (hl0 : m0 < i0.1) (_ : (0 : Int) ≤ i40) => ai (fun h2 : (decide (i40 < (a.length : Int))) = true => (fun _ : i40 < (a.length : Int) => ai ((by omega : 0 ≤ i40 ∧ i40 < (a.length : Int))) (ai (fun h3 : ((a.getD (Int.toNat i40) default).A != k400) = true => (fun _ : ¬ (a.getD (Int.toNat i40) default).A = k400 => (fun hF : ((-1) : Int) = (F66 a k) => ai (congrArg (fun r : Int => (.int .i64 r : Value)) hF) (trivial)) (finR (runL_ret hI0 (condT h2 (condT h3 (rfl)))) rfl)) (bneT h3)) (fun h3 : ((a.getD (Int.toNat i40) default).A != k400) = false => (fun _ : (a.getD (Int.toNat i40) default).A = k400 => ai ((by omega : 0 ≤ i40 ∧ i40 < (a.length : Int))) (ai (fun h4 : ((a.getD (Int.toNat i40) default).B != (IntKind.i64.wrap (k400 + 1))) = true => (fun _ : ¬ (a.getD (Int.toNat i40) default).B = (IntKind.i64.wrap (k400 + 1)) => (fun hF : ((-1) : Int) = (F66 a k) => ai (congrArg (fun r : Int => (.int .i64 r : Value)) hF) (trivial)) (finR (runL_ret hI0 (condT h2 (condF h3 (condT h4 (rfl))))) rfl)) (bneT h4)) (fun h4 : ((a.getD (Int.toNat i40) default).B != (IntKind.i64.wrap (k400 + 1))) = false => (fun _ : (a.getD (Int.toNat i40) default).B = (IntKind.i64.wrap (k400 + 1)) => ai ((by unfold i64ok; omega : i64ok (i40 + 1))) (Exists.intro (p := fun j : Nat × (Int × Int) => (fun (k400_ : Int) (i40_ : Int) => (((.int .i64 (IntKind.i64.wrap ((IntKind.i64.wrap (k400 + 1)) + 1)) : Value) = .int .i64 k400_) ∧ ((.int .i64 (i40 + 1) : Value) = .int .i64 i40_) ∧ (Imp (.l 2 eLabLink a) (.l 2 eLabLink a)) ∧ ((runL (F66_s0 a k) j.1 j.2 = (runL (F66_s0 a k) ((Int.toNat ((a.length : Int) - 0)) + 1) (k, 0)) ∧ Int.toNat ((a.length : Int) - i40_) < j.1 ∧ (0 : Int) ≤ i40_) ∧ j.1 < i0.1))) j.2.1 j.2.2) (m0, ((IntKind.i64.wrap ((IntKind.i64.wrap (k400 + 1)) + 1)), (i40 + 1))) (ai (rfl) (ai (rfl) (ai ((Imp.refl _)) (ai (ai (runL_next hI0 (condT h2 (condF h3 (condF h4 (rfl))))) (ai ((by omega : Int.toNat ((a.length : Int) - (i40 + 1)) < m0)) ((by omega : (0 : Int) ≤ (i40 + 1))))) hl0)))))) (bneF h4)))) (bneF h3)))) (of_decide_eq_true h2)) (fun h2 : (decide (i40 < (a.length : Int))) = false => (fun _ : ¬ i40 < (a.length : Int) => (fun hD0_5 : (runL (F66_s0 a k) ((Int.toNat ((a.length : Int) - 0)) + 1) (k, 0)) = Lp.done (k400, i40) => (fun hF : (k400 : Int) = (F66 a k) => ai (congrArg (fun r : Int => (.int .i64 r : Value)) hF) (trivial)) (finD hD0_5 (rfl))) (runL_done hI0 (condF h2 (rfl)))) (of_decide_eq_false h2))) (i0.1 - 1) i0.2.1 i0.2.2 (hd1 hi0.1 hi0.2.1) (hd2 hi0.2.1) (hd3 hi0.2.1) hi0.2.2)) (by kernel_rfl)
def F106_s0 (a : List LabRow) (k : Int) : (Int × Int) → Lp (Int × Int) Int := fun (k400, i40) =>
  bif (decide (i40 < (a.length : Int))) then (bif ((a.getD (Int.toNat i40) default).In != k400) then (.ret (-1)) else (bif ((a.getD (Int.toNat i40) default).Next != (IntKind.i64.wrap (k400 + 1))) then (.ret (-1)) else (bif ((a.getD (Int.toNat i40) default).Out != (IntKind.i64.wrap ((IntKind.i64.wrap (k400 + 1)) + 1))) then (.ret (-1)) else (.next ((IntKind.i64.wrap ((IntKind.i64.wrap ((IntKind.i64.wrap (k400 + 1)) + 1)) + 1)), (i40 + 1)))))) else (.done (k400, i40))
def F106 (a : List LabRow) (k : Int) : Int :=
  (runL (F106_s0 a k) ((Int.toNat ((a.length : Int) - 0)) + 1) (k, 0)).fin (fun r => r) (fun (k400, i40) => k400)
def S106 (a : List LabRow) (k : Int) : Spec := ⟨[.r (.c (.l 3 eLabRow a)), .r (.c (.v (vI k)))], .v (vI (F106 a k)), True⟩
theorem ok106 (a : List LabRow) (k : Int) : (S106 a k).ok Tryz.prog 106 :=
  fnG_ok mixed (fn := Tryz.f106) (ct := .seqk [(0, 0)] (.no) (.seq (.seqk [(0, 0)] (.no) (.blk (.loop (ι := Nat × (Int × Int)) (fun i => (fun (k400 : Int) (i40 : Int) => (⟨[(0, some (.h 0 0)), (1, some (.v (vI k400))), (5, some (.v (vI i40)))], [(0, some (.shr none (.l 3 eLabRow a)))], 1⟩ : St)) i.2.1 i.2.2) (fun i => runL (F106_s0 a k) i.1 i.2 = (runL (F106_s0 a k) ((Int.toNat ((a.length : Int) - 0)) + 1) (k, 0)) ∧ (fun (k400 : Int) (i40 : Int) => (Int.toNat ((a.length : Int) - i40) < i.1 ∧ (0 : Int) ≤ i40)) i.2.1 i.2.2) (fun i => i.1) (((Int.toNat ((a.length : Int) - 0)) + 1), (k, 0)) (fun i => (fun (k400 : Int) (i40 : Int) => (.seq (.seq (.no) (.cond (.no) (.no))) (.seq (.blk (.seq (.seq (.no) (.cond (.seq (.no) (.no)) (.no))) (.seq (.no) (.seq (.seq (.no) (.cond (.seq (.no) (.no)) (.no))) (.seq (.no) (.seq (.seq (.no) (.cond (.seq (.no) (.no)) (.no))) (.no))))))) (.reg [(1, .bnd)])))) i.2.1 i.2.2)))) (.seq (.no) (.no)))) Tryz.func106 (fun (_ : True) => fun (_ : a.length ≤ 9223372036854775807) => fun (_ : a.length ≤ 9223372036854775807) => ai (ai (rfl) (ai (rfl) (ai ((Imp.refl _)) ((ai (rfl : runL (F106_s0 a k) ((Int.toNat ((a.length : Int) - 0)) + 1) (k, 0) = (runL (F106_s0 a k) ((Int.toNat ((a.length : Int) - 0)) + 1) (k, 0))) (ai ((Nat.lt_succ_self _ : Int.toNat ((a.length : Int) - 0) < ((Int.toNat ((a.length : Int) - 0)) + 1))) ((by omega : (0 : Int) ≤ 0))))))) : ((.int .i64 k : Value) = .int .i64 k) ∧ ((.int .i64 0 : Value) = .int .i64 0) ∧ (Imp (.l 3 eLabRow a) (.l 3 eLabRow a)) ∧ (runL (F106_s0 a k) ((Int.toNat ((a.length : Int) - 0)) + 1) (k, 0) = (runL (F106_s0 a k) ((Int.toNat ((a.length : Int) - 0)) + 1) (k, 0)) ∧ Int.toNat ((a.length : Int) - 0) < ((Int.toNat ((a.length : Int) - 0)) + 1) ∧ (0 : Int) ≤ 0)) (fun (i0 : Nat × (Int × Int)) (hi0 : runL (F106_s0 a k) i0.1 i0.2 = (runL (F106_s0 a k) ((Int.toNat ((a.length : Int) - 0)) + 1) (k, 0)) ∧ (fun (k400 : Int) (i40 : Int) => (Int.toNat ((a.length : Int) - i40) < i0.1 ∧ (0 : Int) ≤ i40)) i0.2.1 i0.2.2) => (fun (m0 : Nat) (k400 : Int) (i40 : Int) (hI0 : runL (F106_s0 a k) (m0 + 1) (k400, i40) = (runL (F106_s0 a k) ((Int.toNat ((a.length : Int) - 0)) + 1) (k, 0))) (_ : Int.toNat ((a.length : Int) - i40) < m0 + 1) (hl0 : m0 < i0.1) (_ : (0 : Int) ≤ i40) => ai (fun h2 : (decide (i40 < (a.length : Int))) = true => (fun _ : i40 < (a.length : Int) => ai ((by omega : 0 ≤ i40 ∧ i40 < (a.length : Int))) (ai (fun h3 : ((a.getD (Int.toNat i40) default).In != k400) = true => (fun _ : ¬ (a.getD (Int.toNat i40) default).In = k400 => (fun hF : ((-1) : Int) = (F106 a k) => ai (congrArg (fun r : Int => (.int .i64 r : Value)) hF) (trivial)) (finR (runL_ret hI0 (condT h2 (condT h3 (rfl)))) rfl)) (bneT h3)) (fun h3 : ((a.getD (Int.toNat i40) default).In != k400) = false => (fun _ : (a.getD (Int.toNat i40) default).In = k400 => ai ((by omega : 0 ≤ i40 ∧ i40 < (a.length : Int))) (ai (fun h4 : ((a.getD (Int.toNat i40) default).Next != (IntKind.i64.wrap (k400 + 1))) = true => (fun _ : ¬ (a.getD (Int.toNat i40) default).Next = (IntKind.i64.wrap (k400 + 1)) => (fun hF : ((-1) : Int) = (F106 a k) => ai (congrArg (fun r : Int => (.int .i64 r : Value)) hF) (trivial)) (finR (runL_ret hI0 (condT h2 (condF h3 (condT h4 (rfl))))) rfl)) (bneT h4)) (fun h4 : ((a.getD (Int.toNat i40) default).Next != (IntKind.i64.wrap (k400 + 1))) = false => (fun _ : (a.getD (Int.toNat i40) default).Next = (IntKind.i64.wrap (k400 + 1)) => ai ((by omega : 0 ≤ i40 ∧ i40 < (a.length : Int))) (ai (fun h5 : ((a.getD (Int.toNat i40) default).Out != (IntKind.i64.wrap ((IntKind.i64.wrap (k400 + 1)) + 1))) = true => (fun _ : ¬ (a.getD (Int.toNat i40) default).Out = (IntKind.i64.wrap ((IntKind.i64.wrap (k400 + 1)) + 1)) => (fun hF : ((-1) : Int) = (F106 a k) => ai (congrArg (fun r : Int => (.int .i64 r : Value)) hF) (trivial)) (finR (runL_ret hI0 (condT h2 (condF h3 (condF h4 (condT h5 (rfl)))))) rfl)) (bneT h5)) (fun h5 : ((a.getD (Int.toNat i40) default).Out != (IntKind.i64.wrap ((IntKind.i64.wrap (k400 + 1)) + 1))) = false => (fun _ : (a.getD (Int.toNat i40) default).Out = (IntKind.i64.wrap ((IntKind.i64.wrap (k400 + 1)) + 1)) => ai ((by unfold i64ok; omega : i64ok (i40 + 1))) (Exists.intro (p := fun j : Nat × (Int × Int) => (fun (k400_ : Int) (i40_ : Int) => (((.int .i64 (IntKind.i64.wrap ((IntKind.i64.wrap ((IntKind.i64.wrap (k400 + 1)) + 1)) + 1)) : Value) = .int .i64 k400_) ∧ ((.int .i64 (i40 + 1) : Value) = .int .i64 i40_) ∧ (Imp (.l 3 eLabRow a) (.l 3 eLabRow a)) ∧ ((runL (F106_s0 a k) j.1 j.2 = (runL (F106_s0 a k) ((Int.toNat ((a.length : Int) - 0)) + 1) (k, 0)) ∧ Int.toNat ((a.length : Int) - i40_) < j.1 ∧ (0 : Int) ≤ i40_) ∧ j.1 < i0.1))) j.2.1 j.2.2) (m0, ((IntKind.i64.wrap ((IntKind.i64.wrap ((IntKind.i64.wrap (k400 + 1)) + 1)) + 1)), (i40 + 1))) (ai (rfl) (ai (rfl) (ai ((Imp.refl _)) (ai (ai (runL_next hI0 (condT h2 (condF h3 (condF h4 (condF h5 (rfl)))))) (ai ((by omega : Int.toNat ((a.length : Int) - (i40 + 1)) < m0)) ((by omega : (0 : Int) ≤ (i40 + 1))))) hl0)))))) (bneF h5)))) (bneF h4)))) (bneF h3)))) (of_decide_eq_true h2)) (fun h2 : (decide (i40 < (a.length : Int))) = false => (fun _ : ¬ i40 < (a.length : Int) => (fun hD0_6 : (runL (F106_s0 a k) ((Int.toNat ((a.length : Int) - 0)) + 1) (k, 0)) = Lp.done (k400, i40) => (fun hF : (k400 : Int) = (F106 a k) => ai (congrArg (fun r : Int => (.int .i64 r : Value)) hF) (trivial)) (finD hD0_6 (rfl))) (runL_done hI0 (condF h2 (rfl)))) (of_decide_eq_false h2))) (i0.1 - 1) i0.2.1 i0.2.2 (hd1 hi0.1 hi0.2.1) (hd2 hi0.2.1) (hd3 hi0.2.1) hi0.2.2)) (by kernel_rfl)
def F107_s0 (a : List LabVia) (k : Int) : (Int × Int) → Lp (Int × Int) Int := fun (k400, i40) =>
  bif (decide (i40 < (a.length : Int))) then (bif ((a.getD (Int.toNat i40) default).To != k400) then (.ret (-1)) else (bif ((a.getD (Int.toNat i40) default).Via != (IntKind.i64.wrap (k400 + 1))) then (.ret (-1)) else (bif ((a.getD (Int.toNat i40) default).Push != (IntKind.i64.wrap ((IntKind.i64.wrap (k400 + 1)) + 1))) then (.ret (-1)) else (.next ((IntKind.i64.wrap ((IntKind.i64.wrap ((IntKind.i64.wrap (k400 + 1)) + 1)) + 1)), (i40 + 1)))))) else (.done (k400, i40))
def F107 (a : List LabVia) (k : Int) : Int :=
  (runL (F107_s0 a k) ((Int.toNat ((a.length : Int) - 0)) + 1) (k, 0)).fin (fun r => r) (fun (k400, i40) => k400)
def S107 (a : List LabVia) (k : Int) : Spec := ⟨[.r (.c (.l 3 eLabVia a)), .r (.c (.v (vI k)))], .v (vI (F107 a k)), True⟩
theorem ok107 (a : List LabVia) (k : Int) : (S107 a k).ok Tryz.prog 107 :=
  fnG_ok mixed (fn := Tryz.f107) (ct := .seqk [(0, 0)] (.no) (.seq (.seqk [(0, 0)] (.no) (.blk (.loop (ι := Nat × (Int × Int)) (fun i => (fun (k400 : Int) (i40 : Int) => (⟨[(0, some (.h 0 0)), (1, some (.v (vI k400))), (5, some (.v (vI i40)))], [(0, some (.shr none (.l 3 eLabVia a)))], 1⟩ : St)) i.2.1 i.2.2) (fun i => runL (F107_s0 a k) i.1 i.2 = (runL (F107_s0 a k) ((Int.toNat ((a.length : Int) - 0)) + 1) (k, 0)) ∧ (fun (k400 : Int) (i40 : Int) => (Int.toNat ((a.length : Int) - i40) < i.1 ∧ (0 : Int) ≤ i40)) i.2.1 i.2.2) (fun i => i.1) (((Int.toNat ((a.length : Int) - 0)) + 1), (k, 0)) (fun i => (fun (k400 : Int) (i40 : Int) => (.seq (.seq (.no) (.cond (.no) (.no))) (.seq (.blk (.seq (.seq (.no) (.cond (.seq (.no) (.no)) (.no))) (.seq (.no) (.seq (.seq (.no) (.cond (.seq (.no) (.no)) (.no))) (.seq (.no) (.seq (.seq (.no) (.cond (.seq (.no) (.no)) (.no))) (.no))))))) (.reg [(1, .bnd)])))) i.2.1 i.2.2)))) (.seq (.no) (.no)))) Tryz.func107 (fun (_ : True) => fun (_ : a.length ≤ 9223372036854775807) => fun (_ : a.length ≤ 9223372036854775807) => ai (ai (rfl) (ai (rfl) (ai ((Imp.refl _)) ((ai (rfl : runL (F107_s0 a k) ((Int.toNat ((a.length : Int) - 0)) + 1) (k, 0) = (runL (F107_s0 a k) ((Int.toNat ((a.length : Int) - 0)) + 1) (k, 0))) (ai ((Nat.lt_succ_self _ : Int.toNat ((a.length : Int) - 0) < ((Int.toNat ((a.length : Int) - 0)) + 1))) ((by omega : (0 : Int) ≤ 0))))))) : ((.int .i64 k : Value) = .int .i64 k) ∧ ((.int .i64 0 : Value) = .int .i64 0) ∧ (Imp (.l 3 eLabVia a) (.l 3 eLabVia a)) ∧ (runL (F107_s0 a k) ((Int.toNat ((a.length : Int) - 0)) + 1) (k, 0) = (runL (F107_s0 a k) ((Int.toNat ((a.length : Int) - 0)) + 1) (k, 0)) ∧ Int.toNat ((a.length : Int) - 0) < ((Int.toNat ((a.length : Int) - 0)) + 1) ∧ (0 : Int) ≤ 0)) (fun (i0 : Nat × (Int × Int)) (hi0 : runL (F107_s0 a k) i0.1 i0.2 = (runL (F107_s0 a k) ((Int.toNat ((a.length : Int) - 0)) + 1) (k, 0)) ∧ (fun (k400 : Int) (i40 : Int) => (Int.toNat ((a.length : Int) - i40) < i0.1 ∧ (0 : Int) ≤ i40)) i0.2.1 i0.2.2) => (fun (m0 : Nat) (k400 : Int) (i40 : Int) (hI0 : runL (F107_s0 a k) (m0 + 1) (k400, i40) = (runL (F107_s0 a k) ((Int.toNat ((a.length : Int) - 0)) + 1) (k, 0))) (_ : Int.toNat ((a.length : Int) - i40) < m0 + 1) (hl0 : m0 < i0.1) (_ : (0 : Int) ≤ i40) => ai (fun h2 : (decide (i40 < (a.length : Int))) = true => (fun _ : i40 < (a.length : Int) => ai ((by omega : 0 ≤ i40 ∧ i40 < (a.length : Int))) (ai (fun h3 : ((a.getD (Int.toNat i40) default).To != k400) = true => (fun _ : ¬ (a.getD (Int.toNat i40) default).To = k400 => (fun hF : ((-1) : Int) = (F107 a k) => ai (congrArg (fun r : Int => (.int .i64 r : Value)) hF) (trivial)) (finR (runL_ret hI0 (condT h2 (condT h3 (rfl)))) rfl)) (bneT h3)) (fun h3 : ((a.getD (Int.toNat i40) default).To != k400) = false => (fun _ : (a.getD (Int.toNat i40) default).To = k400 => ai ((by omega : 0 ≤ i40 ∧ i40 < (a.length : Int))) (ai (fun h4 : ((a.getD (Int.toNat i40) default).Via != (IntKind.i64.wrap (k400 + 1))) = true => (fun _ : ¬ (a.getD (Int.toNat i40) default).Via = (IntKind.i64.wrap (k400 + 1)) => (fun hF : ((-1) : Int) = (F107 a k) => ai (congrArg (fun r : Int => (.int .i64 r : Value)) hF) (trivial)) (finR (runL_ret hI0 (condT h2 (condF h3 (condT h4 (rfl))))) rfl)) (bneT h4)) (fun h4 : ((a.getD (Int.toNat i40) default).Via != (IntKind.i64.wrap (k400 + 1))) = false => (fun _ : (a.getD (Int.toNat i40) default).Via = (IntKind.i64.wrap (k400 + 1)) => ai ((by omega : 0 ≤ i40 ∧ i40 < (a.length : Int))) (ai (fun h5 : ((a.getD (Int.toNat i40) default).Push != (IntKind.i64.wrap ((IntKind.i64.wrap (k400 + 1)) + 1))) = true => (fun _ : ¬ (a.getD (Int.toNat i40) default).Push = (IntKind.i64.wrap ((IntKind.i64.wrap (k400 + 1)) + 1)) => (fun hF : ((-1) : Int) = (F107 a k) => ai (congrArg (fun r : Int => (.int .i64 r : Value)) hF) (trivial)) (finR (runL_ret hI0 (condT h2 (condF h3 (condF h4 (condT h5 (rfl)))))) rfl)) (bneT h5)) (fun h5 : ((a.getD (Int.toNat i40) default).Push != (IntKind.i64.wrap ((IntKind.i64.wrap (k400 + 1)) + 1))) = false => (fun _ : (a.getD (Int.toNat i40) default).Push = (IntKind.i64.wrap ((IntKind.i64.wrap (k400 + 1)) + 1)) => ai ((by unfold i64ok; omega : i64ok (i40 + 1))) (Exists.intro (p := fun j : Nat × (Int × Int) => (fun (k400_ : Int) (i40_ : Int) => (((.int .i64 (IntKind.i64.wrap ((IntKind.i64.wrap ((IntKind.i64.wrap (k400 + 1)) + 1)) + 1)) : Value) = .int .i64 k400_) ∧ ((.int .i64 (i40 + 1) : Value) = .int .i64 i40_) ∧ (Imp (.l 3 eLabVia a) (.l 3 eLabVia a)) ∧ ((runL (F107_s0 a k) j.1 j.2 = (runL (F107_s0 a k) ((Int.toNat ((a.length : Int) - 0)) + 1) (k, 0)) ∧ Int.toNat ((a.length : Int) - i40_) < j.1 ∧ (0 : Int) ≤ i40_) ∧ j.1 < i0.1))) j.2.1 j.2.2) (m0, ((IntKind.i64.wrap ((IntKind.i64.wrap ((IntKind.i64.wrap (k400 + 1)) + 1)) + 1)), (i40 + 1))) (ai (rfl) (ai (rfl) (ai ((Imp.refl _)) (ai (ai (runL_next hI0 (condT h2 (condF h3 (condF h4 (condF h5 (rfl)))))) (ai ((by omega : Int.toNat ((a.length : Int) - (i40 + 1)) < m0)) ((by omega : (0 : Int) ≤ (i40 + 1))))) hl0)))))) (bneF h5)))) (bneF h4)))) (bneF h3)))) (of_decide_eq_true h2)) (fun h2 : (decide (i40 < (a.length : Int))) = false => (fun _ : ¬ i40 < (a.length : Int) => (fun hD0_6 : (runL (F107_s0 a k) ((Int.toNat ((a.length : Int) - 0)) + 1) (k, 0)) = Lp.done (k400, i40) => (fun hF : (k400 : Int) = (F107 a k) => ai (congrArg (fun r : Int => (.int .i64 r : Value)) hF) (trivial)) (finD hD0_6 (rfl))) (runL_done hI0 (condF h2 (rfl)))) (of_decide_eq_false h2))) (i0.1 - 1) i0.2.1 i0.2.2 (hd1 hi0.1 hi0.2.1) (hd2 hi0.2.1) (hd3 hi0.2.1) hi0.2.2)) (by kernel_rfl)
def F67_s0 (a : List LabBox) (k : Int) : (Int × Int) → Lp (Int × Int) Int := fun (k400, i40) =>
  bif (decide (i40 < (a.length : Int))) then (bif (decide ((F106 ((a.getD (Int.toNat i40) default).Rows) k400) < 0)) then (.ret (-1)) else (bif (decide ((F107 ((a.getD (Int.toNat i40) default).Guards) (F106 ((a.getD (Int.toNat i40) default).Rows) k400)) < 0)) then (.ret (-1)) else (.next ((F107 ((a.getD (Int.toNat i40) default).Guards) (F106 ((a.getD (Int.toNat i40) default).Rows) k400)), (i40 + 1))))) else (.done (k400, i40))
def F67 (a : List LabBox) (k : Int) : Int :=
  (runL (F67_s0 a k) ((Int.toNat ((a.length : Int) - 0)) + 1) (k, 0)).fin (fun r => r) (fun (k400, i40) => k400)
def S67 (a : List LabBox) (k : Int) : Spec := ⟨[.r (.c (.l 2 eLabBox a)), .r (.c (.v (vI k)))], .v (vI (F67 a k)), True⟩
theorem ok67 (a : List LabBox) (k : Int) : (S67 a k).ok Tryz.prog 67 :=
  fnG_ok mixed (fn := Tryz.f67) (ct := .seqk [(0, 0)] (.no) (.seq (.seqk [(0, 0)] (.no) (.blk (.loop (ι := Nat × (Int × Int)) (fun i => (fun (k400 : Int) (i40 : Int) => (⟨[(0, some (.h 0 0)), (1, some (.v (vI k400))), (5, some (.v (vI i40)))], [(0, some (.shr none (.l 2 eLabBox a)))], 1⟩ : St)) i.2.1 i.2.2) (fun i => runL (F67_s0 a k) i.1 i.2 = (runL (F67_s0 a k) ((Int.toNat ((a.length : Int) - 0)) + 1) (k, 0)) ∧ (fun (k400 : Int) (i40 : Int) => (Int.toNat ((a.length : Int) - i40) < i.1 ∧ (0 : Int) ≤ i40)) i.2.1 i.2.2) (fun i => i.1) (((Int.toNat ((a.length : Int) - 0)) + 1), (k, 0)) (fun i => (fun (k400 : Int) (i40 : Int) => (.seq (.seq (.no) (.cond (.no) (.no))) (.seq (.blk (.seq (.reg [(6, .call 106 (S106 ((a.getD (Int.toNat i40) default).Rows) k400) (ok106 ((a.getD (Int.toNat i40) default).Rows) k400) none)]) (.seq (.seq (.no) (.cond (.seq (.no) (.no)) (.no))) (.seq (.reg [(6, .call 107 (S107 ((a.getD (Int.toNat i40) default).Guards) (F106 ((a.getD (Int.toNat i40) default).Rows) k400)) (ok107 ((a.getD (Int.toNat i40) default).Guards) (F106 ((a.getD (Int.toNat i40) default).Rows) k400)) none)]) (.seq (.no) (.cond (.seq (.no) (.no)) (.no))))))) (.reg [(1, .bnd)])))) i.2.1 i.2.2)))) (.seq (.no) (.no)))) Tryz.func67 (fun (_ : True) => fun (_ : a.length ≤ 9223372036854775807) => fun (_ : a.length ≤ 9223372036854775807) => ai (ai (rfl) (ai (rfl) (ai ((Imp.refl _)) ((ai (rfl : runL (F67_s0 a k) ((Int.toNat ((a.length : Int) - 0)) + 1) (k, 0) = (runL (F67_s0 a k) ((Int.toNat ((a.length : Int) - 0)) + 1) (k, 0))) (ai ((Nat.lt_succ_self _ : Int.toNat ((a.length : Int) - 0) < ((Int.toNat ((a.length : Int) - 0)) + 1))) ((by omega : (0 : Int) ≤ 0))))))) : ((.int .i64 k : Value) = .int .i64 k) ∧ ((.int .i64 0 : Value) = .int .i64 0) ∧ (Imp (.l 2 eLabBox a) (.l 2 eLabBox a)) ∧ (runL (F67_s0 a k) ((Int.toNat ((a.length : Int) - 0)) + 1) (k, 0) = (runL (F67_s0 a k) ((Int.toNat ((a.length : Int) - 0)) + 1) (k, 0)) ∧ Int.toNat ((a.length : Int) - 0) < ((Int.toNat ((a.length : Int) - 0)) + 1) ∧ (0 : Int) ≤ 0)) (fun (i0 : Nat × (Int × Int)) (hi0 : runL (F67_s0 a k) i0.1 i0.2 = (runL (F67_s0 a k) ((Int.toNat ((a.length : Int) - 0)) + 1) (k, 0)) ∧ (fun (k400 : Int) (i40 : Int) => (Int.toNat ((a.length : Int) - i40) < i0.1 ∧ (0 : Int) ≤ i40)) i0.2.1 i0.2.2) => (fun (m0 : Nat) (k400 : Int) (i40 : Int) (hI0 : runL (F67_s0 a k) (m0 + 1) (k400, i40) = (runL (F67_s0 a k) ((Int.toNat ((a.length : Int) - 0)) + 1) (k, 0))) (_ : Int.toNat ((a.length : Int) - i40) < m0 + 1) (hl0 : m0 < i0.1) (_ : (0 : Int) ≤ i40) => ai (fun h2 : (decide (i40 < (a.length : Int))) = true => (fun _ : i40 < (a.length : Int) => ai ((by omega : 0 ≤ i40 ∧ i40 < (a.length : Int))) (ai (trivial) (ai ((Imp.refl (.l 3 eLabRow ((a.getD (Int.toNat i40) default).Rows)))) (ai ((Imp.refl (.v (vI k400)))) (ai (fun h3 : (decide ((F106 ((a.getD (Int.toNat i40) default).Rows) k400) < 0)) = true => (fun _ : (F106 ((a.getD (Int.toNat i40) default).Rows) k400) < 0 => (fun hF : ((-1) : Int) = (F67 a k) => ai (congrArg (fun r : Int => (.int .i64 r : Value)) hF) (trivial)) (finR (runL_ret hI0 (condT h2 (condT h3 (rfl)))) rfl)) (of_decide_eq_true h3)) (fun h3 : (decide ((F106 ((a.getD (Int.toNat i40) default).Rows) k400) < 0)) = false => (fun _ : ¬ (F106 ((a.getD (Int.toNat i40) default).Rows) k400) < 0 => ai ((by omega : 0 ≤ i40 ∧ i40 < (a.length : Int))) (ai (trivial) (ai ((Imp.refl (.l 3 eLabVia ((a.getD (Int.toNat i40) default).Guards)))) (ai ((Imp.refl (.v (vI (F106 ((a.getD (Int.toNat i40) default).Rows) k400))))) (ai (fun h4 : (decide ((F107 ((a.getD (Int.toNat i40) default).Guards) (F106 ((a.getD (Int.toNat i40) default).Rows) k400)) < 0)) = true => (fun _ : (F107 ((a.getD (Int.toNat i40) default).Guards) (F106 ((a.getD (Int.toNat i40) default).Rows) k400)) < 0 => (fun hF : ((-1) : Int) = (F67 a k) => ai (congrArg (fun r : Int => (.int .i64 r : Value)) hF) (trivial)) (finR (runL_ret hI0 (condT h2 (condF h3 (condT h4 (rfl))))) rfl)) (of_decide_eq_true h4)) (fun h4 : (decide ((F107 ((a.getD (Int.toNat i40) default).Guards) (F106 ((a.getD (Int.toNat i40) default).Rows) k400)) < 0)) = false => (fun _ : ¬ (F107 ((a.getD (Int.toNat i40) default).Guards) (F106 ((a.getD (Int.toNat i40) default).Rows) k400)) < 0 => ai ((by unfold i64ok; omega : i64ok (i40 + 1))) (Exists.intro (p := fun j : Nat × (Int × Int) => (fun (k400_ : Int) (i40_ : Int) => (((.int .i64 (F107 ((a.getD (Int.toNat i40) default).Guards) (F106 ((a.getD (Int.toNat i40) default).Rows) k400)) : Value) = .int .i64 k400_) ∧ ((.int .i64 (i40 + 1) : Value) = .int .i64 i40_) ∧ (Imp (.l 2 eLabBox a) (.l 2 eLabBox a)) ∧ ((runL (F67_s0 a k) j.1 j.2 = (runL (F67_s0 a k) ((Int.toNat ((a.length : Int) - 0)) + 1) (k, 0)) ∧ Int.toNat ((a.length : Int) - i40_) < j.1 ∧ (0 : Int) ≤ i40_) ∧ j.1 < i0.1))) j.2.1 j.2.2) (m0, ((F107 ((a.getD (Int.toNat i40) default).Guards) (F106 ((a.getD (Int.toNat i40) default).Rows) k400)), (i40 + 1))) (ai (rfl) (ai (rfl) (ai ((Imp.refl _)) (ai (ai (runL_next hI0 (condT h2 (condF h3 (condF h4 (rfl))))) (ai ((by omega : Int.toNat ((a.length : Int) - (i40 + 1)) < m0)) ((by omega : (0 : Int) ≤ (i40 + 1))))) hl0)))))) (of_decide_eq_false h4))))))) (of_decide_eq_false h3))))))) (of_decide_eq_true h2)) (fun h2 : (decide (i40 < (a.length : Int))) = false => (fun _ : ¬ i40 < (a.length : Int) => (fun hD0_5 : (runL (F67_s0 a k) ((Int.toNat ((a.length : Int) - 0)) + 1) (k, 0)) = Lp.done (k400, i40) => (fun hF : (k400 : Int) = (F67 a k) => ai (congrArg (fun r : Int => (.int .i64 r : Value)) hF) (trivial)) (finD hD0_5 (rfl))) (runL_done hI0 (condF h2 (rfl)))) (of_decide_eq_false h2))) (i0.1 - 1) i0.2.1 i0.2.2 (hd1 hi0.1 hi0.2.1) (hd2 hi0.2.1) (hd3 hi0.2.1) hi0.2.2)) (by kernel_rfl)
def F28 (a : LabNet) (k : Int) : Int :=
  bif (decide ((F66 a.Links k) < 0)) then (-1) else (bif (decide ((F67 a.Boxes (F66 a.Links k)) < 0)) then (-1) else (F67 a.Boxes (F66 a.Links k)))
def S28 (a : LabNet) (k : Int) : Spec := ⟨[.r (.g (eLabNet a)), .r (.c (.v (vI k)))], .v (vI (F28 a k)), True⟩
theorem ok28 (a : LabNet) (k : Int) : (S28 a k).ok Tryz.prog 28 :=
  fnG_ok mixed (fn := Tryz.f28) (ct := .seq (.no) (.seq (.reg [(3, .call 66 (S66 a.Links k) (ok66 a.Links k) none)]) (.seq (.seq (.no) (.cond (.seq (.no) (.no)) (.no))) (.seq (.reg [(3, .call 67 (S67 a.Boxes (F66 a.Links k)) (ok67 a.Boxes (F66 a.Links k)) none)]) (.seq (.seq (.no) (.cond (.seq (.no) (.no)) (.no))) (.seq (.no) (.no))))))) Tryz.func28 (fun (_ : True) => ai (trivial) (ai ((Imp.refl (.l 2 eLabLink a.Links))) (ai ((Imp.refl (.v (vI k)))) (ai (fun h1 : (decide ((F66 a.Links k) < 0)) = true => (fun _ : (F66 a.Links k) < 0 => (fun hF : ((-1) : Int) = (F28 a k) => ai (congrArg (fun r : Int => (.int .i64 r : Value)) hF) (trivial)) (condT h1 (rfl))) (of_decide_eq_true h1)) (fun h1 : (decide ((F66 a.Links k) < 0)) = false => (fun _ : ¬ (F66 a.Links k) < 0 => ai (trivial) (ai ((Imp.refl (.l 2 eLabBox a.Boxes))) (ai ((Imp.refl (.v (vI (F66 a.Links k))))) (ai (fun h2 : (decide ((F67 a.Boxes (F66 a.Links k)) < 0)) = true => (fun _ : (F67 a.Boxes (F66 a.Links k)) < 0 => (fun hF : ((-1) : Int) = (F28 a k) => ai (congrArg (fun r : Int => (.int .i64 r : Value)) hF) (trivial)) (condF h1 (condT h2 (rfl)))) (of_decide_eq_true h2)) (fun h2 : (decide ((F67 a.Boxes (F66 a.Links k)) < 0)) = false => (fun _ : ¬ (F67 a.Boxes (F66 a.Links k)) < 0 => (fun hF : ((F67 a.Boxes (F66 a.Links k)) : Int) = (F28 a k) => ai (congrArg (fun r : Int => (.int .i64 r : Value)) hF) (trivial)) (condF h1 (condF h2 (rfl)))) (of_decide_eq_false h2)))))) (of_decide_eq_false h1)))))) (by kernel_rfl)
def lvLabLink (x : LabLink) : Nat := 2
def lvLabRow (x : LabRow) : Nat := 3
def lvLabVia (x : LabVia) : Nat := 3
def lvLabBox (x : LabBox) : Nat := 0 + (sumL lvLabRow) x.Rows + (sumL lvLabVia) x.Guards
def lvLabNet (x : LabNet) : Nat := 0 + (sumL lvLabLink) x.Links + (sumL lvLabBox) x.Boxes
theorem mk64 : Mk F64 F66 (sumL lvLabLink) :=
  mark_loop (fun (x : LabLink) (k : Int) => ((IntKind.i64.wrap ((IntKind.i64.wrap (k + 1)) + 1)), (⟨k, (IntKind.i64.wrap (k + 1))⟩ : LabLink))) (fun (x : LabLink) (k : Int) => (bif (x.A != k) then (-1) else (bif (x.B != (IntKind.i64.wrap (k + 1))) then (-1) else ((IntKind.i64.wrap ((IntKind.i64.wrap (k + 1)) + 1)))))) lvLabLink
    (fun x k h0 h1 => by
      simp only [lvLabLink] at h1 ⊢
      simp (discharger := omega) only [wrap_of, bne_self_eq_false, beq_self_eq_true, cond_false, cond_true, Bool.not_true, Bool.not_false, neg_lt, and_self] <;> omega)
    F64 F66 F64_s0 F66_s0 (fun a k => rfl) (fun a k0 k i xs => rfl) (fun a k => rfl)
    (fun a k0 k i hi h0 hh => by
      obtain ⟨c0, hh⟩ := hs_step hh
      obtain ⟨c1, hh⟩ := hs_step hh
      simp only [F66_s0, decide_eq_true hi, cond_true, c0, cond_false, c1, cond_false])
    (fun a k0 k => by simp only [F66_s0, geD, cond_false])
theorem mk64a (x : List LabLink) (k : Int) (h0 : 0 ≤ k) (h1 : k + ((sumL lvLabLink) x : Int) < 9223372036854775807) : (F64 x k).1 = k + (sumL lvLabLink) x := (mk64 x k h0 h1).1
theorem mk64b (x : List LabLink) (k : Int) (h0 : 0 ≤ k) (h1 : k + ((sumL lvLabLink) x : Int) < 9223372036854775807) : F66 (F64 x k).2 k = k + (sumL lvLabLink) x := (mk64 x k h0 h1).2
theorem mk104 : Mk F104 F106 (sumL lvLabRow) :=
  mark_loop (fun (x : LabRow) (k : Int) => ((IntKind.i64.wrap ((IntKind.i64.wrap ((IntKind.i64.wrap (k + 1)) + 1)) + 1)), (⟨k, (IntKind.i64.wrap (k + 1)), (IntKind.i64.wrap ((IntKind.i64.wrap (k + 1)) + 1))⟩ : LabRow))) (fun (x : LabRow) (k : Int) => (bif (x.In != k) then (-1) else (bif (x.Next != (IntKind.i64.wrap (k + 1))) then (-1) else (bif (x.Out != (IntKind.i64.wrap ((IntKind.i64.wrap (k + 1)) + 1))) then (-1) else ((IntKind.i64.wrap ((IntKind.i64.wrap ((IntKind.i64.wrap (k + 1)) + 1)) + 1))))))) lvLabRow
    (fun x k h0 h1 => by
      simp only [lvLabRow] at h1 ⊢
      simp (discharger := omega) only [wrap_of, bne_self_eq_false, beq_self_eq_true, cond_false, cond_true, Bool.not_true, Bool.not_false, neg_lt, and_self] <;> omega)
    F104 F106 F104_s0 F106_s0 (fun a k => rfl) (fun a k0 k i xs => rfl) (fun a k => rfl)
    (fun a k0 k i hi h0 hh => by
      obtain ⟨c0, hh⟩ := hs_step hh
      obtain ⟨c1, hh⟩ := hs_step hh
      obtain ⟨c2, hh⟩ := hs_step hh
      simp only [F106_s0, decide_eq_true hi, cond_true, c0, cond_false, c1, cond_false, c2, cond_false])
    (fun a k0 k => by simp only [F106_s0, geD, cond_false])
theorem mk104a (x : List LabRow) (k : Int) (h0 : 0 ≤ k) (h1 : k + ((sumL lvLabRow) x : Int) < 9223372036854775807) : (F104 x k).1 = k + (sumL lvLabRow) x := (mk104 x k h0 h1).1
theorem mk104b (x : List LabRow) (k : Int) (h0 : 0 ≤ k) (h1 : k + ((sumL lvLabRow) x : Int) < 9223372036854775807) : F106 (F104 x k).2 k = k + (sumL lvLabRow) x := (mk104 x k h0 h1).2
theorem mk105 : Mk F105 F107 (sumL lvLabVia) :=
  mark_loop (fun (x : LabVia) (k : Int) => ((IntKind.i64.wrap ((IntKind.i64.wrap ((IntKind.i64.wrap (k + 1)) + 1)) + 1)), (⟨k, (IntKind.i64.wrap (k + 1)), (IntKind.i64.wrap ((IntKind.i64.wrap (k + 1)) + 1))⟩ : LabVia))) (fun (x : LabVia) (k : Int) => (bif (x.To != k) then (-1) else (bif (x.Via != (IntKind.i64.wrap (k + 1))) then (-1) else (bif (x.Push != (IntKind.i64.wrap ((IntKind.i64.wrap (k + 1)) + 1))) then (-1) else ((IntKind.i64.wrap ((IntKind.i64.wrap ((IntKind.i64.wrap (k + 1)) + 1)) + 1))))))) lvLabVia
    (fun x k h0 h1 => by
      simp only [lvLabVia] at h1 ⊢
      simp (discharger := omega) only [wrap_of, bne_self_eq_false, beq_self_eq_true, cond_false, cond_true, Bool.not_true, Bool.not_false, neg_lt, and_self] <;> omega)
    F105 F107 F105_s0 F107_s0 (fun a k => rfl) (fun a k0 k i xs => rfl) (fun a k => rfl)
    (fun a k0 k i hi h0 hh => by
      obtain ⟨c0, hh⟩ := hs_step hh
      obtain ⟨c1, hh⟩ := hs_step hh
      obtain ⟨c2, hh⟩ := hs_step hh
      simp only [F107_s0, decide_eq_true hi, cond_true, c0, cond_false, c1, cond_false, c2, cond_false])
    (fun a k0 k => by simp only [F107_s0, geD, cond_false])
theorem mk105a (x : List LabVia) (k : Int) (h0 : 0 ≤ k) (h1 : k + ((sumL lvLabVia) x : Int) < 9223372036854775807) : (F105 x k).1 = k + (sumL lvLabVia) x := (mk105 x k h0 h1).1
theorem mk105b (x : List LabVia) (k : Int) (h0 : 0 ≤ k) (h1 : k + ((sumL lvLabVia) x : Int) < 9223372036854775807) : F107 (F105 x k).2 k = k + (sumL lvLabVia) x := (mk105 x k h0 h1).2
theorem mk65 : Mk F65 F67 (sumL lvLabBox) :=
  mark_loop (fun (x : LabBox) (k : Int) => ((F105 (x.Guards) ((F104 (x.Rows) k).1)).1, (⟨(F104 (x.Rows) k).2, (F105 (x.Guards) ((F104 (x.Rows) k).1)).2⟩ : LabBox))) (fun (x : LabBox) (k : Int) => (bif (decide ((F106 (x.Rows) k) < 0)) then (-1) else (bif (decide ((F107 (x.Guards) (F106 (x.Rows) k)) < 0)) then (-1) else ((F107 (x.Guards) (F106 (x.Rows) k)))))) lvLabBox
    (fun x k h0 h1 => by
      simp only [lvLabBox] at h1 ⊢
      simp (discharger := omega) only [wrap_of, bne_self_eq_false, beq_self_eq_true, cond_false, cond_true, Bool.not_true, Bool.not_false, mk104a, mk104b, mk105a, mk105b, neg_lt, and_self] <;> omega)
    F65 F67 F65_s0 F67_s0 (fun a k => rfl) (fun a k0 k i xs => rfl) (fun a k => rfl)
    (fun a k0 k i hi h0 hh => by
      obtain ⟨c0, hh⟩ := hs_step hh
      obtain ⟨c1, hh⟩ := hs_step hh
      simp only [F67_s0, decide_eq_true hi, cond_true, c0, cond_false, c1, cond_false])
    (fun a k0 k => by simp only [F67_s0, geD, cond_false])
theorem mk65a (x : List LabBox) (k : Int) (h0 : 0 ≤ k) (h1 : k + ((sumL lvLabBox) x : Int) < 9223372036854775807) : (F65 x k).1 = k + (sumL lvLabBox) x := (mk65 x k h0 h1).1
theorem mk65b (x : List LabBox) (k : Int) (h0 : 0 ≤ k) (h1 : k + ((sumL lvLabBox) x : Int) < 9223372036854775807) : F67 (F65 x k).2 k = k + (sumL lvLabBox) x := (mk65 x k h0 h1).2
def lwLabNet (x : LabNet) : Nat := 0 + (sumL lvLabLink) x.Links + (sumL lvLabBox) x.Boxes
theorem mk27 : Mk F27 F28 lwLabNet := fun x k h0 h1 => by
  simp only [lwLabNet] at h1 ⊢
  simp only [F27, F28]
  simp (discharger := omega) only [wrap_of, bne_self_eq_false, beq_self_eq_true, cond_false, cond_true, Bool.not_true, Bool.not_false, mk64a, mk64b, mk65a, mk65b, neg_lt, and_self] <;> omega
theorem mk27a (x : LabNet) (k : Int) (h0 : 0 ≤ k) (h1 : k + (lwLabNet x : Int) < 9223372036854775807) : (F27 x k).1 = k + lwLabNet x := (mk27 x k h0 h1).1
theorem mk27b (x : LabNet) (k : Int) (h0 : 0 ≤ k) (h1 : k + (lwLabNet x : Int) < 9223372036854775807) : F28 (F27 x k).2 k = k + lwLabNet x := (mk27 x k h0 h1).2
end Go.Proofs.YtjefeigdapcleaaGreat
