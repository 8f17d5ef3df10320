/-
  The calculus, fifth part: what a loop computes, as a function of its state; joins.
-/
import Derived.Test.YtfehpdcfndhniaaK4
namespace Go.Proofs.Ytfehpdcfndhniaa
open Go.RowKit

/-- what one round of a loop comes to: another round, the loop's end, the function's end -/
inductive Lp (σ ρ : Type) where
  | next (s : σ)
  | done (s : σ)
  | ret (r : ρ)

/-- at most so many rounds -/
def runL {σ ρ : Type} (step : σ → Lp σ ρ) : Nat → σ → Lp σ ρ
  | 0, s => .next s
  | m + 1, s => match step s with
    | .next s' => runL step m s'
    | .done s' => .done s'
    | .ret r => .ret r

def Lp.fin {σ ρ τ : Type} (x : Lp σ ρ) (f : ρ → τ) (g : σ → τ) : τ := match x with
  | .ret r => f r
  | .done s => g s
  | .next s => g s

theorem runL_next {σ ρ : Type} {step : σ → Lp σ ρ} {m : Nat} {s s' : σ} {X : Lp σ ρ} (h : runL step (m + 1) s = X) (e : Lp.next s' = step s) : runL step m s' = X := by
  rw [← h]; simp [runL, ← e]
theorem runL_done {σ ρ : Type} {step : σ → Lp σ ρ} {m : Nat} {s s' : σ} {X : Lp σ ρ} (h : runL step (m + 1) s = X) (e : Lp.done s' = step s) : X = .done s' := by
  rw [← h]; simp [runL, ← e]
theorem runL_ret {σ ρ : Type} {step : σ → Lp σ ρ} {m : Nat} {s : σ} {r : ρ} {X : Lp σ ρ} (h : runL step (m + 1) s = X) (e : Lp.ret r = step s) : X = .ret r := by
  rw [← h]; simp [runL, ← e]
theorem finD {σ ρ τ : Type} {x : Lp σ ρ} {f : ρ → τ} {g : σ → τ} {s : σ} {v : τ} (h : x = .done s) (e : v = g s) : v = x.fin f g := by rw [h]; exact e
theorem finR {σ ρ τ : Type} {x : Lp σ ρ} {f : ρ → τ} {g : σ → τ} {r : ρ} {v : τ} (h : x = .ret r) (e : v = f r) : v = x.fin f g := by rw [h]; exact e
theorem prev_of_lt {a m : Nat} (h : a < m) : ∃ m', m = m' + 1 := ⟨m - 1, by omega⟩

theorem GC.join {P : Program} {N : Nat} {Q : Exit → Act → World → Prop} {L : Sl} {w : World} {c : Code} {ι : Type} (Lf : ι → Sl) (K : ι → World → Prop)
    (h1 : (∀ i w', K i w' → GQ N Q .normal (Lf i) w') → GC P N c Q L w) (h2 : ∀ i w', K i w' → GQ N Q .normal (Lf i) w') : GC P N c Q L w := h1 h2

theorem getD_some {α : Type} [Inhabited α] {xs : List α} {k : Nat} (h : k < xs.length) : xs[k]? = some (xs.getD k default) := by
  rw [List.getD_eq_getElem?_getD, List.getElem?_eq_getElem h]; rfl

/-- a loop that looks at one after another and may go at each: what it comes to -/
theorem runL_scan {ρ : Type} {step : Nat → Lp Nat ρ} {n : Nat} (body : Nat → Option ρ)
    (h1 : ∀ k, k < n → step k = match body k with | some r => .ret r | none => .next (k + 1)) (h2 : ∀ k, ¬ k < n → step k = .done k) :
    ∀ (m k : Nat), k ≤ n → n - k < m → runL step m k = match ((List.range' k (n - k)).findSome? body) with | some r => .ret r | none => .done n
  | 0, k, _, h => by omega
  | m + 1, k, hk, h => by
    by_cases hlt : k < n
    · obtain ⟨d, hd⟩ : ∃ d, n - k = d + 1 := ⟨n - k - 1, by omega⟩
      rw [hd, List.range'_succ, List.findSome?_cons]
      simp only [runL, h1 k hlt]
      cases hb : body k with
      | some r => rfl
      | none =>
        have := runL_scan body h1 h2 m (k + 1) (by omega) (by omega)
        rw [show n - (k + 1) = d by omega] at this
        exact this
    · have e2 : k = n := by omega
      subst e2
      simp [runL, h2 k hlt]

theorem chg_trS {SS SS' : Nat → Prop} {w w1 w2 : World} (h : Chg SS w w1) (h' : Chg SS' w1 w2) (hb : ∀ k, SS' k → w.heap.size ≤ k ∨ SS k) : Chg SS w w2 :=
  ⟨h'.os.trans h.os, h'.tape.trans h.tape, h'.output.trans h.output, Nat.le_trans h.size h'.size, fun k hk hn => by
    have hne : ¬ SS' k := fun e => by
      rcases hb k e with hb | hb
      · omega
      · exact hn hb
    rw [h'.block k (Nat.lt_of_lt_of_le hk h.size) hne, h.block k hk hn]⟩


/-! ### Sizes, as the laws reckon them -/

/-- what is left of a bound, or -1 -/
def szR (n : Nat) (left : Int) : Int := if (n : Int) ≤ left then left - n else -1
theorem szR_cases (n : Nat) (left : Int) : ((n : Int) ≤ left ∧ szR n left = left - n) ∨ (left < n ∧ szR n left = -1) := by
  unfold szR; split <;> omega
def szSum {α : Type} (f : α → Nat) : List α → Nat
  | [] => 0
  | x :: xs => f x + szSum f xs
theorem szSum_append {α : Type} (f : α → Nat) : ∀ (xs ys : List α), szSum f (xs ++ ys) = szSum f xs + szSum f ys
  | [], ys => by simp [szSum]
  | x :: xs, ys => by simp only [List.cons_append, szSum, szSum_append f xs ys]; omega
theorem szSum_succ {α : Type} {f : α → Nat} {xs : List α} {k : Nat} {x : α} (h : xs[k]? = some x) : szSum f (xs.take (k + 1)) = szSum f (xs.take k) + f x := by
  rw [List.take_add_one, h, szSum_append]; simp [szSum]
theorem szSum_le {α : Type} (f : α → Nat) (xs : List α) (k : Nat) : szSum f (xs.take k) ≤ szSum f xs := by
  have := szSum_append f (xs.take k) (xs.drop k)
  rw [List.take_append_drop] at this; omega
theorem szSum_get {α : Type} {f : α → Nat} {xs : List α} {k : Nat} {x : α} (h : xs[k]? = some x) : f x ≤ szSum f xs := by
  have h1 := szSum_succ (f := f) h
  have h2 := szSum_le f xs (k + 1)
  omega
theorem szSum_mem {α : Type} {f : α → Nat} {xs : List α} {x : α} (h : x ∈ xs) : f x ≤ szSum f xs := by
  obtain ⟨k, hk, e⟩ := List.getElem_of_mem h
  exact szSum_get (k := k) (by rw [List.getElem?_eq_getElem hk, e])

/-! ### Loops that look at one after another -/

/-- p of all numbers below n -/
def allN (n : Nat) (p : Nat → Bool) : Bool := (List.range n).all p
theorem allN_iff {n : Nat} {p : Nat → Bool} : allN n p = true ↔ ∀ k, k < n → p k = true := by simp [allN]
theorem allN_congr {n : Nat} {p q : Nat → Bool} (h : ∀ k, k < n → p k = q k) : allN n p = allN n q := by
  rw [Bool.eq_iff_iff, allN_iff, allN_iff]
  exact ⟨fun h1 k hk => h k hk ▸ h1 k hk, fun h1 k hk => (h k hk).symm ▸ h1 k hk⟩
theorem scan_from {ρ : Type} {step : Nat → Lp Nat ρ} {n : Nat} {r0 : ρ} (p : Nat → Bool) (h1 : ∀ k, k < n → step k = bif p k then .next (k + 1) else .ret r0) (h2 : ∀ k, ¬ k < n → step k = .done k) :
    ∀ (m k : Nat), k ≤ n → n - k < m → runL step m k = bif (List.range' k (n - k)).all p then .done n else .ret r0
  | 0, k, _, h => by omega
  | m + 1, k, hk, h => by
    by_cases hlt : k < n
    · obtain ⟨d, hd⟩ : ∃ d, n - k = d + 1 := ⟨n - k - 1, by omega⟩
      rw [hd, List.range'_succ, List.all_cons]
      simp only [runL, h1 k hlt]
      cases hb : p k with
      | false => rfl
      | true =>
        have := scan_from p h1 h2 m (k + 1) (by omega) (by omega)
        rw [show n - (k + 1) = d by omega] at this
        simpa using this
    · have e2 : k = n := by omega
      subst e2
      simp [runL, h2 k hlt]
/-- a loop that goes with r0 at the first number of which p is not true -/
theorem scan_all {ρ τ : Type} {step : Nat → Lp Nat ρ} {n m : Nat} {r0 : ρ} {f : ρ → τ} {g : Nat → τ} (p : Nat → Bool) (hm : m = n + 1) (h1 : ∀ k, k < n → step k = bif p k then .next (k + 1) else .ret r0) (h2 : ∀ k, ¬ k < n → step k = .done k) :
    Lp.fin (runL step m 0) f g = bif allN n p then g n else f r0 := by
  rw [scan_from p h1 h2 m 0 (Nat.zero_le _) (by omega)]
  have : (List.range' 0 (n - 0)).all p = allN n p := by simp [allN, List.range_eq_range']
  rw [this]
  cases allN n p <;> rfl
/-- two loops alike come to the same -/
theorem runL_congr {σ ρ : Type} {s1 s2 : σ → Lp σ ρ} (I : σ → Prop) (h : ∀ s, I s → s1 s = s2 s) (hI : ∀ s s', I s → s1 s = .next s' → I s') : ∀ (m : Nat) (s : σ), I s → runL s1 m s = runL s2 m s
  | 0, _, _ => rfl
  | m + 1, s, hs => by
    simp only [runL, ← h s hs]
    cases he : s1 s with
    | next s' => exact runL_congr I h hI m s' (hI s s' hs he)
    | done s' => rfl
    | ret r => rfl

/-- what a condition says -/
theorem bs : (∀ (p : Prop) [Decidable p], (decide p = true) = p) ∧ (∀ (p : Prop) [Decidable p], (decide p = false) = ¬ p) ∧ (∀ b : Bool, ((!b) = true) = (b = false)) ∧ (∀ b : Bool, ((!b) = false) = (b = true)) ∧
    (∀ a b : Bool, ((a && b) = true) = (a = true ∧ b = true)) ∧ (∀ a b : Bool, ((a || b) = true) = (a = true ∨ b = true)) ∧ (∀ a b : Bool, ((a || b) = false) = (a = false ∧ b = false)) ∧ (∀ a b : Bool, ((a && b) = false) = (a = false ∨ b = false)) ∧
    (∀ a b : Int, ((a == b) = true) = (a = b)) ∧ (∀ a b : Int, ((a == b) = false) = ¬ (a = b)) ∧ (∀ a b : Int, ((a != b) = true) = ¬ (a = b)) ∧ (∀ a b : Int, ((a != b) = false) = (a = b)) ∧
    (∀ a : Bool, (a == true) = a) ∧ (∀ a : Bool, (a == false) = !a) ∧ (∀ a b c : Bool, ((bif c then a else b) = true) = ((c = true ∧ a = true) ∨ (c = false ∧ b = true))) ∧ (∀ a b c : Bool, ((bif c then a else b) = false) = ((c = true ∧ a = false) ∨ (c = false ∧ b = false))) := by
  refine ⟨?_, ?_, ?_, ?_, ?_, ?_, ?_, ?_, ?_, ?_, ?_, ?_, ?_, ?_, ?_, ?_⟩ <;> intros <;> first | (simp; done) | (rename_i a b; cases a <;> cases b <;> simp; done) | (rename_i a b c; cases a <;> cases b <;> cases c <;> simp; done)

theorem low_ofl {fp : List Nat} {lo hi B : Nat} {SS : Nat → Prop} (hf : ∀ x ∈ fp, lo ≤ x ∧ x < hi) (h : B ≤ lo) : ∀ x ∈ fp, B ≤ x ∨ SS x := fun x hx => .inl (Nat.le_trans h (hf x hx).1)
theorem big_low {A B : Nat} (h : A ≤ B) : ∀ b, B ≤ b → A ≤ b := fun _ hb => Nat.le_trans h hb
theorem big_lowl {A B : Nat} {SS : Nat → Prop} (h : A ≤ B) : ∀ b, B ≤ b → A ≤ b ∨ SS b := fun _ hb => .inl (Nat.le_trans h hb)
theorem big_sep {B k : Nat} (h : k < B) : ∀ b, B ≤ b → ¬ b = k := fun b hb e => by omega
theorem big_dis {B : Nat} {f : List Nat} (h : ∀ b ∈ f, b < B) : ∀ b, B ≤ b → b ∉ f := fun b hb hm => by have := h b hm; omega

end Go.Proofs.Ytfehpdcfndhniaa
