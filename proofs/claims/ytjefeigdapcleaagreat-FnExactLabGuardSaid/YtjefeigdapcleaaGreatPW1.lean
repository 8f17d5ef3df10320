/- Plain laws of distances in a net: what the two searches keep. -/
import Derived.Test.YtjefeigdapcleaaGreatP1
namespace Go.Proofs.YtjefeigdapcleaaGreat
open Go.RowKit
set_option maxRecDepth 100000
set_option linter.unusedVariables false
set_option linter.unusedSimpArgs false
/-- how many boxes have not been reached -/
def negs (xs : List Int) : Nat := xs.countP (fun x => decide (x < 0))
theorem negs_set {xs : List Int} {k : Nat} {v : Int} (hk : k < xs.length) (h : xs.getD k default < 0) (hv : 0 ≤ v) : negs (xs.set k v) + 1 = negs xs := by
  induction xs generalizing k with
  | nil => simp at hk
  | cons x xs ih =>
    cases k with
    | zero =>
      have h : x < 0 := h
      have h' : ¬ v < 0 := by omega
      simp [negs, List.countP_cons, h, h']
    | succ k =>
      have := ih (k := k) (by simpa using hk) (by simpa using h)
      simp only [negs, List.set_cons_succ, List.countP_cons] at this ⊢
      omega
theorem negs_le (xs : List Int) : negs xs ≤ xs.length := List.countP_le_length
theorem negs_rep (n : Nat) : negs (List.replicate n (-1)) = n := by
  simp [negs, List.countP_replicate]
theorem rep_get (n k : Nat) (h : k < n) : (List.replicate n (-1 : Int)).getD k default = -1 := by
  rw [List.getD_eq_getElem?_getD, List.getElem?_replicate, if_pos h]; rfl
/-- a list that has been filled up to a place -/
def FillI (xs : List Int) (i : Int) : Prop := ∀ k : Nat, (k : Int) < i → xs.getD k default = -1
theorem FillI.zero (xs : List Int) : FillI xs 0 := fun k hk => by omega
theorem FillI.next {xs : List Int} {i : Int} (h : FillI xs i) (h0 : 0 ≤ i) (hl : i < (xs.length : Int)) : FillI (xs.set (Int.toNat i) (-1)) (i + 1) := fun k hk => by
  by_cases e : k = Int.toNat i
  · subst e
    exact getD_set_eq _ _ _ (by omega)
  · rw [getD_set_ne _ _ _ _ e]
    exact h k (by omega)
theorem FillI.done {xs : List Int} {i : Int} {n : Nat} (h : FillI xs i) (hl : xs.length = n) (hi : ¬ i < (n : Int)) : xs = List.replicate n (-1) := by
  subst hl
  refine list_eq_of_getD (by simp) fun k hk => ?_
  rw [h k (by omega), rep_get _ _ hk]

/-- what the search with a queue keeps -/
structure FI (len : Nat) (xs queue : List Int) : Prop where
  ln : xs.length = len
  q : ∀ x ∈ queue, 0 ≤ x ∧ x < (len : Int) ∧ 0 ≤ xs.getD (Int.toNat x) default
  up : ∀ k, k < len → -1 ≤ xs.getD k default ∧ xs.getD k default + (negs xs : Int) + 1 ≤ (len : Int)
theorem FI.init {len : Nat} {b : Int} (h0 : 0 ≤ b) (h1 : b < (len : Int)) : FI len ((List.replicate len (-1)).set (Int.toNat b) 0) [b] ∧ negs ((List.replicate len (-1)).set (Int.toNat b) 0) + 1 = len := by
  have hl : Int.toNat b < (List.replicate len (-1 : Int)).length := by simp; omega
  have hn := negs_set (v := 0) hl (by rw [rep_get _ _ (by omega)]; decide) (by omega)
  rw [negs_rep] at hn
  refine ⟨⟨by simp, fun x hx => ?_, fun k hk => ?_⟩, hn⟩
  · rw [List.mem_singleton.1 hx]
    exact ⟨h0, h1, by rw [getD_set_eq _ _ _ hl]; omega⟩
  · by_cases e : k = Int.toNat b
    · subst e
      rw [getD_set_eq _ _ _ hl]; omega
    · rw [getD_set_ne _ _ _ _ e, rep_get _ _ hk]; omega
theorem FI.head {len : Nat} {xs queue : List Int} (h : FI len xs queue) (hq : (queue.length : Int) > 0) : 0 ≤ queue.getD (Int.toNat 0) default ∧ queue.getD (Int.toNat 0) default < (len : Int) ∧ 0 ≤ xs.getD (Int.toNat (queue.getD (Int.toNat 0) default)) default :=
  h.q _ (getD_mem _ (by omega))
theorem FI.tail {len : Nat} {xs queue : List Int} (h : FI len xs queue) : FI len xs (queue.drop (Int.toNat 1)) := ⟨h.ln, fun x hx => h.q x (List.mem_of_mem_drop hx), h.up⟩
theorem FI.val {len : Nat} {xs queue : List Int} (h : FI len xs queue) (h8 : len ≤ 8) {b : Int} (h0 : 0 ≤ b) (h1 : b < (len : Int)) : IntKind.i64.wrap (xs.getD (Int.toNat b) default + 1) = xs.getD (Int.toNat b) default + 1 := by
  have := h.up (Int.toNat b) (by omega)
  exact wrap_of (by omega) (by omega)
theorem FI.next {len : Nat} {xs queue : List Int} (h : FI len xs queue) (h8 : len ≤ 8) {b v : Int} (h0 : 0 ≤ b) (h1 : b < (len : Int)) (hb : 0 ≤ xs.getD (Int.toNat b) default) (v0 : 0 ≤ v) (v1 : v < (len : Int)) (hv : xs.getD (Int.toNat v) default < 0) :
    FI len (xs.set (Int.toNat v) (IntKind.i64.wrap (xs.getD (Int.toNat b) default + 1))) (queue ++ [v]) ∧ negs (xs.set (Int.toNat v) (IntKind.i64.wrap (xs.getD (Int.toNat b) default + 1))) + 1 = negs xs ∧ 0 ≤ (xs.set (Int.toNat v) (IntKind.i64.wrap (xs.getD (Int.toNat b) default + 1))).getD (Int.toNat b) default := by
  rw [h.val h8 h0 h1]
  have hl : Int.toNat v < xs.length := by rw [h.ln]; omega
  have hn := negs_set (v := xs.getD (Int.toNat b) default + 1) hl hv (by omega)
  have hvb : Int.toNat b ≠ Int.toNat v := fun e => by rw [e] at hb; omega
  have hbu := (h.up (Int.toNat b) (by omega)).2
  refine ⟨⟨by simp [h.ln], fun x hx => ?_, fun k hk => ?_⟩, hn, by rw [getD_set_ne _ _ _ _ hvb]; exact hb⟩
  · rcases List.mem_append.1 hx with hx | hx
    · obtain ⟨a1, a2, a3⟩ := h.q x hx
      refine ⟨a1, a2, ?_⟩
      rw [getD_set_ne _ _ _ _ fun e => by rw [e] at a3; omega]
      exact a3
    · rw [List.mem_singleton.1 hx]
      exact ⟨v0, v1, by rw [getD_set_eq _ _ _ hl]; omega⟩
  · have hk' := h.up k hk
    by_cases e : k = Int.toNat v
    · subst e
      rw [getD_set_eq _ _ _ hl]; omega
    · rw [getD_set_ne _ _ _ _ e]; omega

/-! ### Distances -/

def adj (n : LabNet) (w i j : Int) : Prop := 0 ≤ linkOf n i j ∧ linkOf n i j ≠ w
theorem adj_comm {n : LabNet} {w i j : Int} (h : adj n w i j) : adj n w j i := by
  unfold adj at *; rw [linkOf_comm n j i]; exact h
theorem adj_in {n : LabNet} (hf : FrameOk n) {w i j : Int} (h : adj n w i j) : 0 ≤ i ∧ i < (n.Boxes.length : Int) ∧ 0 ≤ j ∧ j < (n.Boxes.length : Int) := by
  have := linkOf_in hf h.1; omega
/-- f tells how far each box is from b, without a link; -1 where there is no way -/
structure IsDist (n : LabNet) (b w : Int) (f : List Int) : Prop where
  ln : f.length = n.Boxes.length
  b0 : f.getD (Int.toNat b) default = 0
  low : ∀ k, k < n.Boxes.length → -1 ≤ f.getD k default
  pred : ∀ k : Nat, k < n.Boxes.length → 0 < f.getD k default → ∃ j : Nat, j < n.Boxes.length ∧ adj n w j k ∧ f.getD j default = f.getD k default - 1
  zero : ∀ k : Nat, k < n.Boxes.length → f.getD k default = 0 → (k : Int) = b
  clos : ∀ j k : Nat, j < n.Boxes.length → k < n.Boxes.length → adj n w j k → 0 ≤ f.getD j default → 0 ≤ f.getD k default ∧ f.getD k default ≤ f.getD j default + 1
theorem IsDist.le {n : LabNet} {b w : Int} {f g : List Int} (hf : IsDist n b w f) (hg : IsDist n b w g) : ∀ (d k : Nat), k < n.Boxes.length → f.getD k default = (d : Int) → 0 ≤ g.getD k default ∧ g.getD k default ≤ (d : Int)
  | 0, k, hk, e => by
    have := hf.zero k hk (by simpa using e)
    have h2 := hg.b0
    rw [← this, nn] at h2
    omega
  | d + 1, k, hk, e => by
    obtain ⟨j, hj, ha, hjd⟩ := hf.pred k hk (by omega)
    have h1 := IsDist.le hf hg d j hj (by omega)
    have h2 := hg.clos j k hj hk ha h1.1
    omega
theorem IsDist.unique {n : LabNet} {b w : Int} {f g : List Int} (hf : IsDist n b w f) (hg : IsDist n b w g) : f = g := by
  refine list_eq_of_getD (hf.ln.trans hg.ln.symm) fun k hk => ?_
  rw [hf.ln] at hk
  have l1 := hf.low k hk; have l2 := hg.low k hk
  rcases Int.lt_or_le (f.getD k default) 0 with h | h
  · rcases Int.lt_or_le (g.getD k default) 0 with h' | h'
    · omega
    · have := IsDist.le hg hf (Int.toNat (g.getD k default)) k hk (by omega); omega
  · have a := IsDist.le hf hg (Int.toNat (f.getD k default)) k hk (by omega)
    have b := IsDist.le hg hf (Int.toNat (g.getD k default)) k hk (by omega)
    omega
theorem link_in {n : LabNet} (h : FrameOk n) {i : Int} (h0 : 0 ≤ i) (h1 : i < (n.Links.length : Int)) : 0 ≤ (n.Links.getD (Int.toNat i) default).A ∧ (n.Links.getD (Int.toNat i) default).A < (n.Boxes.length : Int) ∧ 0 ≤ (n.Links.getD (Int.toNat i) default).B ∧ (n.Links.getD (Int.toNat i) default).B < (n.Boxes.length : Int) := by
  have := h.ab (Int.toNat i) (by omega); omega
end Go.Proofs.YtjefeigdapcleaaGreat
