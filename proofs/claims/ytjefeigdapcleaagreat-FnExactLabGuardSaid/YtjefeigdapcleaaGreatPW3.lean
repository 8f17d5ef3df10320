/- Plain laws of distances in a net: the search by rounds finds them too. -/
import Derived.Test.YtjefeigdapcleaaGreatPW2
namespace Go.Proofs.YtjefeigdapcleaaGreat
open Go.RowKit
set_option maxRecDepth 100000
set_option linter.unusedVariables false
set_option linter.unusedSimpArgs false
theorem countP_two {α : Type} (p q r : α → Bool) (hp : ∀ x, p x = true → r x = true ∧ q x = false) (hq : ∀ x, q x = true → r x = true) : ∀ l : List α, l.countP p + l.countP q ≤ l.countP r
  | [] => by simp
  | x :: l => by
    have ih := countP_two p q r hp hq l
    simp only [List.countP_cons]
    cases h1 : p x <;> cases h2 : q x <;> cases h3 : r x <;> simp_all <;> omega
/-- values that go down one by one: there are no more of them than places -/
theorem chain_le (len : Nat) (f : Nat → Int) (hpred : ∀ k, k < len → 0 < f k → ∃ j, j < len ∧ f j = f k - 1) : ∀ (d : Nat) (k : Nat), k < len → f k = (d : Int) → d + 1 ≤ (List.range len).countP (fun k => decide (0 ≤ f k) && decide (f k < (d : Int) + 1))
  | 0, k, hk, e => by
    have : 0 < (List.range len).countP (fun k => decide (0 ≤ f k) && decide (f k < ((0 : Nat) : Int) + 1)) := List.countP_pos_iff.2 ⟨k, List.mem_range.2 hk, by simp [e]⟩
    omega
  | d + 1, k, hk, e => by
    obtain ⟨j, hj, ej⟩ := hpred k hk (by omega)
    have ih := chain_le len f hpred d j hj (by omega)
    have h1 : 0 < (List.range len).countP (fun k => decide (f k = (d : Int) + 1)) := List.countP_pos_iff.2 ⟨k, List.mem_range.2 hk, by simp [e]⟩
    have h2 := countP_two (fun k => decide (0 ≤ f k) && decide (f k < (d : Int) + 1)) (fun k => decide (f k = (d : Int) + 1)) (fun k => decide (0 ≤ f k) && decide (f k < ((d + 1 : Nat) : Int) + 1))
      (fun x hx => by
        simp only [Bool.and_eq_true, decide_eq_true_eq, decide_eq_false_iff_not] at hx ⊢
        omega) (fun x hx => by
        simp only [Bool.and_eq_true, decide_eq_true_eq] at hx ⊢
        omega) (List.range len)
    omega
theorem BI.lt {n : LabNet} {b w : Int} {f : Nat → Int} (h : BI n b w f) {k : Nat} (hk : k < n.Boxes.length) : f k < (n.Boxes.length : Int) := by
  rcases Int.lt_or_le (f k) 0 with h0 | h0
  · omega
  · have h1 := chain_le n.Boxes.length f (fun k hk h0 => by
      obtain ⟨j, h1, _, h2⟩ := h.pred k hk h0
      exact ⟨j, h1, h2⟩) (Int.toNat (f k)) k hk (by omega)
    have h2 := List.countP_le_length (p := fun k' => decide (0 ≤ f k') && decide (f k' < ((Int.toNat (f k) : Nat) : Int) + 1)) (l := List.range n.Boxes.length)
    rw [List.length_range] at h2
    omega

/-- what holds before round d -/
structure Rd (n : LabNet) (b w : Int) (f : Nat → Int) (d : Int) : Prop where
  bi : BI n b w f
  d0 : 0 ≤ d
  top : ∀ k, k < n.Boxes.length → f k ≤ d
  fr : ∀ j : Nat, j < n.Boxes.length → 0 ≤ f j → f j < d → ∀ k : Nat, k < n.Boxes.length → adj n w j k → 0 ≤ f k ∧ f k ≤ f j + 1
/-- what holds in round d, behind link i -/
structure Ri (n : LabNet) (b w : Int) (f : Nat → Int) (d : Int) (i : Nat) : Prop where
  bi : BI n b w f
  d0 : 0 ≤ d
  top : ∀ k, k < n.Boxes.length → f k ≤ d + 1
  fr : ∀ j : Nat, j < n.Boxes.length → 0 ≤ f j → f j < d → ∀ k : Nat, k < n.Boxes.length → adj n w j k → 0 ≤ f k ∧ f k ≤ f j + 1
  part : ∀ m : Nat, m < i → (m : Int) ≠ w → (f (Int.toNat (n.Links.getD m default).A) = d → 0 ≤ f (Int.toNat (n.Links.getD m default).B)) ∧ (f (Int.toNat (n.Links.getD m default).B) = d → 0 ≤ f (Int.toNat (n.Links.getD m default).A))
theorem Rd.start {n : LabNet} {b w : Int} {f : Nat → Int} {d : Int} (h : Rd n b w f d) : Ri n b w f d 0 :=
  ⟨h.bi, h.d0, fun k hk => by have := h.top k hk; omega, h.fr, fun m hm => by omega⟩
theorem Ri.done {n : LabNet} (hf : FrameOk n) {b w : Int} {f : Nat → Int} {d : Int} (h : Ri n b w f d n.Links.length) : Rd n b w f (d + 1) :=
  ⟨h.bi, by have := h.d0; omega, h.top, fun j hj h0 hd k hk ha => by
    rcases Int.lt_or_le (f j) d with hlt | hge
    · exact h.fr j hj h0 hlt k hk ha
    · have ej : f j = d := by omega
      obtain ⟨m1, m2⟩ := linkOf_some ha.1
      have hw : ((linkOf n j k).toNat : Int) ≠ w := fun e => ha.2 (by rw [← e]; have := ha.1; omega)
      have hp := h.part _ m1 hw
      have hab := hf.ab _ m1
      simp only [isLink, Bool.or_eq_true, Bool.and_eq_true, decide_eq_true_eq] at m2
      generalize n.Links.getD (linkOf n j k).toNat default = l at *
      have ht := h.top k hk
      refine ⟨?_, by omega⟩
      rcases m2 with ⟨e1, e2⟩ | ⟨e1, e2⟩
      · rw [e1, e2, nn, nn] at hp
        exact hp.1 ej
      · rw [e1, e2, nn, nn] at hp
        exact hp.2 ej⟩
/-- a box is reached in round d -/
theorem Ri.set {n : LabNet} {b w : Int} {f g : Nat → Int} {d : Int} {i j v : Nat} (h : Ri n b w f d i) (hj : j < n.Boxes.length) (hv : v < n.Boxes.length) (hfj : f j = d) (hfv : f v < 0) (ha : adj n w j v) (hg : g v = d + 1) (hgn : ∀ k, k ≠ v → g k = f k) : Ri n b w g d i := by
  have hd := h.d0
  have hvis : ∀ k, 0 ≤ f k → g k = f k := fun k hk => hgn k fun e => by rw [e] at hk; omega
  have hdiff : ∀ k, g k = d → f k = d := fun k hk => by
    by_cases e : k = v
    · rw [e, hg] at hk; omega
    · rw [hgn k e] at hk; exact hk
  have hge : ∀ k, 0 ≤ f k → 0 ≤ g k := fun k hk => by rw [hvis k hk]; exact hk
  refine ⟨⟨?_, fun k hk => ?_, fun k hk h0 => ?_, fun k hk h0 => ?_⟩, hd, fun k hk => ?_, fun j' hj' h0 hlt k hk hadj => ?_, fun m hm hw => ⟨fun e => hge _ ((h.part m hm hw).1 (hdiff _ e)), fun e => hge _ ((h.part m hm hw).2 (hdiff _ e))⟩⟩
  · rw [hvis _ (by rw [h.bi.b0]; omega)]; exact h.bi.b0
  · by_cases e : k = v
    · rw [e, hg]; omega
    · rw [hgn k e]; exact h.bi.low k hk
  · by_cases e : k = v
    · subst e
      exact ⟨j, hj, ha, by rw [hvis j (by omega), hg]; omega⟩
    · rw [hgn k e] at h0 ⊢
      obtain ⟨j2, h1, h2, h3⟩ := h.bi.pred k hk h0
      exact ⟨j2, h1, h2, by rw [hvis j2 (by omega)]; exact h3⟩
  · by_cases e : k = v
    · rw [e, hg] at h0; omega
    · rw [hgn k e] at h0; exact h.bi.zero k hk h0
  · by_cases e : k = v
    · rw [e, hg]; omega
    · rw [hgn k e]; exact h.top k hk
  · have hjv : j' ≠ v := fun e => by rw [e, hg] at hlt; omega
    rw [hgn j' hjv] at h0 hlt ⊢
    have := h.fr j' hj' h0 hlt k hk hadj
    rw [hvis k this.1]; exact this
theorem Ri.next {n : LabNet} {b w : Int} {f : Nat → Int} {d : Int} {i : Nat} (h : Ri n b w f d i) (hp : (i : Int) ≠ w → (f (Int.toNat (n.Links.getD i default).A) = d → 0 ≤ f (Int.toNat (n.Links.getD i default).B)) ∧ (f (Int.toNat (n.Links.getD i default).B) = d → 0 ≤ f (Int.toNat (n.Links.getD i default).A))) : Ri n b w f d (i + 1) :=
  ⟨h.bi, h.d0, h.top, h.fr, fun m hm hw => by
    rcases Nat.lt_succ_iff_lt_or_eq.1 hm with hm | rfl
    · exact h.part m hm hw
    · exact hp hw⟩
theorem Rd.dist {n : LabNet} {b w : Int} {xs : List Int} (hl : xs.length = n.Boxes.length) (h : Rd n b w (fun k => xs.getD k default) n.Boxes.length) : IsDist n b w xs :=
  ⟨hl, h.bi.b0, h.bi.low, h.bi.pred, h.bi.zero, fun j k hj hk ha h0 => h.fr j hj h0 (h.bi.lt hj) k hk ha⟩

theorem specFar_fill (n : LabNet) (b w : Int) : F71_j0 n b w = .done (List.replicate n.Boxes.length (-1)) := by
  unfold F71_j0
  have h := runL_rule (step := F71_s0 n b w) (fun (k : Nat) (s : List Int) => ((k : Int), s)) n.Boxes.length (fun k s => s.length = n.Boxes.length ∧ FillI s k) (fun _ => False)
    (fun k s hk ⟨h1, h2⟩ => .inl ⟨s.set k (-1), by simp only [F71_s0, nn, h1, ltD hk, cond_true]; rfl, by simp [h1], by have := h2.next (by omega) (by omega); rwa [nn] at this⟩)
    (fun s ⟨h1, _⟩ => by simp [F71_s0, h1]) n.Boxes.length 0 (List.replicate n.Boxes.length 0) (by omega) ⟨by simp, FillI.zero _⟩ (n.Boxes.length + 1) (Nat.lt_succ_self _)
  rcases h with ⟨s, h, h1, h2⟩ | ⟨_, _, h⟩
  · have h : runL (F71_s0 n b w) (n.Boxes.length + 1) (0, List.replicate n.Boxes.length 0) = .done ((n.Boxes.length : Int), s) := h
    simp only [nn, List.length_replicate, n0, h, Lp.fin]
    rw [h2.done h1 (by omega)]
  · exact h.elim
/-- one end of a link reaches the other one -/
theorem Ri.half {n : LabNet} {b w : Int} {xs : List Int} {d : Int} {i : Nat} (hl : xs.length = n.Boxes.length) (h : Ri n b w (fun k => xs.getD k default) d i) {x y : Int} (hx0 : 0 ≤ x) (hx : x < (n.Boxes.length : Int)) (hy0 : 0 ≤ y) (hy : y < (n.Boxes.length : Int)) (ha : adj n w x y) :
    ∃ ys, (bif (bif ((xs.getD (Int.toNat x) default) == d) then decide ((xs.getD (Int.toNat y) default) < 0) else false) then (xs.set (Int.toNat y) (d + 1)) else xs) = ys ∧ ys.length = n.Boxes.length ∧ Ri n b w (fun k => ys.getD k default) d i ∧ (ys.getD (Int.toNat x) default = d → 0 ≤ ys.getD (Int.toNat y) default) ∧ (∀ k, 0 ≤ xs.getD k default → ys.getD k default = xs.getD k default) := by
  by_cases h1 : xs.getD (Int.toNat x) default = d
  · by_cases h2 : xs.getD (Int.toNat y) default < 0
    · refine ⟨xs.set (Int.toNat y) (d + 1), by rw [h1]; simp only [beq_self_eq_true, cond_true, decide_eq_true h2], by simp [hl], ?_, fun _ => ?_, fun k hk => getD_set_ne _ _ _ _ fun e => by rw [e] at hk; omega⟩
      · refine h.set (j := Int.toNat x) (v := Int.toNat y) (by omega) (by omega) h1 h2 (by rw [Int.toNat_of_nonneg hx0, Int.toNat_of_nonneg hy0]; exact ha) (getD_set_eq _ _ _ (by omega)) fun k hk => getD_set_ne _ _ _ _ hk
      · rw [getD_set_eq _ _ _ (by omega)]
        have := h.d0; omega
    · exact ⟨xs, by rw [h1]; simp only [beq_self_eq_true, cond_true, decide_eq_false h2, cond_false], hl, h, fun _ => by omega, fun _ _ => rfl⟩
  · refine ⟨xs, ?_, hl, h, fun e => absurd e h1, fun _ _ => rfl⟩
    have : (xs.getD (Int.toNat x) default == d) = false := by rw [beqD]; exact decide_eq_false h1
    rw [this]; rfl
theorem specFar_round {n : LabNet} (hf : FrameOk n) (b w : Int) (f0 : List Int) (d : Int) (xs : List Int) (hl : xs.length = n.Boxes.length) (h : Rd n b w (fun k => xs.getD k default) d) :
    ∃ ys, runL (F71_s2 n b w f0 d xs) ((Int.toNat ((n.Links.length : Int) - 0)) + 1) (0, xs) = .done ((n.Links.length : Int), ys) ∧ ys.length = n.Boxes.length ∧ Rd n b w (fun k => ys.getD k default) (d + 1) := by
  have hh := runL_rule (step := F71_s2 n b w f0 d xs) (fun (k : Nat) (s : List Int) => ((k : Int), s)) n.Links.length
    (fun k s => s.length = n.Boxes.length ∧ Ri n b w (fun k => s.getD k default) d k) (fun _ => False)
    (fun k s hk ⟨g1, g2⟩ => by
      have hab := hf.ab k hk
      by_cases hw : (k : Int) = w
      · refine .inl ⟨s, ?_, g1, g2.next fun e => absurd hw e⟩
        have : ((k : Int) == w) = true := by simp [hw]
        simp only [F71_s2, ltD hk, cond_true, this]
        rfl
      · have hlk : ∀ x y : Int, isLink n x y k = true → adj n w x y := fun x y hi => by
          have e := linkOf_of hf hk hi
          exact ⟨by rw [e]; omega, by rw [e]; exact hw⟩
        have hA : adj n w (n.Links.getD k default).A (n.Links.getD k default).B := hlk _ _ (by simp [isLink])
        obtain ⟨ys, e1, l1, i1, p1, k1⟩ := g2.half g1 (by omega) (by omega) (by omega) (by omega) hA
        obtain ⟨zs, e2, l2, i2, p2, k2⟩ := i1.half l1 (by omega) (by omega) (by omega) (by omega) (adj_comm hA)
        have hj9 : F71_j9 n b w f0 d xs (k : Int) s = .done ys := by
          rw [← e1]
          simp only [F71_j9, nn]
          cases (bif (s.getD (Int.toNat (n.Links.getD k default).A) default == d) then decide (s.getD (Int.toNat (n.Links.getD k default).B) default < 0) else false) <;> rfl
        refine .inl ⟨zs, ?_, l2, i2.next fun _ => ⟨fun e => ?_, fun e => p2 e⟩⟩
        · have : ((k : Int) == w) = false := by simp [hw]
          simp only [F71_s2, ltD hk, cond_true, this, cond_false, hj9, Lp.fin, nn]
          rw [← e2]
          cases (bif (ys.getD (Int.toNat (n.Links.getD k default).B) default == d) then decide (ys.getD (Int.toNat (n.Links.getD k default).A) default < 0) else false) <;> rfl
        · -- what was of distance d still is, and what is reached stays so
          have hA' : ys.getD (Int.toNat (n.Links.getD k default).A) default = d := by
            by_cases hneg : ys.getD (Int.toNat (n.Links.getD k default).A) default < 0
            · exfalso
              have h3 : zs.getD (Int.toNat (n.Links.getD k default).A) default = d := e
              have h4 := e2
              by_cases hB : ys.getD (Int.toNat (n.Links.getD k default).B) default = d
              · simp only [hB, beq_self_eq_true, cond_true, decide_eq_true hneg] at h4
                rw [← h4, getD_set_eq _ _ _ (by omega)] at h3
                omega
              · have : (ys.getD (Int.toNat (n.Links.getD k default).B) default == d) = false := by rw [beqD]; exact decide_eq_false hB
                rw [this] at h4
                simp only [cond_false] at h4
                rw [← h4] at h3
                have := g2.d0
                omega
            · rw [← k2 _ (by omega)]; exact e
          have := p1 hA'
          show 0 ≤ zs.getD _ default
          rw [k2 _ this]; exact this)
    (fun s _ => by simp [F71_s2]) n.Links.length 0 xs (by omega) ⟨hl, h.start⟩ (n.Links.length + 1) (Nat.lt_succ_self _)
  rcases hh with ⟨ys, hh, h1, h2⟩ | ⟨_, _, hh⟩
  · refine ⟨ys, ?_, h1, h2.done hf⟩
    rw [n0]; exact hh
  · exact hh.elim
theorem specFar_dist {n : LabNet} (hf : FrameOk n) {b : Int} (h0 : 0 ≤ b) (h1 : b < (n.Boxes.length : Int)) (w : Int) : IsDist n b w (F71 n b w) := by
  unfold F71
  rw [specFar_fill]
  simp only [Lp.fin]
  have hl : Int.toNat b < (List.replicate n.Boxes.length (-1 : Int)).length := by simp; omega
  have hO : Outer n b w (fun k => ((List.replicate n.Boxes.length (-1)).set (Int.toNat b) 0).getD k default) [b] := Outer.init h0 h1 _ (getD_set_eq _ _ _ hl) fun k hk e => by
    show ((List.replicate n.Boxes.length (-1)).set (Int.toNat b) 0).getD k default = -1
    rw [getD_set_ne _ _ _ _ e, rep_get _ _ hk]
  have hX : ((List.replicate n.Boxes.length (-1)).set (Int.toNat b) 0).length = n.Boxes.length := by simp
  have hall : ∀ k, k < n.Boxes.length → ((List.replicate n.Boxes.length (-1)).set (Int.toNat b) 0).getD k default ≤ 0 := fun k hk => by
    by_cases e : k = Int.toNat b
    · rw [e, getD_set_eq _ _ _ hl]; omega
    · rw [getD_set_ne _ _ _ _ e, rep_get _ _ hk]; omega
  generalize (List.replicate n.Boxes.length (-1 : Int)).set (Int.toNat b) 0 = X at hO hX hall
  have hR : Rd n b w (fun k => X.getD k default) 0 := ⟨hO.bi, by omega, hall, fun j hj h1 h2 => by omega⟩
  have hh := runL_rule (step := F71_s1 n b w (List.replicate n.Boxes.length (-1))) (fun (k : Nat) (s : List Int) => ((k : Int), s)) n.Boxes.length
    (fun k s => s.length = n.Boxes.length ∧ Rd n b w (fun j => s.getD j default) k) (fun _ => False)
    (fun k s hk ⟨g1, g2⟩ => by
      obtain ⟨ys, e, l1, r1⟩ := specFar_round hf b w (List.replicate n.Boxes.length (-1)) k s g1 g2
      refine .inl ⟨ys, ?_, l1, r1⟩
      simp only [F71_s1, g1, ltD hk, cond_true, e, Lp.fin]
      rfl)
    (fun s ⟨g1, _⟩ => by simp [F71_s1, g1]) n.Boxes.length 0 X (by omega) ⟨hX, hR⟩ (n.Boxes.length + 1) (Nat.lt_succ_self _)
  rcases hh with ⟨ys, hh, g1, g2⟩ | ⟨_, _, hh⟩
  · have hh : runL (F71_s1 n b w (List.replicate n.Boxes.length (-1))) (n.Boxes.length + 1) (0, X) = .done ((n.Boxes.length : Int), ys) := hh
    rw [hX, n0, hh]
    exact Rd.dist g1 g2
  · exact hh.elim
theorem far_eq {n : LabNet} (hf : FrameOk n) {b : Int} (h0 : 0 ≤ b) (h1 : b < (n.Boxes.length : Int)) (w : Int) : F109 n b w = F71 n b w :=
  (implFar_dist hf.b8 h0 h1 w).unique (specFar_dist hf h0 h1 w)
/-! ### The next box on a way -/

theorem IsDist.lt {n : LabNet} {b w : Int} {f : List Int} (h : IsDist n b w f) {k : Int} (h0 : 0 ≤ k) (hk : k < (n.Boxes.length : Int)) : -1 ≤ f.getD (Int.toNat k) default ∧ f.getD (Int.toNat k) default < (n.Boxes.length : Int) :=
  ⟨h.low _ (by omega), BI.lt (f := fun k => f.getD k default) ⟨h.b0, h.low, h.pred, h.zero⟩ (by omega)⟩
theorem IsDist.pos {n : LabNet} {b w : Int} {f : List Int} (h : IsDist n b w f) {k : Int} (h0 : 0 ≤ k) (hk : k < (n.Boxes.length : Int)) (hb : ¬ k = b) (hd : 0 ≤ f.getD (Int.toNat k) default) : 0 < f.getD (Int.toNat k) default := by
  rcases Int.lt_or_le 0 (f.getD (Int.toNat k) default) with h1 | h1
  · exact h1
  · have := h.zero (Int.toNat k) (by omega) (by omega); omega
theorem IsDist.wr {n : LabNet} {b w : Int} {f : List Int} (h : IsDist n b w f) (h8 : n.Boxes.length ≤ 8) {k : Int} (h0 : 0 ≤ k) (hk : k < (n.Boxes.length : Int)) : IntKind.i64.wrap (f.getD (Int.toNat k) default - 1) = f.getD (Int.toNat k) default - 1 := by
  have := h.lt h0 hk
  exact wrap_of (by omega) (by omega)
def nextB (n : LabNet) (f : List Int) (w a v : Int) : Bool := bif decide (0 ≤ linkOf n a v ∧ linkOf n a v ≠ w) then (f.getD (Int.toNat v) default == IntKind.i64.wrap (f.getD (Int.toNat a) default - 1)) else false
/-- the least box that is nearer -/
def nextOf (n : LabNet) (f : List Int) (a w : Int) : Int := oix (first (fun k => nextB n f w a (k : Int)) f.length)
def NoNext (n : LabNet) (f : List Int) (w a v : Int) : Prop := ∀ k : Nat, (k : Int) < v → nextB n f w a (k : Int) = false
theorem NoNext.zero {n : LabNet} {f : List Int} {w a : Int} : NoNext n f w a 0 := fun k hk => by omega
theorem NoNext.next {n : LabNet} {f : List Int} {w a v : Int} (h : NoNext n f w a v) (h0 : 0 ≤ v) (hc : nextB n f w a v = false) : NoNext n f w a (v + 1) := fun k hk => by
  by_cases e : (k : Int) = v
  · rw [e]; exact hc
  · exact h k (by omega)
theorem IsDist.next {n : LabNet} {b w : Int} {f : List Int} (h : IsDist n b w f) (h8 : n.Boxes.length ≤ 8) {a : Int} (h0 : 0 ≤ a) (h1 : a < (n.Boxes.length : Int)) (hd : 0 < f.getD (Int.toNat a) default) : ∃ k : Nat, k < n.Boxes.length ∧ nextB n f w a (k : Int) = true := by
  obtain ⟨j, hj, ha, e⟩ := h.pred (Int.toNat a) (by omega) hd
  refine ⟨j, hj, ?_⟩
  have ha := adj_comm ha
  rw [Int.toNat_of_nonneg h0] at ha
  unfold nextB
  have ha2 : 0 ≤ linkOf n a j ∧ linkOf n a j ≠ w := ha
  rw [decide_eq_true ha2, cond_true, nn, h.wr h8 h0 h1, e]
  exact beq_self_eq_true _
theorem nextB_T {n : LabNet} {b w : Int} {f : List Int} (h : IsDist n b w f) (h8 : n.Boxes.length ≤ 8) {a v : Int} (h0 : 0 ≤ a) (h1 : a < (n.Boxes.length : Int)) (hc : nextB n f w a v = true) : f.getD (Int.toNat v) default = f.getD (Int.toNat a) default - 1 := by
  unfold nextB at hc
  rw [h.wr h8 h0 h1] at hc
  exact eq_of_beq (andT2 hc)
theorem nextB_U {n : LabNet} {b w : Int} {f : List Int} {a v : Int} (hc : (bif decide (0 ≤ linkOf n a v ∧ linkOf n a v ≠ w) then (f.getD (Int.toNat v) default == IntKind.i64.wrap (f.getD (Int.toNat a) default - 1)) else false) = true) (h : IsDist n b w f) (h8 : n.Boxes.length ≤ 8) (h0 : 0 ≤ a) (h1 : a < (n.Boxes.length : Int)) : f.getD (Int.toNat v) default = f.getD (Int.toNat a) default - 1 := nextB_T h h8 h0 h1 hc
theorem NoNext.nextU {n : LabNet} {f : List Int} {w a v : Int} (hc : (bif decide (0 ≤ linkOf n a v ∧ linkOf n a v ≠ w) then (f.getD (Int.toNat v) default == IntKind.i64.wrap (f.getD (Int.toNat a) default - 1)) else false) = false) (h : NoNext n f w a v) (h0 : 0 ≤ v) : NoNext n f w a (v + 1) := h.next h0 hc
theorem noNext_absurd {n : LabNet} {b w : Int} {f : List Int} (h : IsDist n b w f) (h8 : n.Boxes.length ≤ 8) {a v : Int} (h0 : 0 ≤ a) (h1 : a < (n.Boxes.length : Int)) (hd : 0 < f.getD (Int.toNat a) default) (hn : NoNext n f w a v) (hv : (n.Boxes.length : Int) ≤ v) : False := by
  obtain ⟨k, hk, e⟩ := h.next h8 h0 h1 hd
  rw [hn k (by omega)] at e
  cases e
theorem noNext_absurdU {n : LabNet} {b w : Int} {f : List Int} {a v : Int} (hn : NoNext n f w a v) (h : IsDist n b w f) (hb : ¬ a = b) (h8 : n.Boxes.length ≤ 8) (h0 : 0 ≤ a) (h1 : a < (n.Boxes.length : Int)) (hd : 0 ≤ f.getD (Int.toNat a) default) (hv : (n.Boxes.length : Int) ≤ v) : False :=
  noNext_absurd h h8 h0 h1 (h.pos h0 h1 hb hd) hn hv
theorem nextOf_ok {n : LabNet} {b w : Int} {f : List Int} (h : IsDist n b w f) (h8 : n.Boxes.length ≤ 8) {a : Int} (h0 : 0 ≤ a) (h1 : a < (n.Boxes.length : Int)) (hd : 0 < f.getD (Int.toNat a) default) : 0 ≤ nextOf n f a w ∧ nextOf n f a w < (n.Boxes.length : Int) ∧ f.getD (Int.toNat (nextOf n f a w)) default = f.getD (Int.toNat a) default - 1 ∧ nextB n f w a (nextOf n f a w) = true ∧ ∀ k : Nat, (k : Int) < nextOf n f a w → nextB n f w a (k : Int) = false := by
  unfold nextOf
  cases e : first (fun k => nextB n f w a (k : Int)) f.length with
  | none =>
    obtain ⟨k, hk, e2⟩ := h.next h8 h0 h1 hd
    have := first_none.1 e k (by rw [h.ln]; exact hk)
    simp only [e2] at this
    cases this
  | some k =>
    obtain ⟨k1, k2, k3⟩ := first_some.1 e
    simp only [oix]
    exact ⟨by omega, by rw [← h.ln]; omega, nextB_T h h8 h0 h1 k2, k2, fun j hj => k3 j (by omega)⟩
theorem far_isDist (n : LabNet) (b w : Int) (hf : FrameOk n) (h0 : 0 ≤ b) (h1 : b < (n.Boxes.length : Int)) : IsDist n b w (F71 n b w) := specFar_dist hf h0 h1 w
theorem far_len (n : LabNet) (b w : Int) (hf : FrameOk n) (h0 : 0 ≤ b) (h1 : b < (n.Boxes.length : Int)) : (F71 n b w).length = n.Boxes.length := (specFar_dist hf h0 h1 w).ln
theorem as109 (n : LabNet) (b w : Int) (hf : FrameOk n) (h0 : 0 ≤ b) (h1 : b < (n.Boxes.length : Int)) : F109 n b w = F71 n b w := far_eq hf h0 h1 w
end Go.Proofs.YtjefeigdapcleaaGreat
