/- Plain laws of distances in a net: both searches find them. -/
import Derived.Test.YtjefeigdapcleaaGreatVW1
namespace Go.Proofs.YtjefeigdapcleaaGreat
open Go.RowKit
set_option maxRecDepth 100000
set_option linter.unusedVariables false
set_option linter.unusedSimpArgs false
/-- a loop with a measure -/
theorem runL_meas {σ ρ : Type} {step : σ → Lp σ ρ} (I : σ → Prop) (mu : σ → Nat) (Q : σ → Prop) (h : ∀ s, I s → (step s = .done s ∧ Q s) ∨ ∃ s', step s = .next s' ∧ I s' ∧ mu s' < mu s) : ∀ (m : Nat) (s : σ), I s → mu s < m → ∃ s', runL step m s = .done s' ∧ I s' ∧ Q s'
  | 0, s, _, hm => by omega
  | m + 1, s, hs, hm => by
    rcases h s hs with ⟨e, hq⟩ | ⟨s', e, hi, hl⟩
    · exact ⟨s, by simp only [runL, e], hs, hq⟩
    · obtain ⟨s2, e2, h2⟩ := runL_meas I mu Q h m s' hi (by omega)
      exact ⟨s2, by simp only [runL, e]; exact e2, h2⟩

/-! ### The search with a queue -/

structure BI (n : LabNet) (b w : Int) (f : Nat → Int) : Prop where
  b0 : f (Int.toNat b) = 0
  low : ∀ k, k < n.Boxes.length → -1 ≤ f k
  pred : ∀ k : Nat, k < n.Boxes.length → 0 < f k → ∃ j : Nat, j < n.Boxes.length ∧ adj n w j k ∧ f j = f k - 1
  zero : ∀ k : Nat, k < n.Boxes.length → f k = 0 → (k : Int) = b
structure Outer (n : LabNet) (b w : Int) (f : Nat → Int) (queue : List Int) : Prop where
  bi : BI n b w f
  qr : ∀ x ∈ queue, 0 ≤ x ∧ x < (n.Boxes.length : Int) ∧ 0 ≤ f (Int.toNat x)
  srt : queue.Pairwise fun x y => f (Int.toNat x) ≤ f (Int.toNat y)
  top : ∀ x, queue.head? = some x → ∀ k, k < n.Boxes.length → f k ≤ f (Int.toNat x) + 1
  fr : ∀ j : Nat, j < n.Boxes.length → 0 ≤ f j → (j : Int) ∉ queue → ∀ k : Nat, k < n.Boxes.length → adj n w j k → 0 ≤ f k ∧ f k ≤ f j + 1
structure Inner (n : LabNet) (b w : Int) (f : Nat → Int) (queue : List Int) (box d : Int) (v : Nat) : Prop where
  bi : BI n b w f
  r0 : 0 ≤ box
  r1 : box < (n.Boxes.length : Int)
  fb : f (Int.toNat box) = d
  d0 : 0 ≤ d
  qr : ∀ x ∈ queue, 0 ≤ x ∧ x < (n.Boxes.length : Int) ∧ 0 ≤ f (Int.toNat x)
  srt : queue.Pairwise fun x y => f (Int.toNat x) ≤ f (Int.toNat y)
  qd : ∀ x ∈ queue, d ≤ f (Int.toNat x)
  top : ∀ k, k < n.Boxes.length → f k ≤ d + 1
  fr : ∀ j : Nat, j < n.Boxes.length → 0 ≤ f j → (j : Int) ∉ queue → (j : Int) ≠ box → ∀ k : Nat, k < n.Boxes.length → adj n w j k → 0 ≤ f k ∧ f k ≤ f j + 1
  part : ∀ k : Nat, k < v → adj n w box k → 0 ≤ f k
theorem Outer.inner {n : LabNet} {b w : Int} {f : Nat → Int} {box : Int} {q : List Int} (h : Outer n b w f (box :: q)) : Inner n b w f q box (f (Int.toNat box)) 0 where
  bi := h.bi
  r0 := (h.qr box List.mem_cons_self).1
  r1 := (h.qr box List.mem_cons_self).2.1
  fb := rfl
  d0 := (h.qr box List.mem_cons_self).2.2
  qr := fun x hx => h.qr x (List.mem_cons_of_mem _ hx)
  srt := (List.pairwise_cons.1 h.srt).2
  qd := (List.pairwise_cons.1 h.srt).1
  top := h.top box rfl
  fr := fun j hj h0 hq hb => h.fr j hj h0 fun hm => by
    rcases List.mem_cons.1 hm with e | hm
    · exact hb e
    · exact hq hm
  part := fun k hk => by omega
theorem Inner.outer {n : LabNet} {b w : Int} {f : Nat → Int} {box d : Int} {q : List Int} (h : Inner n b w f q box d n.Boxes.length) : Outer n b w f q where
  bi := h.bi
  qr := h.qr
  srt := h.srt
  top := fun x hx k hk => by
    have := h.qd x (List.mem_of_mem_head? hx)
    have := h.top k hk
    omega
  fr := fun j hj h0 hq k hk ha => by
    by_cases e : (j : Int) = box
    · rw [e] at ha
      refine ⟨h.part k hk ha, ?_⟩
      have h1 := h.top k hk
      have h2 := h.fb
      rw [← e, nn] at h2
      omega
    · exact h.fr j hj h0 hq e k hk ha
theorem Inner.skip {n : LabNet} {b w : Int} {f : Nat → Int} {box d : Int} {q : List Int} {v : Nat} (h : Inner n b w f q box d v) (hv : 0 ≤ f v ∨ ¬ adj n w box v) : Inner n b w f q box d (v + 1) :=
  ⟨h.bi, h.r0, h.r1, h.fb, h.d0, h.qr, h.srt, h.qd, h.top, h.fr, fun k hk ha => by
    rcases Nat.lt_succ_iff_lt_or_eq.1 hk with hk | rfl
    · exact h.part k hk ha
    · rcases hv with hv | hv
      · exact hv
      · exact absurd ha hv⟩
theorem Inner.push {n : LabNet} {b w : Int} {f g : Nat → Int} {box d : Int} {q : List Int} {v : Nat} (h : Inner n b w f q box d v) (hvl : v < n.Boxes.length) (hn : f v < 0) (ha : adj n w box v) (hg : g v = d + 1) (hgn : ∀ k, k ≠ v → g k = f k) : Inner n b w g (q ++ [(v : Int)]) box d (v + 1) := by
  have hd := h.d0
  have hvis : ∀ k, 0 ≤ f k → g k = f k := fun k hk => hgn k fun e => by rw [e] at hk; omega
  have hbv : Int.toNat box ≠ v := fun e => by have := h.fb; rw [e] at this; omega
  have hqv : ∀ x ∈ q, g (Int.toNat x) = f (Int.toNat x) := fun x hx => hvis _ (h.qr x hx).2.2
  refine ⟨⟨?_, fun k hk => ?_, fun k hk h0 => ?_, fun k hk h0 => ?_⟩, h.r0, h.r1, ?_, hd, fun x hx => ?_, ?_, fun x hx => ?_, fun k hk => ?_, fun j hj h0 hq hb k hk hadj => ?_, fun k hk hadj => ?_⟩
  · rw [hvis _ (by rw [h.bi.b0]; omega)]; exact h.bi.b0
  · by_cases e : k = v
    · rw [e, hg]; omega
    · rw [hgn k e]; exact h.bi.low k hk
  · by_cases e : k = v
    · subst e
      refine ⟨Int.toNat box, by have := h.r0; have := h.r1; omega, by have := h.r0; rw [Int.toNat_of_nonneg this]; exact ha, ?_⟩
      rw [hgn _ hbv, h.fb, hg]; omega
    · rw [hgn k e] at h0 ⊢
      obtain ⟨j, h1, h2, h3⟩ := h.bi.pred k hk h0
      exact ⟨j, h1, h2, by rw [hvis j (by omega)]; exact h3⟩
  · by_cases e : k = v
    · rw [e, hg] at h0; omega
    · rw [hgn k e] at h0; exact h.bi.zero k hk h0
  · rw [hgn _ hbv]; exact h.fb
  · rcases List.mem_append.1 hx with hx | hx
    · rw [hqv x hx]; exact h.qr x hx
    · rw [List.mem_singleton.1 hx, nn, hg]; omega
  · refine List.pairwise_append.2 ⟨?_, by simp, fun x hx y hy => ?_⟩
    · exact h.srt.imp_of_mem fun {x y} hx hy hxy => by rw [hqv x hx, hqv y hy]; exact hxy
    · rw [List.mem_singleton.1 hy, nn, hg, hqv x hx]
      have := h.qr x hx
      exact h.top _ (by omega)
  · rcases List.mem_append.1 hx with hx | hx
    · rw [hqv x hx]; exact h.qd x hx
    · rw [List.mem_singleton.1 hx, nn, hg]; omega
  · by_cases e : k = v
    · rw [e, hg]; omega
    · rw [hgn k e]; exact h.top k hk
  · have hjv : j ≠ v := fun e => hq (List.mem_append_right _ (by rw [e]; exact List.mem_singleton_self _))
    rw [hgn j hjv] at h0 ⊢
    have := h.fr j hj h0 (fun hm => hq (List.mem_append_left _ hm)) hb k hk hadj
    rw [hvis k this.1]; exact this
  · by_cases e : k = v
    · rw [e, hg]; omega
    · rw [hgn k e]
      exact h.part k (by omega) hadj
theorem Outer.init {n : LabNet} {b w : Int} (h0 : 0 ≤ b) (h1 : b < (n.Boxes.length : Int)) (f : Nat → Int) (hb : f (Int.toNat b) = 0) (hn : ∀ k, k < n.Boxes.length → k ≠ Int.toNat b → f k = -1) : Outer n b w f [b] := by
  have hall : ∀ k, k < n.Boxes.length → f k ≤ 0 ∧ -1 ≤ f k := fun k hk => by
    by_cases e : k = Int.toNat b
    · rw [e, hb]; omega
    · rw [hn k hk e]; omega
  refine ⟨⟨hb, fun k hk => (hall k hk).2, fun k hk h => by have := (hall k hk).1; omega, fun k hk h => ?_⟩, fun x hx => ?_, by simp, fun x hx k hk => ?_, fun j hj h hq => ?_⟩
  · by_cases e : k = Int.toNat b
    · omega
    · rw [hn k hk e] at h; omega
  · rw [List.mem_singleton.1 hx, hb]; omega
  · simp only [List.head?_cons, Option.some.injEq] at hx
    subst hx
    rw [hb]
    have := (hall k hk).1; omega
  · exfalso
    by_cases e : j = Int.toNat b
    · exact hq (by rw [e, Int.toNat_of_nonneg h0]; exact List.mem_singleton_self _)
    · rw [hn j hj e] at h; omega
theorem Outer.dist {n : LabNet} {b w : Int} {xs : List Int} (hl : xs.length = n.Boxes.length) (h : Outer n b w (fun k => xs.getD k default) []) : IsDist n b w xs :=
  ⟨hl, h.bi.b0, h.bi.low, h.bi.pred, h.bi.zero, fun j k hj hk ha h0 => h.fr j hj h0 (by simp) k hk ha⟩

theorem implFar_fill (n : LabNet) (b w : Int) : F109_j0 n b w = .done (List.replicate n.Boxes.length (-1)) := by
  unfold F109_j0
  have h := runL_rule (step := F109_s0 n b w) (fun (k : Nat) (s : List Int) => ((k : Int), s)) n.Boxes.length (fun k s => s.length = n.Boxes.length ∧ FillI s k) (fun _ => False)
    (fun k s hk ⟨h1, h2⟩ => .inl ⟨s.set k (-1), by simp only [F109_s0, nn, List.length_replicate, ltD hk, cond_true]; rfl, by simp [h1], by have := h2.next (by omega) (by omega); rwa [nn] at this⟩)
    (fun s _ => by simp [F109_s0]) n.Boxes.length 0 (List.replicate n.Boxes.length 0) (by omega) ⟨by simp, FillI.zero _⟩ (n.Boxes.length + 1) (Nat.lt_succ_self _)
  rcases h with ⟨s, h, h1, h2⟩ | ⟨_, _, h⟩
  · have h : runL (F109_s0 n b w) (n.Boxes.length + 1) (0, List.replicate n.Boxes.length 0) = .done ((n.Boxes.length : Int), s) := h
    simp only [nn, List.length_replicate, n0, h, Lp.fin]
    rw [h2.done h1 (by omega)]
  · exact h.elim
theorem implFar_round {n : LabNet} (h8 : n.Boxes.length ≤ 8) (b w : Int) (f0 : List Int) (box : Int) (q xs : List Int) (hF : FI n.Boxes.length xs (box :: q)) (hO : Outer n b w (fun k => xs.getD k default) (box :: q)) :
    ∃ q' xs', runL (F109_s2 n b w f0 (box :: q) xs) ((Int.toNat ((xs.length : Int) - 0)) + 1) (((box :: q).drop (Int.toNat 1)), 0, xs) = .done (q', (n.Boxes.length : Int), xs') ∧ FI n.Boxes.length xs' q' ∧ Outer n b w (fun k => xs'.getD k default) q' ∧ q'.length + negs xs' + 1 = (box :: q).length + negs xs := by
  have hln := hF.ln
  have hbox := hF.q box List.mem_cons_self
  have h := runL_rule (step := F109_s2 n b w f0 (box :: q) xs) (fun (k : Nat) (s : List Int × List Int) => (s.1, (k : Int), s.2)) n.Boxes.length
    (fun k s => FI n.Boxes.length s.2 s.1 ∧ Inner n b w (fun k => s.2.getD k default) s.1 box (xs.getD (Int.toNat box) default) k ∧ s.1.length + negs s.2 + 1 = (box :: q).length + negs xs) (fun _ => False)
    (fun k s hk ⟨g1, g2, g3⟩ => by
      obtain ⟨q1, ys⟩ := s
      simp only at g1 g2 g3
      have hv := g1.val h8 g2.r0 g2.r1
      have hfb := g2.fb
      by_cases hc : ys.getD k default < 0
      · by_cases ha : adj n w box k
        · have hp := g1.next h8 g2.r0 g2.r1 (by have := g2.d0; omega) (v := (k : Int)) (by omega) (by omega) (by rw [nn]; exact hc)
          refine .inl ⟨(q1 ++ [(k : Int)], ys.set k (IntKind.i64.wrap (ys.getD (Int.toNat box) default + 1))), ?_, by simpa only [nn] using hp.1, ?_, ?_⟩
          · have ha' : decide (0 ≤ linkOf n box (k : Int) ∧ linkOf n box (k : Int) ≠ w) = true := decide_eq_true ha
            simp only [F109_s2, hln, ltD hk, cond_true, nn, decide_eq_true hc, List.getD_cons_zero, show Int.toNat 0 = 0 from rfl, ha']
            rfl
          · refine g2.push hk hc ha ?_ fun j hj => getD_set_ne _ _ _ _ hj
            simp only
            rw [getD_set_eq _ _ _ (by rw [g1.ln]; exact hk), hv, hfb]
          · have := hp.2.1
            simp only [nn] at this
            simp only [List.length_append, List.length_singleton]
            omega
        · have ha' : decide (0 ≤ linkOf n box (k : Int) ∧ linkOf n box (k : Int) ≠ w) = false := decide_eq_false ha
          refine .inl ⟨(q1, ys), ?_, g1, g2.skip (.inr ha), g3⟩
          simp only [F109_s2, hln, ltD hk, cond_true, nn, decide_eq_true hc, List.getD_cons_zero, show Int.toNat 0 = 0 from rfl, ha', cond_false]
          rfl
      · refine .inl ⟨(q1, ys), ?_, g1, g2.skip (.inl (by show 0 ≤ ys.getD k default; omega)), g3⟩
        simp only [F109_s2, hln, ltD hk, cond_true, nn, decide_eq_false hc, cond_false]
        rfl)
    (fun s _ => by simp [F109_s2, hln]) n.Boxes.length 0 (q, xs) (by omega) ⟨⟨hF.ln, fun x hx => hF.q x (List.mem_cons_of_mem _ hx), hF.up⟩, hO.inner, by simp only [List.length_cons]; omega⟩ (n.Boxes.length + 1) (Nat.lt_succ_self _)
  rcases h with ⟨⟨q', xs'⟩, h, h1, h2, h3⟩ | ⟨_, _, h⟩
  · refine ⟨q', xs', ?_, h1, h2.outer, h3⟩
    rw [n0, hln]
    exact h
  · exact h.elim
theorem implFar_dist {n : LabNet} (h8 : n.Boxes.length ≤ 8) {b : Int} (h0 : 0 ≤ b) (h1 : b < (n.Boxes.length : Int)) (w : Int) : IsDist n b w (F109 n b w) := by
  unfold F109
  rw [implFar_fill]
  simp only [Lp.fin]
  obtain ⟨hF, hN⟩ := FI.init h0 h1
  have hl : Int.toNat b < (List.replicate n.Boxes.length (-1 : Int)).length := by simp; omega
  have hO : Outer n b w (fun k => ((List.replicate n.Boxes.length (-1)).set (Int.toNat b) 0).getD k default) [b] := Outer.init h0 h1 _ (getD_set_eq _ _ _ hl) fun k hk e => by
    show ((List.replicate n.Boxes.length (-1)).set (Int.toNat b) 0).getD k default = -1
    rw [getD_set_ne _ _ _ _ e, rep_get _ _ hk]
  generalize hX : (List.replicate n.Boxes.length (-1 : Int)).set (Int.toNat b) 0 = X at hF hN hO
  obtain ⟨⟨q', xs'⟩, h, ⟨g1, g2⟩, g3⟩ := runL_meas (step := F109_s1 n b w (List.replicate n.Boxes.length (-1))) (fun s => FI n.Boxes.length s.2 s.1 ∧ Outer n b w (fun k => s.2.getD k default) s.1) (fun s => s.1.length + negs s.2) (fun s => s.1 = [])
    (fun s ⟨g1, g2⟩ => by
      obtain ⟨q, xs⟩ := s
      cases q with
      | nil => exact .inl ⟨by simp [F109_s1], rfl⟩
      | cons box q =>
        obtain ⟨q', xs', e, k1, k2, k3⟩ := implFar_round h8 b w (List.replicate n.Boxes.length (-1)) box q xs g1 g2
        refine .inr ⟨(q', xs'), ?_, ⟨k1, k2⟩, by show q'.length + negs xs' < (box :: q).length + negs xs; omega⟩
        have hc : decide (((box :: q).length : Int) > 0) = true := decide_eq_true (by simp only [List.length_cons]; omega)
        simp only [F109_s1, hc, cond_true, e, Lp.fin]) ([b].length + negs X + 1) ([b], X) ⟨hF, hO⟩ (Nat.lt_succ_self _)
  rw [h]
  simp only at g1 g2 g3 ⊢
  subst g3
  exact Outer.dist g1.ln g2
end Go.Proofs.YtjefeigdapcleaaGreat
