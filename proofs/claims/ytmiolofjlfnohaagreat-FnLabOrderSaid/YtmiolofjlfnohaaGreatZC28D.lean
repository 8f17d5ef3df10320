/- A part of the proof of FnLabOrder. Texts put together: PW2, PW3, VW2, PW4, VL1, PL1, PL2, VL2, PL3, VL3, PL4, VG0. -/
import Derived.Test.YtmiolofjlfnohaaGreatRows
import Derived.Test.YtmiolofjlfnohaaGreatZC28C
namespace Go.Proofs.YtmiolofjlfnohaaGreat
open Go.RowKit
set_option maxRecDepth 100000
set_option linter.unusedVariables false
set_option linter.unusedSimpArgs false
theorem runL_meas {σ ρ : Type} {step : σ → Lp σ ρ} (I : σ → Prop) (mu : σ → Nat) (Q : σ → Prop) (h : ∀ s, I s → (step s = .done s ∧ Q s) ∨ ∃ s', step s = .next s' ∧ I s' ∧ mu s' < mu s) : ∀ (m : Nat) (s : σ), I s → mu s < m → ∃ s', runL step m s = .done s' ∧ I s' ∧ Q s'
 | 0, s, _, hm => by omega
 | m + 1, s, hs, hm => by
  rcases h s hs with ⟨e, hq⟩ | ⟨s', e, hi, hl⟩
  ·exact ⟨s, by simp only [runL, e], hs, hq⟩
  ·obtain ⟨s2, e2, h2⟩ := runL_meas I mu Q h m s' hi (by omega)
   exact ⟨s2, by simp only [runL, e]; exact e2, h2⟩
structure BI (n : LabNet) (b w : Int) (f : Nat → Int) : Prop where
 b0 : f b.toNat = 0
 low : ∀ k, k < n.Boxes.length → -1 ≤ f k
 pred : ∀ k : Nat, k < n.Boxes.length → 0 < f k → ∃ j : Nat, j < n.Boxes.length ∧ adj n w j k ∧ f j = f k - 1
 zero : ∀ k : Nat, k < n.Boxes.length → f k = 0 → (k : Int) = b
structure Outer (n : LabNet) (b w : Int) (f : Nat → Int) (queue : List Int) : Prop where
 bi : BI n b w f
 qr : ∀ x ∈ queue, 0 ≤ x ∧ x < (n.Boxes.length : Int) ∧ 0 ≤ f x.toNat
 srt : queue.Pairwise fun x y => f x.toNat ≤ f y.toNat
 top : ∀ x, queue.head? = some x → ∀ k, k < n.Boxes.length → f k ≤ f x.toNat + 1
 fr : ∀ j : Nat, j < n.Boxes.length → 0 ≤ f j → (j : Int) ∉ queue → ∀ k : Nat, k < n.Boxes.length → adj n w j k → 0 ≤ f k ∧ f k ≤ f j + 1
structure Inner (n : LabNet) (b w : Int) (f : Nat → Int) (queue : List Int) (box d : Int) (v : Nat) : Prop where
 bi : BI n b w f
 r0 : 0 ≤ box
 r1 : box < (n.Boxes.length : Int)
 fb : f box.toNat = d
 d0 : 0 ≤ d
 qr : ∀ x ∈ queue, 0 ≤ x ∧ x < (n.Boxes.length : Int) ∧ 0 ≤ f x.toNat
 srt : queue.Pairwise fun x y => f x.toNat ≤ f y.toNat
 qd : ∀ x ∈ queue, d ≤ f x.toNat
 top : ∀ k, k < n.Boxes.length → f k ≤ d + 1
 fr : ∀ j : Nat, j < n.Boxes.length → 0 ≤ f j → (j : Int) ∉ queue → (j : Int) ≠ box → ∀ k : Nat, k < n.Boxes.length → adj n w j k → 0 ≤ f k ∧ f k ≤ f j + 1
 part : ∀ k : Nat, k < v → adj n w box k → 0 ≤ f k
theorem Outer.inner {n : LabNet} {b w : Int} {f : Nat → Int} {box : Int} {q : List Int} (h : Outer n b w f (box :: q)) : Inner n b w f q box (f box.toNat) 0 where
 bi := h.bi
 r0 := (h.qr box List.mem_cons_self).1
 r1 := (h.qr box List.mem_cons_self).2.1
 fb := rfl
 d0 := (h.qr box List.mem_cons_self).2.2
 qr := fun x hx => h.qr x (List.mem_cons_of_mem _ hx)
 srt := (List.pairwise_cons.1 h.srt).2
 qd := (List.pairwise_cons.1 h.srt).1
 top := h.top box rfl
 fr := fun j hj h0 hq hb => h.fr j hj h0 fun hm => by
  rcases List.mem_cons.1 hm with e | hm
  ·exact hb e
  ·exact hq hm
 part := fun k hk => by omega
theorem Inner.outer {n : LabNet} {b w : Int} {f : Nat → Int} {box d : Int} {q : List Int} (h : Inner n b w f q box d n.Boxes.length) : Outer n b w f q where
 bi := h.bi
 qr := h.qr
 srt := h.srt
 top := fun x hx k hk => by
  have := h.qd x (List.mem_of_mem_head? hx)
  have := h.top k hk
  omega
 fr := fun j hj h0 hq k hk ha => by
  by_cases e : (j : Int) = box
  ·rw [e] at ha
   refine ⟨h.part k hk ha, ?_⟩
   have h1 := h.top k hk
   have h2 := h.fb
   rw [← e, nn] at h2
   omega
  ·exact h.fr j hj h0 hq e k hk ha
theorem Inner.skip {n : LabNet} {b w : Int} {f : Nat → Int} {box d : Int} {q : List Int} {v : Nat} (h : Inner n b w f q box d v) (hv : 0 ≤ f v ∨ ¬ adj n w box v) : Inner n b w f q box d (v + 1) :=
 ⟨h.bi, h.r0, h.r1, h.fb, h.d0, h.qr, h.srt, h.qd, h.top, h.fr, fun k hk ha => by
  rcases Nat.lt_succ_iff_lt_or_eq.1 hk with hk | rfl
  ·exact h.part k hk ha
  ·rcases hv with hv | hv
   ·exact hv
   ·exact absurd ha hv⟩
theorem Inner.push {n : LabNet} {b w : Int} {f g : Nat → Int} {box d : Int} {q : List Int} {v : Nat} (h : Inner n b w f q box d v) (hvl : v < n.Boxes.length) (hn : f v < 0) (ha : adj n w box v) (hg : g v = d + 1) (hgn : ∀ k, k ≠ v → g k = f k) : Inner n b w g (q ++ [(v : Int)]) box d (v + 1) := by
 have hd := h.d0
 have hvis : ∀ k, 0 ≤ f k → g k = f k := fun k hk => hgn k fun e => by rw [e] at hk; omega
 have hbv : Int.toNat box ≠ v := fun e => by have := h.fb; rw [e] at this; omega
 have hqv : ∀ x ∈ q, g x.toNat = f x.toNat := fun x hx => hvis _ (h.qr x hx).2.2
 refine ⟨⟨?_, fun k hk => ?_, fun k hk h0 => ?_, fun k hk h0 => ?_⟩, h.r0, h.r1, ?_, hd, fun x hx => ?_, ?_, fun x hx => ?_, fun k hk => ?_, fun j hj h0 hq hb k hk hadj => ?_, fun k hk hadj => ?_⟩
 ·rw [hvis _ (by rw [h.bi.b0]; omega)]; exact h.bi.b0
 ·by_cases e : k = v
  ·rw [e, hg]; omega
  ·rw [hgn k e]; exact h.bi.low k hk
 ·by_cases e : k = v
  ·subst e
   refine ⟨Int.toNat box, by have := h.r0; have := h.r1; omega, by have := h.r0; rw [Int.toNat_of_nonneg this]; exact ha, ?_⟩
   rw [hgn _ hbv, h.fb, hg]; omega
  ·rw [hgn k e] at h0 ⊢
   obtain ⟨j, h1, h2, h3⟩ := h.bi.pred k hk h0
   exact ⟨j, h1, h2, by rw [hvis j (by omega)]; exact h3⟩
 ·by_cases e : k = v
  ·rw [e, hg] at h0; omega
  ·rw [hgn k e] at h0; exact h.bi.zero k hk h0
 ·rw [hgn _ hbv]; exact h.fb
 ·rcases List.mem_append.1 hx with hx | hx
  ·rw [hqv x hx]; exact h.qr x hx
  ·rw [List.mem_singleton.1 hx, nn, hg]; omega
 ·refine List.pairwise_append.2 ⟨?_, by simp, fun x hx y hy => ?_⟩
  ·exact h.srt.imp_of_mem fun {x y} hx hy hxy => by rw [hqv x hx, hqv y hy]; exact hxy
  ·rw [List.mem_singleton.1 hy, nn, hg, hqv x hx]
   have := h.qr x hx
   exact h.top _ (by omega)
 ·rcases List.mem_append.1 hx with hx | hx
  ·rw [hqv x hx]; exact h.qd x hx
  ·rw [List.mem_singleton.1 hx, nn, hg]; omega
 ·by_cases e : k = v
  ·rw [e, hg]; omega
  ·rw [hgn k e]; exact h.top k hk
 ·have hjv : j ≠ v := fun e => hq (List.mem_append_right _ (by rw [e]; exact List.mem_singleton_self _))
  rw [hgn j hjv] at h0 ⊢
  have := h.fr j hj h0 (fun hm => hq (List.mem_append_left _ hm)) hb k hk hadj
  rw [hvis k this.1]; exact this
 ·by_cases e : k = v
  ·rw [e, hg]; omega
  ·rw [hgn k e]
   exact h.part k (by omega) hadj
theorem Outer.init {n : LabNet} {b w : Int} (h0 : 0 ≤ b) (h1 : b < (n.Boxes.length : Int)) (f : Nat → Int) (hb : f b.toNat = 0) (hn : ∀ k, k < n.Boxes.length → k ≠ Int.toNat b → f k = -1) : Outer n b w f [b] := by
 have hall : ∀ k, k < n.Boxes.length → f k ≤ 0 ∧ -1 ≤ f k := fun k hk => by
  by_cases e : k = Int.toNat b
  ·rw [e, hb]; omega
  ·rw [hn k hk e]; omega
 refine ⟨⟨hb, fun k hk => (hall k hk).2, fun k hk h => by have := (hall k hk).1; omega, fun k hk h => ?_⟩, fun x hx => ?_, by simp, fun x hx k hk => ?_, fun j hj h hq => ?_⟩
 ·by_cases e : k = Int.toNat b
  ·omega
  ·rw [hn k hk e] at h; omega
 ·rw [List.mem_singleton.1 hx, hb]; omega
 ·simp only [List.head?_cons, Option.some.injEq] at hx
  subst hx
  rw [hb]
  have := (hall k hk).1; omega
 ·exfalso
  by_cases e : j = Int.toNat b
  ·exact hq (by rw [e, Int.toNat_of_nonneg h0]; exact List.mem_singleton_self _)
  ·rw [hn j hj e] at h; omega
theorem Outer.dist {n : LabNet} {b w : Int} {xs : List Int} (hl : xs.length = n.Boxes.length) (h : Outer n b w (fun k => xs.getD k default) []) : IsDist n b w xs :=
 ⟨hl, h.bi.b0, h.bi.low, h.bi.pred, h.bi.zero, fun j k hj hk ha h0 => h.fr j hj h0 (by simp) k hk ha⟩
theorem implFar_fill (n : LabNet) (b w : Int) : F83_j0 n b w = .done (List.replicate n.Boxes.length (-1)) := by
 unfold F83_j0
 have h := runL_rule (step := F83_s0 n b w) (fun (k : Nat) (s : List Int) => ((k : Int), s)) n.Boxes.length (fun k s => s.length = n.Boxes.length ∧ FillI s k) (fun _ => False)
  (fun k s hk ⟨h1, h2⟩ => .inl ⟨s.set k (-1), by simp only [F83_s0, nn, List.length_replicate, ltD hk, cond_true]; rfl, by simp [h1], by have := h2.next (by omega) (by omega); rwa [nn] at this⟩)
  (fun s _ => by simp [F83_s0]) n.Boxes.length 0 (List.replicate n.Boxes.length 0) (by omega) ⟨by simp, FillI.zero _⟩ (n.Boxes.length + 1) (Nat.lt_succ_self _)
 rcases h with ⟨s, h, h1, h2⟩ | ⟨_, _, h⟩
 ·have h : runL (F83_s0 n b w) (n.Boxes.length + 1) (0, List.replicate n.Boxes.length 0) = .done ((n.Boxes.length : Int), s) := h
  simp only [nn, List.length_replicate, n0, h, Lp.fin]
  rw [h2.done h1 (by omega)]
 ·exact h.elim
theorem implFar_round {n : LabNet} (h8 : n.Boxes.length ≤ 8) (b w : Int) (f0 : List Int) (box : Int) (q xs : List Int) (hF : FI n.Boxes.length xs (box :: q)) (hO : Outer n b w (fun k => xs.getD k default) (box :: q)) :
  ∃ q' xs', runL (F83_s2 n b w f0 (box :: q) xs) (((xs.length : Int) - 0).toNat + 1) (((box :: q).drop (Int.toNat 1)), 0, xs) = .done (q', (n.Boxes.length : Int), xs') ∧ FI n.Boxes.length xs' q' ∧ Outer n b w (fun k => xs'.getD k default) q' ∧ q'.length + negs xs' + 1 = (box :: q).length + negs xs := by
 have hln := hF.ln
 have hbox := hF.q box List.mem_cons_self
 have h := runL_rule (step := F83_s2 n b w f0 (box :: q) xs) (fun (k : Nat) (s : List Int × List Int) => (s.1, (k : Int), s.2)) n.Boxes.length
  (fun k s => FI n.Boxes.length s.2 s.1 ∧ Inner n b w (fun k => s.2.getD k default) s.1 box (xs.getD box.toNat default) k ∧ s.1.length + negs s.2 + 1 = (box :: q).length + negs xs) (fun _ => False)
  (fun k s hk ⟨g1, g2, g3⟩ => by
   obtain ⟨q1, ys⟩ := s
   simp only at g1 g2 g3
   have hv := g1.val h8 g2.r0 g2.r1
   have hfb := g2.fb
   by_cases hc : ys.getD k default < 0
   ·by_cases ha : adj n w box k
    ·have hp := g1.next h8 g2.r0 g2.r1 (by have := g2.d0; omega) (v := (k : Int)) (by omega) (by omega) (by rw [nn]; exact hc)
     refine .inl ⟨(q1 ++ [(k : Int)], ys.set k (IntKind.i64.wrap (ys.getD box.toNat default + 1))), ?_, by simpa only [nn] using hp.1, ?_, ?_⟩
     ·have ha' : decide (0 ≤ linkOf n box (k : Int) ∧ linkOf n box (k : Int) ≠ w) = true := decide_eq_true ha
      simp only [F83_s2, hln, ltD hk, cond_true, nn, decide_eq_true hc, List.getD_cons_zero, show Int.toNat 0 = 0 from rfl, ha']
      rfl
     ·refine g2.push hk hc ha ?_ fun j hj => getD_set_ne _ _ _ _ hj
      simp only
      rw [getD_set_eq _ _ _ (by rw [g1.ln]; exact hk), hv, hfb]
     ·have := hp.2.1
      simp only [nn] at this
      simp only [List.length_append, List.length_singleton]
      omega
    ·have ha' : decide (0 ≤ linkOf n box (k : Int) ∧ linkOf n box (k : Int) ≠ w) = false := decide_eq_false ha
     refine .inl ⟨(q1, ys), ?_, g1, g2.skip (.inr ha), g3⟩
     simp only [F83_s2, hln, ltD hk, cond_true, nn, decide_eq_true hc, List.getD_cons_zero, show Int.toNat 0 = 0 from rfl, ha', cond_false]
     rfl
   ·refine .inl ⟨(q1, ys), ?_, g1, g2.skip (.inl (by show 0 ≤ ys.getD k default; omega)), g3⟩
    simp only [F83_s2, hln, ltD hk, cond_true, nn, decide_eq_false hc, cond_false]
    rfl)
  (fun s _ => by simp [F83_s2, hln]) n.Boxes.length 0 (q, xs) (by omega) ⟨⟨hF.ln, fun x hx => hF.q x (List.mem_cons_of_mem _ hx), hF.up⟩, hO.inner, by simp only [List.length_cons]; omega⟩ (n.Boxes.length + 1) (Nat.lt_succ_self _)
 rcases h with ⟨⟨q', xs'⟩, h, h1, h2, h3⟩ | ⟨_, _, h⟩
 ·refine ⟨q', xs', ?_, h1, h2.outer, h3⟩
  rw [n0, hln]
  exact h
 ·exact h.elim
theorem implFar_dist {n : LabNet} (h8 : n.Boxes.length ≤ 8) {b : Int} (h0 : 0 ≤ b) (h1 : b < (n.Boxes.length : Int)) (w : Int) : IsDist n b w (F83 n b w) := by
 unfold F83
 rw [implFar_fill]
 simp only [Lp.fin]
 obtain ⟨hF, hN⟩ := FI.init h0 h1
 have hl : Int.toNat b < (List.replicate n.Boxes.length (-1 : Int)).length := by simp; omega
 have hO : Outer n b w (fun k => ((List.replicate n.Boxes.length (-1)).set b.toNat 0).getD k default) [b] := Outer.init h0 h1 _ (getD_set_eq _ _ _ hl) fun k hk e => by
  show ((List.replicate n.Boxes.length (-1)).set b.toNat 0).getD k default = -1
  rw [getD_set_ne _ _ _ _ e, rep_get _ _ hk]
 generalize hX : (List.replicate n.Boxes.length (-1 : Int)).set b.toNat 0 = X at hF hN hO
 obtain ⟨⟨q', xs'⟩, h, ⟨g1, g2⟩, g3⟩ := runL_meas (step := F83_s1 n b w (List.replicate n.Boxes.length (-1))) (fun s => FI n.Boxes.length s.2 s.1 ∧ Outer n b w (fun k => s.2.getD k default) s.1) (fun s => s.1.length + negs s.2) (fun s => s.1 = [])
  (fun s ⟨g1, g2⟩ => by
   obtain ⟨q, xs⟩ := s
   cases q with
   | nil => exact .inl ⟨by simp [F83_s1], rfl⟩
   | cons box q =>
    obtain ⟨q', xs', e, k1, k2, k3⟩ := implFar_round h8 b w (List.replicate n.Boxes.length (-1)) box q xs g1 g2
    refine .inr ⟨(q', xs'), ?_, ⟨k1, k2⟩, by show q'.length + negs xs' < (box :: q).length + negs xs; omega⟩
    have hc : decide (((box :: q).length : Int) > 0) = true := decide_eq_true (by simp only [List.length_cons]; omega)
    simp only [F83_s1, hc, cond_true, e, Lp.fin]) ([b].length + negs X + 1) ([b], X) ⟨hF, hO⟩ (Nat.lt_succ_self _)
 rw [h]
 simp only at g1 g2 g3 ⊢
 subst g3
 exact Outer.dist g1.ln g2
end Go.Proofs.YtmiolofjlfnohaaGreat
namespace Go.Proofs.YtmiolofjlfnohaaGreat
open Go.RowKit
set_option maxRecDepth 100000
set_option linter.unusedVariables false
set_option linter.unusedSimpArgs false
theorem countP_two {α : Type} (p q r : α → Bool) (hp : ∀ x, p x = true → r x = true ∧ q x = false) (hq : ∀ x, q x = true → r x = true) : ∀ l : List α, l.countP p + l.countP q ≤ l.countP r
 | [] => by simp
 | x :: l => by
  have ih := countP_two p q r hp hq l
  simp only [List.countP_cons]
  cases h1 : p x <;> cases h2 : q x <;> cases h3 : r x <;> simp_all <;> omega
theorem chain_le (len : Nat) (f : Nat → Int) (hpred : ∀ k, k < len → 0 < f k → ∃ j, j < len ∧ f j = f k - 1) : ∀ (d : Nat) (k : Nat), k < len → f k = (d : Int) → d + 1 ≤ (List.range len).countP (fun k => decide (0 ≤ f k) && decide (f k < (d : Int) + 1))
 | 0, k, hk, e => by
  have : 0 < (List.range len).countP (fun k => decide (0 ≤ f k) && decide (f k < ((0 : Nat) : Int) + 1)) := List.countP_pos_iff.2 ⟨k, List.mem_range.2 hk, by simp [e]⟩
  omega
 | d + 1, k, hk, e => by
  obtain ⟨j, hj, ej⟩ := hpred k hk (by omega)
  have ih := chain_le len f hpred d j hj (by omega)
  have h1 : 0 < (List.range len).countP (fun k => decide (f k = (d : Int) + 1)) := List.countP_pos_iff.2 ⟨k, List.mem_range.2 hk, by simp [e]⟩
  have h2 := countP_two (fun k => decide (0 ≤ f k) && decide (f k < (d : Int) + 1)) (fun k => decide (f k = (d : Int) + 1)) (fun k => decide (0 ≤ f k) && decide (f k < ((d + 1 : Nat) : Int) + 1))
   (fun x hx => by
    simp only [Bool.and_eq_true, decide_eq_true_eq, decide_eq_false_iff_not] at hx ⊢
    omega) (fun x hx => by
    simp only [Bool.and_eq_true, decide_eq_true_eq] at hx ⊢
    omega) (List.range len)
  omega
theorem BI.lt {n : LabNet} {b w : Int} {f : Nat → Int} (h : BI n b w f) {k : Nat} (hk : k < n.Boxes.length) : f k < (n.Boxes.length : Int) := by
 rcases Int.lt_or_le (f k) 0 with h0 | h0
 ·omega
 ·have h1 := chain_le n.Boxes.length f (fun k hk h0 => by
   obtain ⟨j, h1, _, h2⟩ := h.pred k hk h0
   exact ⟨j, h1, h2⟩) (Int.toNat (f k)) k hk (by omega)
  have h2 := List.countP_le_length (p := fun k' => decide (0 ≤ f k') && decide (f k' < ((Int.toNat (f k) : Nat) : Int) + 1)) (l := List.range n.Boxes.length)
  rw [List.length_range] at h2
  omega
structure Rd (n : LabNet) (b w : Int) (f : Nat → Int) (d : Int) : Prop where
 bi : BI n b w f
 d0 : 0 ≤ d
 top : ∀ k, k < n.Boxes.length → f k ≤ d
 fr : ∀ j : Nat, j < n.Boxes.length → 0 ≤ f j → f j < d → ∀ k : Nat, k < n.Boxes.length → adj n w j k → 0 ≤ f k ∧ f k ≤ f j + 1
structure Ri (n : LabNet) (b w : Int) (f : Nat → Int) (d : Int) (i : Nat) : Prop where
 bi : BI n b w f
 d0 : 0 ≤ d
 top : ∀ k, k < n.Boxes.length → f k ≤ d + 1
 fr : ∀ j : Nat, j < n.Boxes.length → 0 ≤ f j → f j < d → ∀ k : Nat, k < n.Boxes.length → adj n w j k → 0 ≤ f k ∧ f k ≤ f j + 1
 part : ∀ m : Nat, m < i → (m : Int) ≠ w → (f (Int.toNat (n.Links.getD m default).A) = d → 0 ≤ f (Int.toNat (n.Links.getD m default).B)) ∧ (f (Int.toNat (n.Links.getD m default).B) = d → 0 ≤ f (Int.toNat (n.Links.getD m default).A))
theorem Rd.start {n : LabNet} {b w : Int} {f : Nat → Int} {d : Int} (h : Rd n b w f d) : Ri n b w f d 0 :=
 ⟨h.bi, h.d0, fun k hk => by have := h.top k hk; omega, h.fr, fun m hm => by omega⟩
theorem Ri.done {n : LabNet} (hf : FrameOk n) {b w : Int} {f : Nat → Int} {d : Int} (h : Ri n b w f d n.Links.length) : Rd n b w f (d + 1) :=
 ⟨h.bi, by have := h.d0; omega, h.top, fun j hj h0 hd k hk ha => by
  rcases Int.lt_or_le (f j) d with hlt | hge
  ·exact h.fr j hj h0 hlt k hk ha
  ·have ej : f j = d := by omega
   obtain ⟨m1, m2⟩ := linkOf_some ha.1
   have hw : ((linkOf n j k).toNat : Int) ≠ w := fun e => ha.2 (by rw [← e]; have := ha.1; omega)
   have hp := h.part _ m1 hw
   have hab := hf.ab _ m1
   simp only [isLink, Bool.or_eq_true, Bool.and_eq_true, decide_eq_true_eq] at m2
   generalize n.Links.getD (linkOf n j k).toNat default = l at *
   have ht := h.top k hk
   refine ⟨?_, by omega⟩
   rcases m2 with ⟨e1, e2⟩ | ⟨e1, e2⟩
   ·rw [e1, e2, nn, nn] at hp
    exact hp.1 ej
   ·rw [e1, e2, nn, nn] at hp
    exact hp.2 ej⟩
theorem Ri.set {n : LabNet} {b w : Int} {f g : Nat → Int} {d : Int} {i j v : Nat} (h : Ri n b w f d i) (hj : j < n.Boxes.length) (hv : v < n.Boxes.length) (hfj : f j = d) (hfv : f v < 0) (ha : adj n w j v) (hg : g v = d + 1) (hgn : ∀ k, k ≠ v → g k = f k) : Ri n b w g d i := by
 have hd := h.d0
 have hvis : ∀ k, 0 ≤ f k → g k = f k := fun k hk => hgn k fun e => by rw [e] at hk; omega
 have hdiff : ∀ k, g k = d → f k = d := fun k hk => by
  by_cases e : k = v
  ·rw [e, hg] at hk; omega
  ·rw [hgn k e] at hk; exact hk
 have hge : ∀ k, 0 ≤ f k → 0 ≤ g k := fun k hk => by rw [hvis k hk]; exact hk
 refine ⟨⟨?_, fun k hk => ?_, fun k hk h0 => ?_, fun k hk h0 => ?_⟩, hd, fun k hk => ?_, fun j' hj' h0 hlt k hk hadj => ?_, fun m hm hw => ⟨fun e => hge _ ((h.part m hm hw).1 (hdiff _ e)), fun e => hge _ ((h.part m hm hw).2 (hdiff _ e))⟩⟩
 ·rw [hvis _ (by rw [h.bi.b0]; omega)]; exact h.bi.b0
 ·by_cases e : k = v
  ·rw [e, hg]; omega
  ·rw [hgn k e]; exact h.bi.low k hk
 ·by_cases e : k = v
  ·subst e
   exact ⟨j, hj, ha, by rw [hvis j (by omega), hg]; omega⟩
  ·rw [hgn k e] at h0 ⊢
   obtain ⟨j2, h1, h2, h3⟩ := h.bi.pred k hk h0
   exact ⟨j2, h1, h2, by rw [hvis j2 (by omega)]; exact h3⟩
 ·by_cases e : k = v
  ·rw [e, hg] at h0; omega
  ·rw [hgn k e] at h0; exact h.bi.zero k hk h0
 ·by_cases e : k = v
  ·rw [e, hg]; omega
  ·rw [hgn k e]; exact h.top k hk
 ·have hjv : j' ≠ v := fun e => by rw [e, hg] at hlt; omega
  rw [hgn j' hjv] at h0 hlt ⊢
  have := h.fr j' hj' h0 hlt k hk hadj
  rw [hvis k this.1]; exact this
theorem Ri.next {n : LabNet} {b w : Int} {f : Nat → Int} {d : Int} {i : Nat} (h : Ri n b w f d i) (hp : (i : Int) ≠ w → (f (Int.toNat (n.Links.getD i default).A) = d → 0 ≤ f (Int.toNat (n.Links.getD i default).B)) ∧ (f (Int.toNat (n.Links.getD i default).B) = d → 0 ≤ f (Int.toNat (n.Links.getD i default).A))) : Ri n b w f d (i + 1) :=
 ⟨h.bi, h.d0, h.top, h.fr, fun m hm hw => by
  rcases Nat.lt_succ_iff_lt_or_eq.1 hm with hm | rfl
  ·exact h.part m hm hw
  ·exact hp hw⟩
theorem Rd.dist {n : LabNet} {b w : Int} {xs : List Int} (hl : xs.length = n.Boxes.length) (h : Rd n b w (fun k => xs.getD k default) n.Boxes.length) : IsDist n b w xs :=
 ⟨hl, h.bi.b0, h.bi.low, h.bi.pred, h.bi.zero, fun j k hj hk ha h0 => h.fr j hj h0 (h.bi.lt hj) k hk ha⟩
theorem specFar_fill (n : LabNet) (b w : Int) : F54_j0 n b w = .done (List.replicate n.Boxes.length (-1)) := by
 unfold F54_j0
 have h := runL_rule (step := F54_s0 n b w) (fun (k : Nat) (s : List Int) => ((k : Int), s)) n.Boxes.length (fun k s => s.length = n.Boxes.length ∧ FillI s k) (fun _ => False)
  (fun k s hk ⟨h1, h2⟩ => .inl ⟨s.set k (-1), by simp only [F54_s0, nn, h1, ltD hk, cond_true]; rfl, by simp [h1], by have := h2.next (by omega) (by omega); rwa [nn] at this⟩)
  (fun s ⟨h1, _⟩ => by simp [F54_s0, h1]) n.Boxes.length 0 (List.replicate n.Boxes.length 0) (by omega) ⟨by simp, FillI.zero _⟩ (n.Boxes.length + 1) (Nat.lt_succ_self _)
 rcases h with ⟨s, h, h1, h2⟩ | ⟨_, _, h⟩
 ·have h : runL (F54_s0 n b w) (n.Boxes.length + 1) (0, List.replicate n.Boxes.length 0) = .done ((n.Boxes.length : Int), s) := h
  simp only [nn, List.length_replicate, n0, h, Lp.fin]
  rw [h2.done h1 (by omega)]
 ·exact h.elim
theorem Ri.half {n : LabNet} {b w : Int} {xs : List Int} {d : Int} {i : Nat} (hl : xs.length = n.Boxes.length) (h : Ri n b w (fun k => xs.getD k default) d i) {x y : Int} (hx0 : 0 ≤ x) (hx : x < (n.Boxes.length : Int)) (hy0 : 0 ≤ y) (hy : y < (n.Boxes.length : Int)) (ha : adj n w x y) :
  ∃ ys, (bif (bif ((xs.getD x.toNat default) == d) then decide ((xs.getD y.toNat default) < 0) else false) then (xs.set y.toNat (d + 1)) else xs) = ys ∧ ys.length = n.Boxes.length ∧ Ri n b w (fun k => ys.getD k default) d i ∧ (ys.getD x.toNat default = d → 0 ≤ ys.getD y.toNat default) ∧ (∀ k, 0 ≤ xs.getD k default → ys.getD k default = xs.getD k default) := by
 by_cases h1 : xs.getD x.toNat default = d
 ·by_cases h2 : xs.getD y.toNat default < 0
  ·refine ⟨xs.set y.toNat (d + 1), by rw [h1]; simp only [beq_self_eq_true, cond_true, decide_eq_true h2], by simp [hl], ?_, fun _ => ?_, fun k hk => getD_set_ne _ _ _ _ fun e => by rw [e] at hk; omega⟩
   ·refine h.set (j := Int.toNat x) (v := Int.toNat y) (by omega) (by omega) h1 h2 (by rw [Int.toNat_of_nonneg hx0, Int.toNat_of_nonneg hy0]; exact ha) (getD_set_eq _ _ _ (by omega)) fun k hk => getD_set_ne _ _ _ _ hk
   ·rw [getD_set_eq _ _ _ (by omega)]
    have := h.d0; omega
  ·exact ⟨xs, by rw [h1]; simp only [beq_self_eq_true, cond_true, decide_eq_false h2, cond_false], hl, h, fun _ => by omega, fun _ _ => rfl⟩
 ·refine ⟨xs, ?_, hl, h, fun e => absurd e h1, fun _ _ => rfl⟩
  have : (xs.getD x.toNat default == d) = false := by rw [beqD]; exact decide_eq_false h1
  rw [this]; rfl
theorem specFar_round {n : LabNet} (hf : FrameOk n) (b w : Int) (f0 : List Int) (d : Int) (xs : List Int) (hl : xs.length = n.Boxes.length) (h : Rd n b w (fun k => xs.getD k default) d) :
  ∃ ys, runL (F54_s2 n b w f0 d xs) (((n.Links.length : Int) - 0).toNat + 1) (0, xs) = .done ((n.Links.length : Int), ys) ∧ ys.length = n.Boxes.length ∧ Rd n b w (fun k => ys.getD k default) (d + 1) := by
 have hh := runL_rule (step := F54_s2 n b w f0 d xs) (fun (k : Nat) (s : List Int) => ((k : Int), s)) n.Links.length
  (fun k s => s.length = n.Boxes.length ∧ Ri n b w (fun k => s.getD k default) d k) (fun _ => False)
  (fun k s hk ⟨g1, g2⟩ => by
   have hab := hf.ab k hk
   by_cases hw : (k : Int) = w
   ·refine .inl ⟨s, ?_, g1, g2.next fun e => absurd hw e⟩
    have : ((k : Int) == w) = true := by simp [hw]
    simp only [F54_s2, ltD hk, cond_true, this]
    rfl
   ·have hlk : ∀ x y : Int, isLink n x y k = true → adj n w x y := fun x y hi => by
     have e := linkOf_of hf hk hi
     exact ⟨by rw [e]; omega, by rw [e]; exact hw⟩
    have hA : adj n w (n.Links.getD k default).A (n.Links.getD k default).B := hlk _ _ (by simp [isLink])
    obtain ⟨ys, e1, l1, i1, p1, k1⟩ := g2.half g1 (by omega) (by omega) (by omega) (by omega) hA
    obtain ⟨zs, e2, l2, i2, p2, k2⟩ := i1.half l1 (by omega) (by omega) (by omega) (by omega) (adj_comm hA)
    have hj9 : F54_j9 n b w f0 d xs (k : Int) s = .done ys := by
     rw [← e1]
     simp only [F54_j9, nn]
     cases (bif (s.getD (Int.toNat (n.Links.getD k default).A) default == d) then decide (s.getD (Int.toNat (n.Links.getD k default).B) default < 0) else false) <;> rfl
    refine .inl ⟨zs, ?_, l2, i2.next fun _ => ⟨fun e => ?_, fun e => p2 e⟩⟩
    ·have : ((k : Int) == w) = false := by simp [hw]
     simp only [F54_s2, ltD hk, cond_true, this, cond_false, hj9, Lp.fin, nn]
     rw [← e2]
     cases (bif (ys.getD (Int.toNat (n.Links.getD k default).B) default == d) then decide (ys.getD (Int.toNat (n.Links.getD k default).A) default < 0) else false) <;> rfl
    ·
     have hA' : ys.getD (Int.toNat (n.Links.getD k default).A) default = d := by
      by_cases hneg : ys.getD (Int.toNat (n.Links.getD k default).A) default < 0
      ·exfalso
       have h3 : zs.getD (Int.toNat (n.Links.getD k default).A) default = d := e
       have h4 := e2
       by_cases hB : ys.getD (Int.toNat (n.Links.getD k default).B) default = d
       ·simp only [hB, beq_self_eq_true, cond_true, decide_eq_true hneg] at h4
        rw [← h4, getD_set_eq _ _ _ (by omega)] at h3
        omega
       ·have : (ys.getD (Int.toNat (n.Links.getD k default).B) default == d) = false := by rw [beqD]; exact decide_eq_false hB
        rw [this] at h4
        simp only [cond_false] at h4
        rw [← h4] at h3
        have := g2.d0
        omega
      ·rw [← k2 _ (by omega)]; exact e
     have := p1 hA'
     show 0 ≤ zs.getD _ default
     rw [k2 _ this]; exact this)
  (fun s _ => by simp [F54_s2]) n.Links.length 0 xs (by omega) ⟨hl, h.start⟩ (n.Links.length + 1) (Nat.lt_succ_self _)
 rcases hh with ⟨ys, hh, h1, h2⟩ | ⟨_, _, hh⟩
 ·refine ⟨ys, ?_, h1, h2.done hf⟩
  rw [n0]; exact hh
 ·exact hh.elim
theorem specFar_dist {n : LabNet} (hf : FrameOk n) {b : Int} (h0 : 0 ≤ b) (h1 : b < (n.Boxes.length : Int)) (w : Int) : IsDist n b w (F54 n b w) := by
 unfold F54
 rw [specFar_fill]
 simp only [Lp.fin]
 have hl : Int.toNat b < (List.replicate n.Boxes.length (-1 : Int)).length := by simp; omega
 have hO : Outer n b w (fun k => ((List.replicate n.Boxes.length (-1)).set b.toNat 0).getD k default) [b] := Outer.init h0 h1 _ (getD_set_eq _ _ _ hl) fun k hk e => by
  show ((List.replicate n.Boxes.length (-1)).set b.toNat 0).getD k default = -1
  rw [getD_set_ne _ _ _ _ e, rep_get _ _ hk]
 have hX : ((List.replicate n.Boxes.length (-1)).set b.toNat 0).length = n.Boxes.length := by simp
 have hall : ∀ k, k < n.Boxes.length → ((List.replicate n.Boxes.length (-1)).set b.toNat 0).getD k default ≤ 0 := fun k hk => by
  by_cases e : k = Int.toNat b
  ·rw [e, getD_set_eq _ _ _ hl]; omega
  ·rw [getD_set_ne _ _ _ _ e, rep_get _ _ hk]; omega
 generalize (List.replicate n.Boxes.length (-1 : Int)).set b.toNat 0 = X at hO hX hall
 have hR : Rd n b w (fun k => X.getD k default) 0 := ⟨hO.bi, by omega, hall, fun j hj h1 h2 => by omega⟩
 have hh := runL_rule (step := F54_s1 n b w (List.replicate n.Boxes.length (-1))) (fun (k : Nat) (s : List Int) => ((k : Int), s)) n.Boxes.length
  (fun k s => s.length = n.Boxes.length ∧ Rd n b w (fun j => s.getD j default) k) (fun _ => False)
  (fun k s hk ⟨g1, g2⟩ => by
   obtain ⟨ys, e, l1, r1⟩ := specFar_round hf b w (List.replicate n.Boxes.length (-1)) k s g1 g2
   refine .inl ⟨ys, ?_, l1, r1⟩
   simp only [F54_s1, g1, ltD hk, cond_true, e, Lp.fin]
   rfl)
  (fun s ⟨g1, _⟩ => by simp [F54_s1, g1]) n.Boxes.length 0 X (by omega) ⟨hX, hR⟩ (n.Boxes.length + 1) (Nat.lt_succ_self _)
 rcases hh with ⟨ys, hh, g1, g2⟩ | ⟨_, _, hh⟩
 ·have hh : runL (F54_s1 n b w (List.replicate n.Boxes.length (-1))) (n.Boxes.length + 1) (0, X) = .done ((n.Boxes.length : Int), ys) := hh
  rw [hX, n0, hh]
  exact Rd.dist g1 g2
 ·exact hh.elim
theorem far_eq {n : LabNet} (hf : FrameOk n) {b : Int} (h0 : 0 ≤ b) (h1 : b < (n.Boxes.length : Int)) (w : Int) : F83 n b w = F54 n b w :=
 (implFar_dist hf.b8 h0 h1 w).unique (specFar_dist hf h0 h1 w)
theorem IsDist.lt {n : LabNet} {b w : Int} {f : List Int} (h : IsDist n b w f) {k : Int} (h0 : 0 ≤ k) (hk : k < (n.Boxes.length : Int)) : -1 ≤ f.getD k.toNat default ∧ f.getD k.toNat default < (n.Boxes.length : Int) :=
 ⟨h.low _ (by omega), BI.lt (f := fun k => f.getD k default) ⟨h.b0, h.low, h.pred, h.zero⟩ (by omega)⟩
theorem IsDist.pos {n : LabNet} {b w : Int} {f : List Int} (h : IsDist n b w f) {k : Int} (h0 : 0 ≤ k) (hk : k < (n.Boxes.length : Int)) (hb : ¬ k = b) (hd : 0 ≤ f.getD k.toNat default) : 0 < f.getD k.toNat default := by
 rcases Int.lt_or_le 0 (f.getD k.toNat default) with h1 | h1
 ·exact h1
 ·have := h.zero k.toNat (by omega) (by omega); omega
theorem IsDist.wr {n : LabNet} {b w : Int} {f : List Int} (h : IsDist n b w f) (h8 : n.Boxes.length ≤ 8) {k : Int} (h0 : 0 ≤ k) (hk : k < (n.Boxes.length : Int)) : IntKind.i64.wrap (f.getD k.toNat default - 1) = f.getD k.toNat default - 1 := by
 have := h.lt h0 hk
 exact wrap_of (by omega) (by omega)
def nextB (n : LabNet) (f : List Int) (w a v : Int) : Bool := bif decide (0 ≤ linkOf n a v ∧ linkOf n a v ≠ w) then (f.getD v.toNat default == IntKind.i64.wrap (f.getD a.toNat default - 1)) else false
def nextOf (n : LabNet) (f : List Int) (a w : Int) : Int := oix (first (fun k => nextB n f w a (k : Int)) f.length)
def NoNext (n : LabNet) (f : List Int) (w a v : Int) : Prop := ∀ k : Nat, (k : Int) < v → nextB n f w a (k : Int) = false
theorem NoNext.zero {n : LabNet} {f : List Int} {w a : Int} : NoNext n f w a 0 := fun k hk => by omega
theorem NoNext.next {n : LabNet} {f : List Int} {w a v : Int} (h : NoNext n f w a v) (h0 : 0 ≤ v) (hc : nextB n f w a v = false) : NoNext n f w a (v + 1) := fun k hk => by
 by_cases e : (k : Int) = v
 ·rw [e]; exact hc
 ·exact h k (by omega)
theorem IsDist.next {n : LabNet} {b w : Int} {f : List Int} (h : IsDist n b w f) (h8 : n.Boxes.length ≤ 8) {a : Int} (h0 : 0 ≤ a) (h1 : a < (n.Boxes.length : Int)) (hd : 0 < f.getD a.toNat default) : ∃ k : Nat, k < n.Boxes.length ∧ nextB n f w a (k : Int) = true := by
 obtain ⟨j, hj, ha, e⟩ := h.pred a.toNat (by omega) hd
 refine ⟨j, hj, ?_⟩
 have ha := adj_comm ha
 rw [Int.toNat_of_nonneg h0] at ha
 unfold nextB
 have ha2 : 0 ≤ linkOf n a j ∧ linkOf n a j ≠ w := ha
 rw [decide_eq_true ha2, cond_true, nn, h.wr h8 h0 h1, e]
 exact beq_self_eq_true _
theorem nextB_T {n : LabNet} {b w : Int} {f : List Int} (h : IsDist n b w f) (h8 : n.Boxes.length ≤ 8) {a v : Int} (h0 : 0 ≤ a) (h1 : a < (n.Boxes.length : Int)) (hc : nextB n f w a v = true) : f.getD v.toNat default = f.getD a.toNat default - 1 := by
 unfold nextB at hc
 rw [h.wr h8 h0 h1] at hc
 exact eq_of_beq (andT2 hc)
theorem nextB_U {n : LabNet} {b w : Int} {f : List Int} {a v : Int} (hc : (bif decide (0 ≤ linkOf n a v ∧ linkOf n a v ≠ w) then (f.getD v.toNat default == IntKind.i64.wrap (f.getD a.toNat default - 1)) else false) = true) (h : IsDist n b w f) (h8 : n.Boxes.length ≤ 8) (h0 : 0 ≤ a) (h1 : a < (n.Boxes.length : Int)) : f.getD v.toNat default = f.getD a.toNat default - 1 := nextB_T h h8 h0 h1 hc
theorem NoNext.nextU {n : LabNet} {f : List Int} {w a v : Int} (hc : (bif decide (0 ≤ linkOf n a v ∧ linkOf n a v ≠ w) then (f.getD v.toNat default == IntKind.i64.wrap (f.getD a.toNat default - 1)) else false) = false) (h : NoNext n f w a v) (h0 : 0 ≤ v) : NoNext n f w a (v + 1) := h.next h0 hc
theorem noNext_absurd {n : LabNet} {b w : Int} {f : List Int} (h : IsDist n b w f) (h8 : n.Boxes.length ≤ 8) {a v : Int} (h0 : 0 ≤ a) (h1 : a < (n.Boxes.length : Int)) (hd : 0 < f.getD a.toNat default) (hn : NoNext n f w a v) (hv : (n.Boxes.length : Int) ≤ v) : False := by
 obtain ⟨k, hk, e⟩ := h.next h8 h0 h1 hd
 rw [hn k (by omega)] at e
 cases e
theorem noNext_absurdU {n : LabNet} {b w : Int} {f : List Int} {a v : Int} (hn : NoNext n f w a v) (h : IsDist n b w f) (hb : ¬ a = b) (h8 : n.Boxes.length ≤ 8) (h0 : 0 ≤ a) (h1 : a < (n.Boxes.length : Int)) (hd : 0 ≤ f.getD a.toNat default) (hv : (n.Boxes.length : Int) ≤ v) : False :=
 noNext_absurd h h8 h0 h1 (h.pos h0 h1 hb hd) hn hv
theorem nextOf_ok {n : LabNet} {b w : Int} {f : List Int} (h : IsDist n b w f) (h8 : n.Boxes.length ≤ 8) {a : Int} (h0 : 0 ≤ a) (h1 : a < (n.Boxes.length : Int)) (hd : 0 < f.getD a.toNat default) : 0 ≤ nextOf n f a w ∧ nextOf n f a w < (n.Boxes.length : Int) ∧ f.getD (nextOf n f a w).toNat default = f.getD a.toNat default - 1 ∧ nextB n f w a (nextOf n f a w) = true ∧ ∀ k : Nat, (k : Int) < nextOf n f a w → nextB n f w a (k : Int) = false := by
 unfold nextOf
 cases e : first (fun k => nextB n f w a (k : Int)) f.length with
 | none =>
  obtain ⟨k, hk, e2⟩ := h.next h8 h0 h1 hd
  have := first_none.1 e k (by rw [h.ln]; exact hk)
  simp only [e2] at this
  cases this
 | some k =>
  obtain ⟨k1, k2, k3⟩ := first_some.1 e
  simp only [oix]
  exact ⟨by omega, by rw [← h.ln]; omega, nextB_T h h8 h0 h1 k2, k2, fun j hj => k3 j (by omega)⟩
theorem far_isDist (n : LabNet) (b w : Int) (hf : FrameOk n) (h0 : 0 ≤ b) (h1 : b < (n.Boxes.length : Int)) : IsDist n b w (F54 n b w) := specFar_dist hf h0 h1 w
theorem far_len (n : LabNet) (b w : Int) (hf : FrameOk n) (h0 : 0 ≤ b) (h1 : b < (n.Boxes.length : Int)) : (F54 n b w).length = n.Boxes.length := (specFar_dist hf h0 h1 w).ln
theorem as83 (n : LabNet) (b w : Int) (hf : FrameOk n) (h0 : 0 ≤ b) (h1 : b < (n.Boxes.length : Int)) : F83 n b w = F54 n b w := far_eq hf h0 h1 w
end Go.Proofs.YtmiolofjlfnohaaGreat
namespace Go.Proofs.YtmiolofjlfnohaaGreat
open Go.RowKit
set_option maxRecDepth 100000
set_option linter.unusedVariables false
set_option linter.unusedSimpArgs false
def T83 (R:List Int) (n:LabNet) (to':Int) (without:Int):Spec := ⟨(S83 R n to' without).args,(S83 R n to' without).res,FrameOk n∧0 ≤ to'∧to' < (n.Boxes.length:Int)∧n.Boxes.length ≤ 8⟩
theorem oa83 (n:LabNet) (to':Int) (without:Int):(T83 (F54 n to' without) n to' without).ok Tryz.prog 83 := by
 intro hp; have h := ok83 n to' without hp; rw [as83 n to' without hp.1 hp.2.1 hp.2.2.1] at h; exact h
def F55_s0 (n:LabNet) (far:List Int) (at':Int) (without:Int):Int → Lp Int Int := fun k =>
 bif (decide (k < (far.length:Int))) then (bif (bif (bif decide ((linkOf n at' k) ≥ 0) then ((linkOf n at' k) != without) else false) then ((far.getD k.toNat default) == (IntKind.i64.wrap ((far.getD at'.toNat default) - 1))) else false) then (.ret k) else (.next (k + 1))) else (.done k)
def F55 (n:LabNet) (far:List Int) (at':Int) (without:Int):Int :=
 (runL (F55_s0 n far at' without) (((far.length:Int) - 0).toNat + 1) 0).fin (fun r=>r) (fun k=>(-1))
def S55 (R:Int) (n:LabNet) (far:List Int) (at':Int) (without:Int):Spec := ⟨[.r (.g (eLabNet n)),.r (.c (.l 1 eInt far)),.r (.c (.v (vI at'))),.r (.c (.v (vI without)))],.v (vI R),0 ≤ at'∧at' < (far.length:Int)⟩
theorem ok55 (n:LabNet) (far:List Int) (at':Int) (without:Int):(S55 (F55 n far at' without) n far at' without).ok Tryz.prog 55 :=
 fnG_ok mixed (fn := Tryz.f55) (ct := .seqk [(1,0)] (.no) (.seq (.seqk [(1,0),(4,0),(4,1)] (.no) (.blk (.loop (ι := Nat × Int) (fun i=>(fun (k:Int)=>(⟨[(1,some (.h 0 0)),(2,some (.v (vI at'))),(3,some (.v (vI without))),(4,some (.p 1 0)),(9,some (.v (vI k)))],[(0,some (.shr none (.l 1 eInt far))),(1,some (.box 26 [.h 2 0,.h 3 0])),(2,some (.shr none (.l 2 eLabLink n.Links))),(3,some (.shr none (.l 2 eLabBox n.Boxes)))],4⟩:St)) i.2) (fun i=>runL (F55_s0 n far at' without) i.1 i.2=(runL (F55_s0 n far at' without) (((far.length:Int) - 0).toNat + 1) 0)∧(fun (k:Int)=>(Int.toNat ((far.length:Int) - k) < i.1∧(0:Int) ≤ k)) i.2) (fun i=>i.1) ((((far.length:Int) - 0).toNat + 1),0) (fun i=>(fun (k:Int)=>(.seq (.seq (.no) (.cond (.no) (.no))) (.seq (.blk (.seq (.reg [(3,.call 44 (S44 (linkOf n at' k) n at' k) (oa44 n at' k) none)]) (.seq (.no) (.cond (.seq (.no) (.no)) (.no))))) (.reg [(1,.bnd)])))) i.2)))) (.seq (.no) (.no)))) Tryz.func55 (fun (hp:0 ≤ at'∧at' < (far.length:Int))=>(fun (hpre0:0 ≤ at') (hpre1:at' < (far.length:Int))=>fun (_:far.length ≤ 9223372036854775807)=>fun (_:far.length ≤ 9223372036854775807)=>fun (_:n.Links.length ≤ 9223372036854775807)=>fun (_:n.Boxes.length ≤ 9223372036854775807)=>ai (ai (rfl) (ai (rfl) (ai (rfl) (ai ((Imp.refl _)) (ai ((Imp.refl _)) (ai ((Imp.refl _)) ((ai (rfl:runL (F55_s0 n far at' without) (((far.length:Int) - 0).toNat + 1) 0=(runL (F55_s0 n far at' without) (((far.length:Int) - 0).toNat + 1) 0)) (ai ((Nat.lt_succ_self _:Int.toNat ((far.length:Int) - 0) < (((far.length:Int) - 0).toNat + 1))) ((by omega:(0:Int) ≤ 0)))))))))):((.int .i64 at':Value)=.int .i64 at')∧((.int .i64 without:Value)=.int .i64 without)∧((.int .i64 0:Value)=.int .i64 0)∧(Imp (.l 1 eInt far) (.l 1 eInt far))∧(Imp (.l 2 eLabLink n.Links) (.l 2 eLabLink n.Links))∧(Imp (.l 2 eLabBox n.Boxes) (.l 2 eLabBox n.Boxes))∧(runL (F55_s0 n far at' without) (((far.length:Int) - 0).toNat + 1) 0=(runL (F55_s0 n far at' without) (((far.length:Int) - 0).toNat + 1) 0)∧Int.toNat ((far.length:Int) - 0) < (((far.length:Int) - 0).toNat + 1)∧(0:Int) ≤ 0)) (fun (i0:Nat × Int) (hi0:runL (F55_s0 n far at' without) i0.1 i0.2=(runL (F55_s0 n far at' without) (((far.length:Int) - 0).toNat + 1) 0)∧(fun (k:Int)=>(Int.toNat ((far.length:Int) - k) < i0.1∧(0:Int) ≤ k)) i0.2)=>(fun (m0:Nat) (k:Int) (hI0:runL (F55_s0 n far at' without) (m0 + 1) k=(runL (F55_s0 n far at' without) (((far.length:Int) - 0).toNat + 1) 0)) (_:Int.toNat ((far.length:Int) - k) < m0 + 1) (hl0:m0 < i0.1) (_:(0:Int) ≤ k)=>ai (fun h2:(decide (k < (far.length:Int)))=true=>(fun _:k < (far.length:Int)=>ai (trivial) (ai ((Imps.refl (eLabNet n))) (ai ((Imp.refl (.v (vI at')))) (ai ((Imp.refl (.v (vI k)))) (ai ((fun k3:(bif decide ((linkOf n at' k) ≥ 0) then ((linkOf n at' k) != without) else false)=true=>(fun _:¬ (linkOf n at' k)=without=>(fun _:(linkOf n at' k) ≥ 0=>(by omega:0 ≤ k∧k < (far.length:Int))) (of_decide_eq_true (andT1 k3))) (bneT (andT2 k3)))) (ai ((fun k4:(bif decide ((linkOf n at' k) ≥ 0) then ((linkOf n at' k) != without) else false)=true=>(fun _:¬ (linkOf n at' k)=without=>(fun _:(linkOf n at' k) ≥ 0=>(by omega:0 ≤ at'∧at' < (far.length:Int))) (of_decide_eq_true (andT1 k4))) (bneT (andT2 k4)))) (ai (fun h5:(bif (bif decide ((linkOf n at' k) ≥ 0) then ((linkOf n at' k) != without) else false) then ((far.getD k.toNat default) == (IntKind.i64.wrap ((far.getD at'.toNat default) - 1))) else false)=true=>(fun _:(far.getD k.toNat default)=(IntKind.i64.wrap ((far.getD at'.toNat default) - 1))=>(fun _:¬ (linkOf n at' k)=without=>(fun _:(linkOf n at' k) ≥ 0=>(fun hF:(k:Int)=(F55 n far at' without)=>ai (congrArg (fun r:Int=>(.int .i64 r:Value)) hF) (trivial)) (finR (runL_ret hI0 (condT h2 (condT h5 (rfl)))) rfl)) (of_decide_eq_true (andT1 (andT1 h5)))) (bneT (andT2 (andT1 h5)))) (eq_of_beq (andT2 h5))) (fun h5:(bif (bif decide ((linkOf n at' k) ≥ 0) then ((linkOf n at' k) != without) else false) then ((far.getD k.toNat default) == (IntKind.i64.wrap ((far.getD at'.toNat default) - 1))) else false)=false=>ai ((by unfold i64ok; omega:i64ok (k + 1))) (Exists.intro (p := fun j:Nat × Int=>(fun (k_:Int)=>(((.int .i64 at':Value)=.int .i64 at')∧((.int .i64 without:Value)=.int .i64 without)∧((.int .i64 (k + 1):Value)=.int .i64 k_)∧(Imp (.l 1 eInt far) (.l 1 eInt far))∧(Imp (.l 2 eLabLink n.Links) (.l 2 eLabLink n.Links))∧(Imp (.l 2 eLabBox n.Boxes) (.l 2 eLabBox n.Boxes))∧((runL (F55_s0 n far at' without) j.1 j.2=(runL (F55_s0 n far at' without) (((far.length:Int) - 0).toNat + 1) 0)∧Int.toNat ((far.length:Int) - k_) < j.1∧(0:Int) ≤ k_)∧j.1 < i0.1))) j.2) (m0,(k + 1)) (ai (rfl) (ai (rfl) (ai (rfl) (ai ((Imp.refl _)) (ai ((Imp.refl _)) (ai ((Imp.refl _)) (ai (ai (runL_next hI0 (condT h2 (condF h5 (rfl)))) (ai ((by omega:Int.toNat ((far.length:Int) - (k + 1)) < m0)) ((by omega:(0:Int) ≤ (k + 1))))) hl0)))))))))))))))) (of_decide_eq_true h2)) (fun h2:(decide (k < (far.length:Int)))=false=>(fun _:¬ k < (far.length:Int)=>(fun hD0_6:(runL (F55_s0 n far at' without) (((far.length:Int) - 0).toNat + 1) 0)=Lp.done k=>(fun hF:((-1):Int)=(F55 n far at' without)=>ai (congrArg (fun r:Int=>(.int .i64 r:Value)) hF) (trivial)) (finD hD0_6 (rfl))) (runL_done hI0 (condF h2 (rfl)))) (of_decide_eq_false h2))) (i0.1 - 1) i0.2 (hd1 hi0.1 hi0.2.1) (hd2 hi0.2.1) (hd3 hi0.2.1) hi0.2.2)) hp.1 hp.2) (by kernel_rfl)
theorem as55 (n:LabNet) (far:List Int) (at':Int) (without:Int):F55 n far at' without=(nextOf n far at' without) := by
 unfold F55 nextOf
 rw [search (fun k=>nextB n far without at' (k:Int)) (fun k=>(k:Int)) far.length _ (fun k hk=>by simp only [F55_s0,ltD hk,cond_true,nextB,Bool.decide_and,bandd,decide_not,ne_eq,neI,geleD]) (by simp [F55_s0])]
 all_goals (cases first (fun k=>nextB n far without at' (k:Int)) far.length <;> rfl)
theorem oa55 (n:LabNet) (far:List Int) (at':Int) (without:Int):(S55 (nextOf n far at' without) n far at' without).ok Tryz.prog 55 := by
 intro hp; have h := ok55 n far at' without hp; rw [as55 n far at' without] at h; exact h
def F25_s0 (n:LabNet) (a:Int) (b:Int) (without:Int):(List Int × Int × Int) → Lp (List Int × Int × Int) (List Int) := fun (out,at',d1) =>
 bif (decide (d1 > 0)) then (.next ((out ++ [(nextOf n (F54 n b without) at' without)]),(nextOf n (F54 n b without) at' without),(d1 - 1))) else (.done (out,at',d1))
def F25 (n:LabNet) (a:Int) (b:Int) (without:Int):List Int :=
 bif (decide (((F54 n b without).getD a.toNat default) < 0)) then ([]:List Int) else ((runL (F25_s0 n a b without) (((F54 n b without).getD a.toNat default).toNat + 1) (([a]:List Int),a,((F54 n b without).getD a.toNat default))).fin (fun r=>r) (fun (out,at',d1)=>out))
def S25 (R:List Int) (n:LabNet) (a:Int) (b:Int) (without:Int):Spec := ⟨[.r (.g (eLabNet n)),.r (.c (.v (vI a))),.r (.c (.v (vI b))),.r (.c (.v (vI without)))],.ow (.l 1 eInt R),FrameOk n∧n.Boxes.length ≤ 8∧0 ≤ a∧a < (n.Boxes.length:Int)∧0 ≤ b∧b < (n.Boxes.length:Int)⟩
theorem ok25 (n:LabNet) (a:Int) (b:Int) (without:Int):(S25 (F25 n a b without) n a b without).ok Tryz.prog 25 :=
 fnG_ok mixed (fn := Tryz.f25) (ct := .seq (.no) (.seq (.reg [(3,.call 54 (S54 n b without) (ok54 n b without) none)]) (.seq (.seq (.no) (.cond (.seq (.reg [(0,.dat (.l 1 eInt ([]:List Int)))]) (.no)) (.no))) (.seq (.reg [(1,.dat (.l 1 eInt ([a]:List Int)))]) (.seq (.no) (.seq (.seqk [(4,0),(4,1),(9,0),(10,0)] (.no) (.blk (.loop (ι := Nat × (List Int × Int × Int)) (fun i=>(fun (out:List Int) (at':Int) (d1:Int)=>(⟨[(3,some (.v (vI without))),(4,some (.p 0 0)),(9,some (.h 3 0)),(10,some (.h 4 0)),(11,some (.v (vI at'))),(12,some (.v (vI d1)))],[(0,some (.box 26 [.h 1 0,.h 2 0])),(1,some (.shr none (.l 2 eLabLink n.Links))),(2,some (.shr none (.l 2 eLabBox n.Boxes))),(3,some (.own 3 (.l 1 eInt (F54 n b without)))),(4,some (.own 4 (.l 1 eInt out)))],5⟩:St)) i.2.1 i.2.2.1 i.2.2.2) (fun i=>runL (F25_s0 n a b without) i.1 i.2=(runL (F25_s0 n a b without) (((F54 n b without).getD a.toNat default).toNat + 1) (([a]:List Int),a,((F54 n b without).getD a.toNat default)))∧(fun (out:List Int) (at':Int) (d1:Int)=>(Int.toNat d1 < i.1∧0 ≤ at'∧at' < (n.Boxes.length:Int)∧(F54 n b without).getD at'.toNat default=d1∧(out.length:Int) + d1 ≤ 8∧0 ≤ d1)) i.2.1 i.2.2.1 i.2.2.2) (fun i=>i.1) ((((F54 n b without).getD a.toNat default).toNat + 1),(([a]:List Int),a,((F54 n b without).getD a.toNat default))) (fun i=>(fun (out:List Int) (at':Int) (d1:Int)=>(.seq (.seq (.no) (.cond (.no) (.no))) (.seq (.blk (.seq (.reg [(4,.call 55 (S55 (nextOf n (F54 n b without) at' without) n (F54 n b without) at' without) (oa55 n (F54 n b without) at' without) none)]) (.reg [(3,.dat (.l 1 eInt (out ++ [(nextOf n (F54 n b without) at' without)])))]))) (.reg [(1,.bnd)])))) i.2.1 i.2.2.1 i.2.2.2)))) (.seq (.no) (.no)))))))) Tryz.func25 (fun (hp:FrameOk n∧n.Boxes.length ≤ 8∧0 ≤ a∧a < (n.Boxes.length:Int)∧0 ≤ b∧b < (n.Boxes.length:Int))=>(fun (hpre0:FrameOk n) (hpre1:n.Boxes.length ≤ 8) (hpre2:0 ≤ a) (hpre3:a < (n.Boxes.length:Int)) (hpre4:0 ≤ b) (hpre5:b < (n.Boxes.length:Int))=>ai ((ai ((by first | assumption | exact NetOk.frame (by assumption):FrameOk n)) (ai ((by first | omega | (simp only [lens] at * <;> omega):0 ≤ b)) (ai ((by first | omega | (simp only [lens] at * <;> omega):b < (n.Boxes.length:Int))) ((by first | omega | (simp only [lens] at * <;> omega):n.Boxes.length ≤ 8)))))) (ai ((Imps.refl (eLabNet n))) (ai ((Imp.refl (.v (vI b)))) (ai ((Imp.refl (.v (vI without)))) ((fun gv1:IsDist n b without (F54 n b without)=>(fun gv2:(F54 n b without).length=n.Boxes.length=>ai ((by first | omega | (simp only [lens] at * <;> omega):0 ≤ a∧a < ((F54 n b without).length:Int))) (ai (fun h3:(decide (((F54 n b without).getD a.toNat default) < 0))=true=>(fun _:((F54 n b without).getD a.toNat default) < 0=>ai ((BuildOK.mk eInt ([]:List Int) rfl (by exact trivial) (fun _=>rfl):BuildOK 0 1 [] (.l 1 eInt ([]:List Int)))) ((fun hF:(([]:List Int):List Int)=(F25 n a b without)=>ai (Imp.of_eq (congrArg (fun r:List Int=>Dat.l 1 eInt r) hF)) (trivial)) (condT h3 (rfl)))) (of_decide_eq_true h3)) (fun h3:(decide (((F54 n b without).getD a.toNat default) < 0))=false=>(fun _:¬ ((F54 n b without).getD a.toNat default) < 0=>ai ((BuildOK.mk eInt ([a]:List Int) rfl (by exact ai (Imp.refl _) (trivial)) (fun _=>rfl):BuildOK 1 1 [.v (vI a)] (.l 1 eInt ([a]:List Int)))) (ai ((by first | omega | (simp only [lens] at * <;> omega):0 ≤ a∧a < ((F54 n b without).length:Int))) (fun (_:n.Links.length ≤ 9223372036854775807)=>fun (_:n.Boxes.length ≤ 9223372036854775807)=>fun (_:(F54 n b without).length ≤ 9223372036854775807)=>fun (_:([a]:List Int).length ≤ 9223372036854775807)=>ai (ai (rfl) (ai (rfl) (ai (rfl) (ai ((Imp.refl _)) (ai ((Imp.refl _)) (ai ((Imp.refl _)) (ai ((Imp.refl _)) ((ai (rfl:runL (F25_s0 n a b without) (((F54 n b without).getD a.toNat default).toNat + 1) (([a]:List Int),a,((F54 n b without).getD a.toNat default))=(runL (F25_s0 n a b without) (((F54 n b without).getD a.toNat default).toNat + 1) (([a]:List Int),a,((F54 n b without).getD a.toNat default)))) (ai ((Nat.lt_succ_self _:Int.toNat ((F54 n b without).getD a.toNat default) < (((F54 n b without).getD a.toNat default).toNat + 1))) (ai ((by first | omega | (simp only [lens] at * <;> omega) | (have hl := IsDist.lt (by assumption) (k := a) (by assumption) (by assumption); (try simp only [lens]); omega) | (have hq := nextOf_ok (by assumption) (by assumption) (a := at') (by omega) (by omega) (by omega); (try simp only [lens]); omega):0 ≤ a)) (ai ((by first | omega | (simp only [lens] at * <;> omega) | (have hl := IsDist.lt (by assumption) (k := a) (by assumption) (by assumption); (try simp only [lens]); omega) | (have hq := nextOf_ok (by assumption) (by assumption) (a := at') (by omega) (by omega) (by omega); (try simp only [lens]); omega):a < (n.Boxes.length:Int))) (ai ((by first | omega | (simp only [lens] at * <;> omega) | (have hl := IsDist.lt (by assumption) (k := a) (by assumption) (by assumption); (try simp only [lens]); omega) | (have hq := nextOf_ok (by assumption) (by assumption) (a := at') (by omega) (by omega) (by omega); (try simp only [lens]); omega):(F54 n b without).getD a.toNat default=((F54 n b without).getD a.toNat default))) (ai ((by first | omega | (simp only [lens] at * <;> omega) | (have hl := IsDist.lt (by assumption) (k := a) (by assumption) (by assumption); (try simp only [lens]); omega) | (have hq := nextOf_ok (by assumption) (by assumption) (a := at') (by omega) (by omega) (by omega); (try simp only [lens]); omega):(([a]:List Int).length:Int) + ((F54 n b without).getD a.toNat default) ≤ 8)) ((by first | omega | (simp only [lens] at * <;> omega) | (have hl := IsDist.lt (by assumption) (k := a) (by assumption) (by assumption); (try simp only [lens]); omega) | (have hq := nextOf_ok (by assumption) (by assumption) (a := at') (by omega) (by omega) (by omega); (try simp only [lens]); omega):0 ≤ ((F54 n b without).getD a.toNat default)))))))))))))))):((.int .i64 without:Value)=.int .i64 without)∧((.int .i64 a:Value)=.int .i64 a)∧((.int .i64 ((F54 n b without).getD a.toNat default):Value)=.int .i64 ((F54 n b without).getD a.toNat default))∧(Imp (.l 2 eLabLink n.Links) (.l 2 eLabLink n.Links))∧(Imp (.l 2 eLabBox n.Boxes) (.l 2 eLabBox n.Boxes))∧(Imp (.l 1 eInt (F54 n b without)) (.l 1 eInt (F54 n b without)))∧(Imp (.l 1 eInt ([a]:List Int)) (.l 1 eInt ([a]:List Int)))∧(runL (F25_s0 n a b without) (((F54 n b without).getD a.toNat default).toNat + 1) (([a]:List Int),a,((F54 n b without).getD a.toNat default))=(runL (F25_s0 n a b without) (((F54 n b without).getD a.toNat default).toNat + 1) (([a]:List Int),a,((F54 n b without).getD a.toNat default)))∧Int.toNat ((F54 n b without).getD a.toNat default) < (((F54 n b without).getD a.toNat default).toNat + 1)∧0 ≤ a∧a < (n.Boxes.length:Int)∧(F54 n b without).getD a.toNat default=((F54 n b without).getD a.toNat default)∧(([a]:List Int).length:Int) + ((F54 n b without).getD a.toNat default) ≤ 8∧0 ≤ ((F54 n b without).getD a.toNat default))) (fun (i0:Nat × (List Int × Int × Int)) (hi0:runL (F25_s0 n a b without) i0.1 i0.2=(runL (F25_s0 n a b without) (((F54 n b without).getD a.toNat default).toNat + 1) (([a]:List Int),a,((F54 n b without).getD a.toNat default)))∧(fun (out:List Int) (at':Int) (d1:Int)=>(Int.toNat d1 < i0.1∧0 ≤ at'∧at' < (n.Boxes.length:Int)∧(F54 n b without).getD at'.toNat default=d1∧(out.length:Int) + d1 ≤ 8∧0 ≤ d1)) i0.2.1 i0.2.2.1 i0.2.2.2)=>(fun (m0:Nat) (out:List Int) (at':Int) (d1:Int) (hI0:runL (F25_s0 n a b without) (m0 + 1) (out,at',d1)=(runL (F25_s0 n a b without) (((F54 n b without).getD a.toNat default).toNat + 1) (([a]:List Int),a,((F54 n b without).getD a.toNat default)))) (_:Int.toNat d1 < m0 + 1) (hl0:m0 < i0.1) (_:0 ≤ at') (_:at' < (n.Boxes.length:Int)) (_:(F54 n b without).getD at'.toNat default=d1) (_:(out.length:Int) + d1 ≤ 8) (_:0 ≤ d1)=>ai (fun h5:(decide (d1 > 0))=true=>(fun _:d1 > 0=>ai ((ai ((by first | omega | (simp only [lens] at * <;> omega):0 ≤ at')) ((by first | omega | (simp only [lens] at * <;> omega):at' < ((F54 n b without).length:Int))))) (ai ((Imps.refl (eLabNet n))) (ai ((Imp.refl (.l 1 eInt (F54 n b without)))) (ai ((Imp.refl (.v (vI at')))) (ai ((Imp.refl (.v (vI without)))) (ai ((AppA.mk eInt out [(nextOf n (F54 n b without) at' without)] (Imp.refl (.l 1 eInt out)) rfl (by exact ai (Imp.refl _) (trivial)) (fun _=>rfl):AppA (.l 1 eInt out) 1 1 [.v (vI (nextOf n (F54 n b without) at' without))] (.l 1 eInt (out ++ [(nextOf n (F54 n b without) at' without)])))) (ai ((by (try simp only [lens]); omega:((out ++ [(nextOf n (F54 n b without) at' without)])).length * 8 ≤ 140737488355328)) (ai ((by unfold i64ok; first | omega | (simp only [lens] at * <;> omega):i64ok (d1 - 1))) (Exists.intro (p := fun j:Nat × (List Int × Int × Int)=>(fun (out_:List Int) (at'_:Int) (d1_:Int)=>(((.int .i64 without:Value)=.int .i64 without)∧((.int .i64 (nextOf n (F54 n b without) at' without):Value)=.int .i64 at'_)∧((.int .i64 (d1 - 1):Value)=.int .i64 d1_)∧(Imp (.l 2 eLabLink n.Links) (.l 2 eLabLink n.Links))∧(Imp (.l 2 eLabBox n.Boxes) (.l 2 eLabBox n.Boxes))∧(Imp (.l 1 eInt (F54 n b without)) (.l 1 eInt (F54 n b without)))∧(Imp (.l 1 eInt (out ++ [(nextOf n (F54 n b without) at' without)])) (.l 1 eInt out_))∧((runL (F25_s0 n a b without) j.1 j.2=(runL (F25_s0 n a b without) (((F54 n b without).getD a.toNat default).toNat + 1) (([a]:List Int),a,((F54 n b without).getD a.toNat default)))∧Int.toNat d1_ < j.1∧0 ≤ at'_∧at'_ < (n.Boxes.length:Int)∧(F54 n b without).getD (Int.toNat at'_) default=d1_∧(out_.length:Int) + d1_ ≤ 8∧0 ≤ d1_)∧j.1 < i0.1))) j.2.1 j.2.2.1 j.2.2.2) (m0,((out ++ [(nextOf n (F54 n b without) at' without)]),(nextOf n (F54 n b without) at' without),(d1 - 1))) (ai (rfl) (ai (rfl) (ai (rfl) (ai ((Imp.refl _)) (ai ((Imp.refl _)) (ai ((Imp.refl _)) (ai ((Imp.refl _)) (ai (ai (runL_next hI0 (condT h5 (rfl))) (ai ((by first | omega | (simp only [lens] at * <;> omega) | (have hl := IsDist.lt (by assumption) (k := a) (by assumption) (by assumption); (try simp only [lens]); omega) | (have hq := nextOf_ok (by assumption) (by assumption) (a := at') (by omega) (by omega) (by omega); (try simp only [lens]); omega):Int.toNat (d1 - 1) < m0)) (ai ((by first | omega | (simp only [lens] at * <;> omega) | (have hl := IsDist.lt (by assumption) (k := a) (by assumption) (by assumption); (try simp only [lens]); omega) | (have hq := nextOf_ok (by assumption) (by assumption) (a := at') (by omega) (by omega) (by omega); (try simp only [lens]); omega):0 ≤ (nextOf n (F54 n b without) at' without))) (ai ((by first | omega | (simp only [lens] at * <;> omega) | (have hl := IsDist.lt (by assumption) (k := a) (by assumption) (by assumption); (try simp only [lens]); omega) | (have hq := nextOf_ok (by assumption) (by assumption) (a := at') (by omega) (by omega) (by omega); (try simp only [lens]); omega):(nextOf n (F54 n b without) at' without) < (n.Boxes.length:Int))) (ai ((by first | omega | (simp only [lens] at * <;> omega) | (have hl := IsDist.lt (by assumption) (k := a) (by assumption) (by assumption); (try simp only [lens]); omega) | (have hq := nextOf_ok (by assumption) (by assumption) (a := at') (by omega) (by omega) (by omega); (try simp only [lens]); omega):(F54 n b without).getD (nextOf n (F54 n b without) at' without).toNat default=(d1 - 1))) (ai ((by first | omega | (simp only [lens] at * <;> omega) | (have hl := IsDist.lt (by assumption) (k := a) (by assumption) (by assumption); (try simp only [lens]); omega) | (have hq := nextOf_ok (by assumption) (by assumption) (a := at') (by omega) (by omega) (by omega); (try simp only [lens]); omega):((out ++ [(nextOf n (F54 n b without) at' without)]).length:Int) + (d1 - 1) ≤ 8)) ((by first | omega | (simp only [lens] at * <;> omega) | (have hl := IsDist.lt (by assumption) (k := a) (by assumption) (by assumption); (try simp only [lens]); omega) | (have hq := nextOf_ok (by assumption) (by assumption) (a := at') (by omega) (by omega) (by omega); (try simp only [lens]); omega):0 ≤ (d1 - 1))))))))) hl0))))))))))))))))) (of_decide_eq_true h5)) (fun h5:(decide (d1 > 0))=false=>(fun _:¬ d1 > 0=>(fun hD0_6:(runL (F25_s0 n a b without) (((F54 n b without).getD a.toNat default).toNat + 1) (([a]:List Int),a,((F54 n b without).getD a.toNat default)))=Lp.done (out,at',d1)=>(fun hF:(out:List Int)=(F25 n a b without)=>ai (Imp.of_eq (congrArg (fun r:List Int=>Dat.l 1 eInt r) hF)) (trivial)) (condF h3 (finD hD0_6 (rfl)))) (runL_done hI0 (condF h5 (rfl)))) (of_decide_eq_false h5))) (i0.1 - 1) i0.2.1 i0.2.2.1 i0.2.2.2 (hd1 hi0.1 hi0.2.1) (hd2 hi0.2.1) (hd3 hi0.2.1) hi0.2.2.1 hi0.2.2.2.1 hi0.2.2.2.2.1 hi0.2.2.2.2.2.1 hi0.2.2.2.2.2.2)))) (of_decide_eq_false h3)))) (far_len n b without (by first | assumption | exact NetOk.frame (by assumption):FrameOk n) (by first | omega | (simp only [lens] at * <;> omega):0 ≤ b) (by first | omega | (simp only [lens] at * <;> omega):b < (n.Boxes.length:Int)))) (far_isDist n b without (by first | assumption | exact NetOk.frame (by assumption):FrameOk n) (by first | omega | (simp only [lens] at * <;> omega):0 ≤ b) (by first | omega | (simp only [lens] at * <;> omega):b < (n.Boxes.length:Int)))))))) hp.1 hp.2.1 hp.2.2.1 hp.2.2.2.1 hp.2.2.2.2.1 hp.2.2.2.2.2) (by kernel_rfl)
def F62_s1 (n:LabNet) (a:Int) (b:Int) (without:Int) (way:List Int) (last:Int):(Int × Int) → Lp (Int × Int) (List Int) := fun (last2,v45) =>
 bif (decide (v45 < ((F54 n b without).length:Int))) then (bif (bif (decide (0 ≤ linkOf n last2 v45∧linkOf n last2 v45 ≠ without)) then (((F54 n b without).getD v45.toNat default) == (IntKind.i64.wrap (((F54 n b without).getD last2.toNat default) - 1))) else false) then (.done (v45,v45)) else (.next (last2,(v45 + 1)))) else (.done (last2,v45))
def F62_j2 (n:LabNet) (a:Int) (b:Int) (without:Int) (way:List Int) (last:Int):Lp Int (List Int) :=
 (runL (F62_s1 n a b without way last) ((((F54 n b without).length:Int) - 0).toNat + 1) (last,0)).fin Lp.ret (fun (last2,v45)=>.done last2)
def F62_s0 (n:LabNet) (a:Int) (b:Int) (without:Int):(List Int × Int) → Lp (List Int × Int) (List Int) := fun (way,last) =>
 bif (last != b) then ((F62_j2 n a b without way last).fin Lp.ret (fun last1=>.next ((way ++ [last1]),last1))) else (.done (way,last))
def F62 (n:LabNet) (a:Int) (b:Int) (without:Int):List Int :=
 bif (bif (bif (!(netB n)) then true else (!(decide (0 ≤ a∧a ≤ (n.Boxes.length:Int) - 1)))) then true else (!(decide (0 ≤ b∧b ≤ (n.Boxes.length:Int) - 1)))) then ([]:List Int) else (bif (decide (((F54 n b without).getD a.toNat default) < 0)) then ([]:List Int) else ((runL (F62_s0 n a b without) (((F54 n b without).getD a.toNat default).toNat + 1) (([a]:List Int),a)).fin (fun r=>r) (fun (way,last)=>way)))
def S62 (R:List Int) (n:LabNet) (a:Int) (b:Int) (without:Int):Spec := ⟨[.r (.g (eLabNet n)),.r (.c (.v (vI a))),.r (.c (.v (vI b))),.r (.c (.v (vI without)))],.ow (.l 1 eInt R),True⟩
theorem ok62 (n:LabNet) (a:Int) (b:Int) (without:Int):(S62 (F62 n a b without) n a b without).ok Tryz.prog 62 :=
 fnG_ok mixed (fn := Tryz.f62) (ct := .seq (.no) (.seq (.seq (.reg [(1,.call 7 (S7 (netB n) n) (oa7 n) none),(6,.call 49 (S49 (decide (0 ≤ a∧a ≤ (n.Boxes.length:Int) - 1)) n a) (oa49 n a) none),(12,.call 49 (S49 (decide (0 ≤ b∧b ≤ (n.Boxes.length:Int) - 1)) n b) (oa49 n b) none)]) (.cond (.seq (.no) (.no)) (.no))) (.seq (.reg [(3,.call 83 (T83 (F54 n b without) n b without) (oa83 n b without) none)]) (.seq (.seq (.no) (.cond (.seq (.no) (.no)) (.no))) (.seq (.reg [(1,.dat (.l 1 eInt ([a]:List Int)))]) (.seq (.seqk [(4,0),(4,1),(9,0),(10,0)] (.no) (.blk (.loop (ι := Nat × (List Int × Int)) (fun i=>(fun (way:List Int) (last:Int)=>(⟨[(2,some (.v (vI b))),(3,some (.v (vI without))),(4,some (.p 0 0)),(9,some (.h 3 0)),(10,some (.h 4 0)),(11,some (.v (vI last)))],[(0,some (.box 26 [.h 1 0,.h 2 0])),(1,some (.shr none (.l 2 eLabLink n.Links))),(2,some (.shr none (.l 2 eLabBox n.Boxes))),(3,some (.own 3 (.l 1 eInt (F54 n b without)))),(4,some (.own 4 (.l 1 eInt way)))],5⟩:St)) i.2.1 i.2.2) (fun i=>runL (F62_s0 n a b without) i.1 i.2=(runL (F62_s0 n a b without) (((F54 n b without).getD a.toNat default).toNat + 1) (([a]:List Int),a))∧(fun (way:List Int) (last:Int)=>(Int.toNat ((F54 n b without).getD last.toNat default) < i.1∧(0 ≤ last∧last < (n.Boxes.length:Int))∧0 ≤ (F54 n b without).getD last.toNat default∧(way.length:Int) + (F54 n b without).getD last.toNat default ≤ 8)) i.2.1 i.2.2) (fun i=>i.1) ((((F54 n b without).getD a.toNat default).toNat + 1),(([a]:List Int),a)) (fun i=>(fun (way:List Int) (last:Int)=>(.seq (.seq (.no) (.cond (.no) (.no))) (.blk (.cut (ι := Int) (fun j=>(fun (last1:Int)=>(⟨[(2,some (.v (vI b))),(3,some (.v (vI without))),(4,some (.p 0 0)),(9,some (.h 3 0)),(10,some (.h 4 0)),(11,some (.v (vI last1)))],[(0,some (.box 26 [.h 1 0,.h 2 0])),(1,some (.shr none (.l 2 eLabLink n.Links))),(2,some (.shr none (.l 2 eLabBox n.Boxes))),(3,some (.own 3 (.l 1 eInt (F54 n b without)))),(4,some (.own 4 (.l 1 eInt way)))],5⟩:St)) j) (fun j=>(fun (last1:Int)=>((F62_j2 n a b without way last)=Lp.done j∧(0 ≤ last1∧last1 < (n.Boxes.length:Int))∧(F54 n b without).getD last1.toNat default=(F54 n b without).getD last.toNat default - 1)) j) (.seqk [(4,0),(4,1),(9,0)] (.no) (.blk (.loop (ι := Nat × (Int × Int)) (fun i=>(fun (last2:Int) (v45:Int)=>(⟨[(2,some (.v (vI b))),(3,some (.v (vI without))),(4,some (.p 0 0)),(9,some (.h 3 0)),(10,some (.h 4 0)),(11,some (.v (vI last2))),(44,some (.v (vI ((F54 n b without).length:Int)))),(45,some (.v (vI v45)))],[(0,some (.box 26 [.h 1 0,.h 2 0])),(1,some (.shr none (.l 2 eLabLink n.Links))),(2,some (.shr none (.l 2 eLabBox n.Boxes))),(3,some (.own 3 (.l 1 eInt (F54 n b without)))),(4,some (.own 4 (.l 1 eInt way)))],5⟩:St)) i.2.1 i.2.2) (fun i=>runL (F62_s1 n a b without way last) i.1 i.2=(runL (F62_s1 n a b without way last) ((((F54 n b without).length:Int) - 0).toNat + 1) (last,0))∧(fun (last2:Int) (v45:Int)=>(Int.toNat (((F54 n b without).length:Int) - v45) < i.1∧last2=last∧NoNext n (F54 n b without) without last2 v45∧(0:Int) ≤ v45)) i.2.1 i.2.2) (fun i=>i.1) (((((F54 n b without).length:Int) - 0).toNat + 1),(last,0)) (fun i=>(fun (last2:Int) (v45:Int)=>(.seq (.no) (.seq (.cond (.no) (.no)) (.seq (.blk (.seq (.no) (.seq (.reg [(4,.call 84 (S84 (decide (0 ≤ linkOf n last2 v45∧linkOf n last2 v45 ≠ without)) n last2 v45 without) (oa84 n last2 v45 without) none)]) (.cond (.seq (.no) (.no)) (.no))))) (.reg [(0,.bnd)]))))) i.2.1 i.2.2)))) (fun j=>(fun (last1:Int)=>(.reg [(3,.dat (.l 1 eInt (way ++ [last1])))])) j))))) i.2.1 i.2.2)))) (.seq (.no) (.no)))))))) Tryz.func62 (fun (_:True)=>ai (trivial) (ai ((Imps.refl (eLabNet n))) (ai ((fun k1:(!(netB n))=false=>(fun _:n.Links.length ≤ 14=>(fun _:n.Boxes.length ≤ 8=>(fun _:NetOk n=>((by first | omega | (simp only [lens] at * <;> omega):n.Boxes.length ≤ 9223372036854775807))) (netB_T n (notEF k1))) (netB_8 n (notEF k1))) (netB_14 n (notEF k1)))) (ai ((fun k2:(!(netB n))=false=>(fun _:n.Links.length ≤ 14=>(fun _:n.Boxes.length ≤ 8=>(fun _:NetOk n=>(Imps.refl (eLabNet n))) (netB_T n (notEF k2))) (netB_8 n (notEF k2))) (netB_14 n (notEF k2)))) (ai ((fun k3:(!(netB n))=false=>(fun _:n.Links.length ≤ 14=>(fun _:n.Boxes.length ≤ 8=>(fun _:NetOk n=>(Imp.refl (.v (vI a)))) (netB_T n (notEF k3))) (netB_8 n (notEF k3))) (netB_14 n (notEF k3)))) (ai ((fun k4:(bif (!(netB n)) then true else (!(decide (0 ≤ a∧a ≤ (n.Boxes.length:Int) - 1))))=false=>(fun _:0 ≤ a∧a ≤ (n.Boxes.length:Int) - 1=>(fun _:n.Links.length ≤ 14=>(fun _:n.Boxes.length ≤ 8=>(fun _:NetOk n=>((by first | omega | (simp only [lens] at * <;> omega):n.Boxes.length ≤ 9223372036854775807))) (netB_T n (notEF (orF1 k4)))) (netB_8 n (notEF (orF1 k4)))) (netB_14 n (notEF (orF1 k4)))) (of_decide_eq_true (notEF (orF2 k4))))) (ai ((fun k5:(bif (!(netB n)) then true else (!(decide (0 ≤ a∧a ≤ (n.Boxes.length:Int) - 1))))=false=>(fun _:0 ≤ a∧a ≤ (n.Boxes.length:Int) - 1=>(fun _:n.Links.length ≤ 14=>(fun _:n.Boxes.length ≤ 8=>(fun _:NetOk n=>(Imps.refl (eLabNet n))) (netB_T n (notEF (orF1 k5)))) (netB_8 n (notEF (orF1 k5)))) (netB_14 n (notEF (orF1 k5)))) (of_decide_eq_true (notEF (orF2 k5))))) (ai ((fun k6:(bif (!(netB n)) then true else (!(decide (0 ≤ a∧a ≤ (n.Boxes.length:Int) - 1))))=false=>(fun _:0 ≤ a∧a ≤ (n.Boxes.length:Int) - 1=>(fun _:n.Links.length ≤ 14=>(fun _:n.Boxes.length ≤ 8=>(fun _:NetOk n=>(Imp.refl (.v (vI b)))) (netB_T n (notEF (orF1 k6)))) (netB_8 n (notEF (orF1 k6)))) (netB_14 n (notEF (orF1 k6)))) (of_decide_eq_true (notEF (orF2 k6))))) (ai (fun h7:(bif (bif (!(netB n)) then true else (!(decide (0 ≤ a∧a ≤ (n.Boxes.length:Int) - 1)))) then true else (!(decide (0 ≤ b∧b ≤ (n.Boxes.length:Int) - 1))))=true=>(fun hF:(([]:List Int):List Int)=(F62 n a b without)=>ai ((Imp.nil 1 eInt).trans (Imp.of_eq (congrArg (fun r:List Int=>Dat.l 1 eInt r) hF))) (trivial)) (condT h7 (rfl))) (fun h7:(bif (bif (!(netB n)) then true else (!(decide (0 ≤ a∧a ≤ (n.Boxes.length:Int) - 1)))) then true else (!(decide (0 ≤ b∧b ≤ (n.Boxes.length:Int) - 1))))=false=>(fun _:0 ≤ b∧b ≤ (n.Boxes.length:Int) - 1=>(fun _:0 ≤ a∧a ≤ (n.Boxes.length:Int) - 1=>(fun _:n.Links.length ≤ 14=>(fun _:n.Boxes.length ≤ 8=>(fun _:NetOk n=>ai ((ai ((by first | assumption | exact NetOk.frame (by assumption):FrameOk n)) (ai ((by first | omega | (simp only [lens] at * <;> omega):0 ≤ b)) (ai ((by first | omega | (simp only [lens] at * <;> omega):b < (n.Boxes.length:Int))) ((by first | omega | (simp only [lens] at * <;> omega):n.Boxes.length ≤ 8)))))) (ai ((Imps.refl (eLabNet n))) (ai ((Imp.refl (.v (vI b)))) (ai ((Imp.refl (.v (vI without)))) ((fun gv8:IsDist n b without (F54 n b without)=>(fun gv9:(F54 n b without).length=n.Boxes.length=>ai ((by first | omega | (simp only [lens] at * <;> omega):0 ≤ a∧a < ((F54 n b without).length:Int))) (ai (fun h10:(decide (((F54 n b without).getD a.toNat default) < 0))=true=>(fun _:((F54 n b without).getD a.toNat default) < 0=>(fun hF:(([]:List Int):List Int)=(F62 n a b without)=>ai ((Imp.nil 1 eInt).trans (Imp.of_eq (congrArg (fun r:List Int=>Dat.l 1 eInt r) hF))) (trivial)) (condF h7 (condT h10 (rfl)))) (of_decide_eq_true h10)) (fun h10:(decide (((F54 n b without).getD a.toNat default) < 0))=false=>(fun _:¬ ((F54 n b without).getD a.toNat default) < 0=>ai ((BuildOK.mk eInt ([a]:List Int) rfl (by exact ai (Imp.refl _) (trivial)) (fun _=>rfl):BuildOK 1 1 [.v (vI a)] (.l 1 eInt ([a]:List Int)))) (fun (_:n.Links.length ≤ 9223372036854775807)=>fun (_:n.Boxes.length ≤ 9223372036854775807)=>fun (_:(F54 n b without).length ≤ 9223372036854775807)=>fun (_:([a]:List Int).length ≤ 9223372036854775807)=>ai (ai (rfl) (ai (rfl) (ai (rfl) (ai ((Imp.refl _)) (ai ((Imp.refl _)) (ai ((Imp.refl _)) (ai ((Imp.refl _)) ((ai (rfl:runL (F62_s0 n a b without) (((F54 n b without).getD a.toNat default).toNat + 1) (([a]:List Int),a)=(runL (F62_s0 n a b without) (((F54 n b without).getD a.toNat default).toNat + 1) (([a]:List Int),a))) (ai ((Nat.lt_succ_self _:Int.toNat ((F54 n b without).getD a.toNat default) < (((F54 n b without).getD a.toNat default).toNat + 1))) (ai ((by first | omega | (simp only [lens] at * <;> omega) | (have hl := IsDist.lt (by assumption) (k := a) (by omega) (by omega); (try simp only [lens]); omega) | (have hp := IsDist.pos (by assumption) (k := last) (by omega) (by omega) (by assumption) (by omega); (try simp only [lens]); omega):0 ≤ a∧a < (n.Boxes.length:Int))) (ai ((by first | omega | (simp only [lens] at * <;> omega) | (have hl := IsDist.lt (by assumption) (k := a) (by omega) (by omega); (try simp only [lens]); omega) | (have hp := IsDist.pos (by assumption) (k := last) (by omega) (by omega) (by assumption) (by omega); (try simp only [lens]); omega):0 ≤ (F54 n b without).getD a.toNat default)) ((by first | omega | (simp only [lens] at * <;> omega) | (have hl := IsDist.lt (by assumption) (k := a) (by omega) (by omega); (try simp only [lens]); omega) | (have hp := IsDist.pos (by assumption) (k := last) (by omega) (by omega) (by assumption) (by omega); (try simp only [lens]); omega):(([a]:List Int).length:Int) + (F54 n b without).getD a.toNat default ≤ 8))))))))))))):((.int .i64 b:Value)=.int .i64 b)∧((.int .i64 without:Value)=.int .i64 without)∧((.int .i64 a:Value)=.int .i64 a)∧(Imp (.l 2 eLabLink n.Links) (.l 2 eLabLink n.Links))∧(Imp (.l 2 eLabBox n.Boxes) (.l 2 eLabBox n.Boxes))∧(Imp (.l 1 eInt (F54 n b without)) (.l 1 eInt (F54 n b without)))∧(Imp (.l 1 eInt ([a]:List Int)) (.l 1 eInt ([a]:List Int)))∧(runL (F62_s0 n a b without) (((F54 n b without).getD a.toNat default).toNat + 1) (([a]:List Int),a)=(runL (F62_s0 n a b without) (((F54 n b without).getD a.toNat default).toNat + 1) (([a]:List Int),a))∧Int.toNat ((F54 n b without).getD a.toNat default) < (((F54 n b without).getD a.toNat default).toNat + 1)∧(0 ≤ a∧a < (n.Boxes.length:Int))∧0 ≤ (F54 n b without).getD a.toNat default∧(([a]:List Int).length:Int) + (F54 n b without).getD a.toNat default ≤ 8)) (fun (i0:Nat × (List Int × Int)) (hi0:runL (F62_s0 n a b without) i0.1 i0.2=(runL (F62_s0 n a b without) (((F54 n b without).getD a.toNat default).toNat + 1) (([a]:List Int),a))∧(fun (way:List Int) (last:Int)=>(Int.toNat ((F54 n b without).getD last.toNat default) < i0.1∧(0 ≤ last∧last < (n.Boxes.length:Int))∧0 ≤ (F54 n b without).getD last.toNat default∧(way.length:Int) + (F54 n b without).getD last.toNat default ≤ 8)) i0.2.1 i0.2.2)=>(fun (m0:Nat) (way:List Int) (last:Int) (hI0:runL (F62_s0 n a b without) (m0 + 1) (way,last)=(runL (F62_s0 n a b without) (((F54 n b without).getD a.toNat default).toNat + 1) (([a]:List Int),a))) (_:Int.toNat ((F54 n b without).getD last.toNat default) < m0 + 1) (hl0:m0 < i0.1) (_:0 ≤ last∧last < (n.Boxes.length:Int)) (_:0 ≤ (F54 n b without).getD last.toNat default) (_:(way.length:Int) + (F54 n b without).getD last.toNat default ≤ 8)=>ai (fun h12:(last != b)=true=>(fun _:¬ last=b=>ai (fun (_:n.Links.length ≤ 9223372036854775807)=>fun (_:n.Boxes.length ≤ 9223372036854775807)=>fun (_:(F54 n b without).length ≤ 9223372036854775807)=>ai (ai (rfl) (ai (rfl) (ai (rfl) (ai (rfl) (ai (rfl) (ai ((Imp.refl _)) (ai ((Imp.refl _)) (ai ((Imp.refl _)) (ai ((Imp.refl _)) ((ai (rfl:runL (F62_s1 n a b without way last) ((((F54 n b without).length:Int) - 0).toNat + 1) (last,0)=(runL (F62_s1 n a b without way last) ((((F54 n b without).length:Int) - 0).toNat + 1) (last,0))) (ai ((Nat.lt_succ_self _:Int.toNat (((F54 n b without).length:Int) - 0) < ((((F54 n b without).length:Int) - 0).toNat + 1))) (ai ((by first | omega | (simp only [lens] at * <;> omega) | exact NoNext.zero | exact NoNext.nextU (by assumption) (by assumption) (by omega):last=last)) (ai ((by first | omega | (simp only [lens] at * <;> omega) | exact NoNext.zero | exact NoNext.nextU (by assumption) (by assumption) (by omega):NoNext n (F54 n b without) without last 0)) ((by first | omega | (simp only [lens] at * <;> omega) | exact NoNext.zero | exact NoNext.nextU (by assumption) (by assumption) (by omega):(0:Int) ≤ 0))))))))))))))):((.int .i64 b:Value)=.int .i64 b)∧((.int .i64 without:Value)=.int .i64 without)∧((.int .i64 last:Value)=.int .i64 last)∧((.int .i64 ((F54 n b without).length:Int):Value)=.int .i64 ((F54 n b without).length:Int))∧((.int .i64 0:Value)=.int .i64 0)∧(Imp (.l 2 eLabLink n.Links) (.l 2 eLabLink n.Links))∧(Imp (.l 2 eLabBox n.Boxes) (.l 2 eLabBox n.Boxes))∧(Imp (.l 1 eInt (F54 n b without)) (.l 1 eInt (F54 n b without)))∧(Imp (.l 1 eInt way) (.l 1 eInt way))∧(runL (F62_s1 n a b without way last) ((((F54 n b without).length:Int) - 0).toNat + 1) (last,0)=(runL (F62_s1 n a b without way last) ((((F54 n b without).length:Int) - 0).toNat + 1) (last,0))∧Int.toNat (((F54 n b without).length:Int) - 0) < ((((F54 n b without).length:Int) - 0).toNat + 1)∧last=last∧NoNext n (F54 n b without) without last 0∧(0:Int) ≤ 0)) (fun (i1:Nat × (Int × Int)) (hi1:runL (F62_s1 n a b without way last) i1.1 i1.2=(runL (F62_s1 n a b without way last) ((((F54 n b without).length:Int) - 0).toNat + 1) (last,0))∧(fun (last2:Int) (v45:Int)=>(Int.toNat (((F54 n b without).length:Int) - v45) < i1.1∧last2=last∧NoNext n (F54 n b without) without last2 v45∧(0:Int) ≤ v45)) i1.2.1 i1.2.2)=>(fun (m1:Nat) (last2:Int) (v45:Int) (hI1:runL (F62_s1 n a b without way last) (m1 + 1) (last2,v45)=(runL (F62_s1 n a b without way last) ((((F54 n b without).length:Int) - 0).toNat + 1) (last,0))) (_:Int.toNat (((F54 n b without).length:Int) - v45) < m1 + 1) (hl1:m1 < i1.1) (_:last2=last) (_:NoNext n (F54 n b without) without last2 v45) (_:(0:Int) ≤ v45)=>ai (fun h14:(decide (v45 < ((F54 n b without).length:Int)))=true=>(fun _:v45 < ((F54 n b without).length:Int)=>ai (((by first | assumption | exact NetOk.frame (by assumption):FrameOk n))) (ai ((Imps.refl (eLabNet n))) (ai ((Imp.refl (.v (vI last2)))) (ai ((Imp.refl (.v (vI v45)))) (ai ((Imp.refl (.v (vI without)))) (ai ((fun k15:(decide (0 ≤ linkOf n last2 v45∧linkOf n last2 v45 ≠ without))=true=>(fun _:0 ≤ linkOf n last2 v45∧linkOf n last2 v45 ≠ without=>(by first | omega | (simp only [lens] at * <;> omega):0 ≤ v45∧v45 < ((F54 n b without).length:Int))) (of_decide_eq_true k15))) (ai ((fun k16:(decide (0 ≤ linkOf n last2 v45∧linkOf n last2 v45 ≠ without))=true=>(fun _:0 ≤ linkOf n last2 v45∧linkOf n last2 v45 ≠ without=>(by first | omega | (simp only [lens] at * <;> omega):0 ≤ last2∧last2 < ((F54 n b without).length:Int))) (of_decide_eq_true k16))) (ai (fun h17:(bif (decide (0 ≤ linkOf n last2 v45∧linkOf n last2 v45 ≠ without)) then (((F54 n b without).getD v45.toNat default) == (IntKind.i64.wrap (((F54 n b without).getD last2.toNat default) - 1))) else false)=true=>(fun _:((F54 n b without).getD v45.toNat default)=(IntKind.i64.wrap (((F54 n b without).getD last2.toNat default) - 1))=>(fun _:0 ≤ linkOf n last2 v45∧linkOf n last2 v45 ≠ without=>(fun hD1_18:(runL (F62_s1 n a b without way last) ((((F54 n b without).length:Int) - 0).toNat + 1) (last,0))=Lp.done (v45,v45)=>Exists.intro (p := fun j:Int=>(fun (last1_:Int)=>(((.int .i64 b:Value)=.int .i64 b)∧((.int .i64 without:Value)=.int .i64 without)∧((.int .i64 (v45):Value)=.int .i64 last1_)∧(Imp (.l 2 eLabLink n.Links) (.l 2 eLabLink n.Links))∧(Imp (.l 2 eLabBox n.Boxes) (.l 2 eLabBox n.Boxes))∧(Imp (.l 1 eInt (F54 n b without)) (.l 1 eInt (F54 n b without)))∧(Imp (.l 1 eInt way) (.l 1 eInt way))∧(F62_j2 n a b without way last)=Lp.done j∧(0 ≤ last1_∧last1_ < (n.Boxes.length:Int))∧(F54 n b without).getD last1_.toNat default=(F54 n b without).getD last.toNat default - 1)) j) (v45) (ai (rfl) (ai (rfl) (ai (rfl) (ai ((Imp.refl _)) (ai ((Imp.refl _)) (ai ((Imp.refl _)) (ai ((Imp.refl _)) (ai (Eq.symm (finD hD1_18 (rfl))) (ai ((by first | omega | (simp only [lens] at * <;> omega) | (subst_vars; exact nextB_U (by assumption) (by assumption) (by assumption) (by omega) (by omega)) | (exfalso; subst_vars; exact noNext_absurdU (by assumption) (by assumption) (by assumption) (by assumption) (by omega) (by omega) (by omega) (by omega)):0 ≤ (v45)∧(v45) < (n.Boxes.length:Int))) ((by first | omega | (simp only [lens] at * <;> omega) | (subst_vars; exact nextB_U (by assumption) (by assumption) (by assumption) (by omega) (by omega)) | (exfalso; subst_vars; exact noNext_absurdU (by assumption) (by assumption) (by assumption) (by assumption) (by omega) (by omega) (by omega) (by omega)):(F54 n b without).getD (v45).toNat default=(F54 n b without).getD last.toNat default - 1)))))))))))) (runL_done hI1 (condT h14 (condT h17 (rfl))))) (of_decide_eq_true (andT1 h17))) (eq_of_beq (andT2 h17))) (fun h17:(bif (decide (0 ≤ linkOf n last2 v45∧linkOf n last2 v45 ≠ without)) then (((F54 n b without).getD v45.toNat default) == (IntKind.i64.wrap (((F54 n b without).getD last2.toNat default) - 1))) else false)=false=>ai ((by unfold i64ok; first | omega | (simp only [lens] at * <;> omega):i64ok (v45 + 1))) (Exists.intro (p := fun j:Nat × (Int × Int)=>(fun (last2_:Int) (v45_:Int)=>(((.int .i64 b:Value)=.int .i64 b)∧((.int .i64 without:Value)=.int .i64 without)∧((.int .i64 last2:Value)=.int .i64 last2_)∧((.int .i64 ((F54 n b without).length:Int):Value)=.int .i64 ((F54 n b without).length:Int))∧((.int .i64 (v45 + 1):Value)=.int .i64 v45_)∧(Imp (.l 2 eLabLink n.Links) (.l 2 eLabLink n.Links))∧(Imp (.l 2 eLabBox n.Boxes) (.l 2 eLabBox n.Boxes))∧(Imp (.l 1 eInt (F54 n b without)) (.l 1 eInt (F54 n b without)))∧(Imp (.l 1 eInt way) (.l 1 eInt way))∧((runL (F62_s1 n a b without way last) j.1 j.2=(runL (F62_s1 n a b without way last) ((((F54 n b without).length:Int) - 0).toNat + 1) (last,0))∧Int.toNat (((F54 n b without).length:Int) - v45_) < j.1∧last2_=last∧NoNext n (F54 n b without) without last2_ v45_∧(0:Int) ≤ v45_)∧j.1 < i1.1))) j.2.1 j.2.2) (m1,(last2,(v45 + 1))) (ai (rfl) (ai (rfl) (ai (rfl) (ai (rfl) (ai (rfl) (ai ((Imp.refl _)) (ai ((Imp.refl _)) (ai ((Imp.refl _)) (ai ((Imp.refl _)) (ai (ai (runL_next hI1 (condT h14 (condF h17 (rfl)))) (ai ((by first | omega | (simp only [lens] at * <;> omega) | exact NoNext.zero | exact NoNext.nextU (by assumption) (by assumption) (by omega):Int.toNat (((F54 n b without).length:Int) - (v45 + 1)) < m1)) (ai ((by first | omega | (simp only [lens] at * <;> omega) | exact NoNext.zero | exact NoNext.nextU (by assumption) (by assumption) (by omega):last2=last)) (ai ((by first | omega | (simp only [lens] at * <;> omega) | exact NoNext.zero | exact NoNext.nextU (by assumption) (by assumption) (by omega):NoNext n (F54 n b without) without last2 (v45 + 1))) ((by first | omega | (simp only [lens] at * <;> omega) | exact NoNext.zero | exact NoNext.nextU (by assumption) (by assumption) (by omega):(0:Int) ≤ (v45 + 1))))))) hl1)))))))))))))))))))) (of_decide_eq_true h14)) (fun h14:(decide (v45 < ((F54 n b without).length:Int)))=false=>(fun _:¬ v45 < ((F54 n b without).length:Int)=>(fun hD1_19:(runL (F62_s1 n a b without way last) ((((F54 n b without).length:Int) - 0).toNat + 1) (last,0))=Lp.done (last2,v45)=>Exists.intro (p := fun j:Int=>(fun (last1_:Int)=>(((.int .i64 b:Value)=.int .i64 b)∧((.int .i64 without:Value)=.int .i64 without)∧((.int .i64 last2:Value)=.int .i64 last1_)∧(Imp (.l 2 eLabLink n.Links) (.l 2 eLabLink n.Links))∧(Imp (.l 2 eLabBox n.Boxes) (.l 2 eLabBox n.Boxes))∧(Imp (.l 1 eInt (F54 n b without)) (.l 1 eInt (F54 n b without)))∧(Imp (.l 1 eInt way) (.l 1 eInt way))∧(F62_j2 n a b without way last)=Lp.done j∧(0 ≤ last1_∧last1_ < (n.Boxes.length:Int))∧(F54 n b without).getD last1_.toNat default=(F54 n b without).getD last.toNat default - 1)) j) (last2) (ai (rfl) (ai (rfl) (ai (rfl) (ai ((Imp.refl _)) (ai ((Imp.refl _)) (ai ((Imp.refl _)) (ai ((Imp.refl _)) (ai (Eq.symm (finD hD1_19 (rfl))) (ai ((by first | omega | (simp only [lens] at * <;> omega) | (subst_vars; exact nextB_U (by assumption) (by assumption) (by assumption) (by omega) (by omega)) | (exfalso; subst_vars; exact noNext_absurdU (by assumption) (by assumption) (by assumption) (by assumption) (by omega) (by omega) (by omega) (by omega)):0 ≤ last2∧last2 < (n.Boxes.length:Int))) ((by first | omega | (simp only [lens] at * <;> omega) | (subst_vars; exact nextB_U (by assumption) (by assumption) (by assumption) (by omega) (by omega)) | (exfalso; subst_vars; exact noNext_absurdU (by assumption) (by assumption) (by assumption) (by assumption) (by omega) (by omega) (by omega) (by omega)):(F54 n b without).getD last2.toNat default=(F54 n b without).getD last.toNat default - 1)))))))))))) (runL_done hI1 (condF h14 (rfl)))) (of_decide_eq_false h14))) (i1.1 - 1) i1.2.1 i1.2.2 (hd1 hi1.1 hi1.2.1) (hd2 hi1.2.1) (hd3 hi1.2.1) hi1.2.2.1 hi1.2.2.2.1 hi1.2.2.2.2)) (fun (j:Int) (hj:(fun (last1:Int)=>((F62_j2 n a b without way last)=Lp.done j∧(0 ≤ last1∧last1 < (n.Boxes.length:Int))∧(F54 n b without).getD last1.toNat default=(F54 n b without).getD last.toNat default - 1)) j)=>(fun (last1:Int) (hJ2_20:(F62_j2 n a b without way last)=Lp.done last1) (_:0 ≤ last1∧last1 < (n.Boxes.length:Int)) (_:(F54 n b without).getD last1.toNat default=(F54 n b without).getD last.toNat default - 1)=>ai ((AppA.mk eInt way [last1] (Imp.refl (.l 1 eInt way)) rfl (by exact ai (Imp.refl _) (trivial)) (fun _=>rfl):AppA (.l 1 eInt way) 1 1 [.v (vI last1)] (.l 1 eInt (way ++ [last1])))) (ai ((by (try simp only [lens]); omega:((way ++ [last1])).length * 8 ≤ 140737488355328)) (Exists.intro (p := fun j:Nat × (List Int × Int)=>(fun (way_:List Int) (last_:Int)=>(((.int .i64 b:Value)=.int .i64 b)∧((.int .i64 without:Value)=.int .i64 without)∧((.int .i64 last1:Value)=.int .i64 last_)∧(Imp (.l 2 eLabLink n.Links) (.l 2 eLabLink n.Links))∧(Imp (.l 2 eLabBox n.Boxes) (.l 2 eLabBox n.Boxes))∧(Imp (.l 1 eInt (F54 n b without)) (.l 1 eInt (F54 n b without)))∧(Imp (.l 1 eInt (way ++ [last1])) (.l 1 eInt way_))∧((runL (F62_s0 n a b without) j.1 j.2=(runL (F62_s0 n a b without) (((F54 n b without).getD a.toNat default).toNat + 1) (([a]:List Int),a))∧Int.toNat ((F54 n b without).getD last_.toNat default) < j.1∧(0 ≤ last_∧last_ < (n.Boxes.length:Int))∧0 ≤ (F54 n b without).getD last_.toNat default∧(way_.length:Int) + (F54 n b without).getD last_.toNat default ≤ 8)∧j.1 < i0.1))) j.2.1 j.2.2) (m0,((way ++ [last1]),last1)) (ai (rfl) (ai (rfl) (ai (rfl) (ai ((Imp.refl _)) (ai ((Imp.refl _)) (ai ((Imp.refl _)) (ai ((Imp.refl _)) (ai (ai (runL_next hI0 (condT h12 (finD hJ2_20 (rfl)))) (ai ((by first | omega | (simp only [lens] at * <;> omega) | (have hl := IsDist.lt (by assumption) (k := a) (by omega) (by omega); (try simp only [lens]); omega) | (have hp := IsDist.pos (by assumption) (k := last) (by omega) (by omega) (by assumption) (by omega); (try simp only [lens]); omega):Int.toNat ((F54 n b without).getD last1.toNat default) < m0)) (ai ((by first | omega | (simp only [lens] at * <;> omega) | (have hl := IsDist.lt (by assumption) (k := a) (by omega) (by omega); (try simp only [lens]); omega) | (have hp := IsDist.pos (by assumption) (k := last) (by omega) (by omega) (by assumption) (by omega); (try simp only [lens]); omega):0 ≤ last1∧last1 < (n.Boxes.length:Int))) (ai ((by first | omega | (simp only [lens] at * <;> omega) | (have hl := IsDist.lt (by assumption) (k := a) (by omega) (by omega); (try simp only [lens]); omega) | (have hp := IsDist.pos (by assumption) (k := last) (by omega) (by omega) (by assumption) (by omega); (try simp only [lens]); omega):0 ≤ (F54 n b without).getD last1.toNat default)) ((by first | omega | (simp only [lens] at * <;> omega) | (have hl := IsDist.lt (by assumption) (k := a) (by omega) (by omega); (try simp only [lens]); omega) | (have hp := IsDist.pos (by assumption) (k := last) (by omega) (by omega) (by assumption) (by omega); (try simp only [lens]); omega):((way ++ [last1]).length:Int) + (F54 n b without).getD last1.toNat default ≤ 8)))))) hl0))))))))))) j hj.1 hj.2.1 hj.2.2)) (bneT h12)) (fun h12:(last != b)=false=>(fun _:last=b=>(fun hD0_21:(runL (F62_s0 n a b without) (((F54 n b without).getD a.toNat default).toNat + 1) (([a]:List Int),a))=Lp.done (way,last)=>(fun hF:(way:List Int)=(F62 n a b without)=>ai (Imp.of_eq (congrArg (fun r:List Int=>Dat.l 1 eInt r) hF)) (trivial)) (condF h7 (condF h10 (finD hD0_21 (rfl))))) (runL_done hI0 (condF h12 (rfl)))) (bneF h12))) (i0.1 - 1) i0.2.1 i0.2.2 (hd1 hi0.1 hi0.2.1) (hd2 hi0.2.1) (hd3 hi0.2.1) hi0.2.2.1 hi0.2.2.2.1 hi0.2.2.2.2))) (of_decide_eq_false h10)))) (far_len n b without (by first | assumption | exact NetOk.frame (by assumption):FrameOk n) (by first | omega | (simp only [lens] at * <;> omega):0 ≤ b) (by first | omega | (simp only [lens] at * <;> omega):b < (n.Boxes.length:Int)))) (far_isDist n b without (by first | assumption | exact NetOk.frame (by assumption):FrameOk n) (by first | omega | (simp only [lens] at * <;> omega):0 ≤ b) (by first | omega | (simp only [lens] at * <;> omega):b < (n.Boxes.length:Int)))))))) (netB_T n (notEF (orF1 (orF1 h7))))) (netB_8 n (notEF (orF1 (orF1 h7))))) (netB_14 n (notEF (orF1 (orF1 h7))))) (of_decide_eq_true (notEF (orF2 (orF1 h7))))) (of_decide_eq_true (notEF (orF2 h7))))))))))))) (by kernel_rfl)
end Go.Proofs.YtmiolofjlfnohaaGreat
namespace Go.Proofs.YtmiolofjlfnohaaGreat
open Go.RowKit
set_option maxRecDepth 100000
set_option linter.unusedVariables false
set_option linter.unusedSimpArgs false
theorem search_break {τ ρ : Type} {step : τ → Lp τ ρ} (emb : Nat → τ) (p : Nat → Bool) {n k0 : Nat} (h : first p n = some k0) (hs : ∀ k, k < n → p k = false → step (emb k) = .next (emb (k + 1))) (x : τ) (hd : step (emb k0) = .done x) : ∀ (m k : Nat), k + m = k0 → ∀ M, m < M → runL step M (emb k) = .done x
 | 0, k, hk, M, hM => by
  obtain ⟨M, rfl⟩ : ∃ M', M = M' + 1 := ⟨M - 1, by omega⟩
  obtain rfl : k = k0 := by omega
  simp only [runL, hd]
 | m + 1, k, hk, M, hM => by
  obtain ⟨M, rfl⟩ : ∃ M', M = M' + 1 := ⟨M - 1, by omega⟩
  obtain ⟨h1, h2, h3⟩ := first_some.1 h
  simp only [runL, hs k (by omega) (h3 k (by omega))]
  exact search_break emb p h hs x hd m (k + 1) (by omega) M (by omega)
def wayGo (n : LabNet) (f : List Int) (w : Int) : Nat → Int → List Int
 | 0, _ => []
 | m + 1, x => nextOf n f x w :: wayGo n f w m (nextOf n f x w)
theorem wayGo_len (n : LabNet) (f : List Int) (w : Int) : ∀ (m : Nat) (x : Int), (wayGo n f w m x).length = m
 | 0, _ => rfl
 | m + 1, x => by simp only [wayGo, List.length_cons, wayGo_len n f w m]
def wayOf (n : LabNet) (a b w : Int) : List Int := bif decide ((F54 n b w).getD a.toNat default < 0) then [] else a :: wayGo n (F54 n b w) w ((F54 n b w).getD a.toNat default).toNat a
theorem specWay_go (n : LabNet) (a b w : Int) : ∀ (m : Nat) (out : List Int) (x : Int), (runL (F25_s0 n a b w) (m + 1) (out, x, (m : Int))).fin (fun r => r) (fun s => s.1) = out ++ wayGo n (F54 n b w) w m x
 | 0, out, x => by simp [runL, F25_s0, Lp.fin, wayGo]
 | m + 1, out, x => by
  have hc : decide (((m + 1 : Nat) : Int) > 0) = true := decide_eq_true (by omega)
  rw [runL]
  simp only [F25_s0, hc, cond_true]
  have e : ((m + 1 : Nat) : Int) - 1 = (m : Int) := by omega
  rw [e]
  refine (specWay_go n a b w m _ _).trans ?_
  simp [wayGo]
theorem specWay_eq (n : LabNet) (a b w : Int) : F25 n a b w = wayOf n a b w := by
 unfold F25 wayOf
 by_cases h : (F54 n b w).getD a.toNat default < 0
 ·rw [decide_eq_true h]; rfl
 ·rw [decide_eq_false h]
  simp only [cond_false]
  have e : (F54 n b w).getD a.toNat default = ((Int.toNat ((F54 n b w).getD a.toNat default) : Nat) : Int) := by omega
  have h2 := specWay_go n a b w ((F54 n b w).getD a.toNat default).toNat [a] a
  rw [← e] at h2
  exact h2
theorem implWay_next {n : LabNet} (hf : FrameOk n) (a b w : Int) (hb0 : 0 ≤ b) (hb1 : b < (n.Boxes.length : Int)) (way : List Int) {x : Int} (h0 : 0 ≤ x) (h1 : x < (n.Boxes.length : Int)) (hd : 0 < (F54 n b w).getD x.toNat default) :
  F62_j2 n a b w way x = .done (nextOf n (F54 n b w) x w) := by
 have hD := far_isDist n b w hf hb0 hb1
 obtain ⟨n1, n2, n3, n4, n5⟩ := nextOf_ok hD hf.b8 h0 h1 hd
 unfold F62_j2
 rw [n0, hD.ln]
 have hfirst : first (fun k => nextB n (F54 n b w) w x (k : Int)) n.Boxes.length = some (nextOf n (F54 n b w) x w).toNat :=
  first_some.2 ⟨by omega, by show nextB _ _ _ _ _ = true; rw [Int.toNat_of_nonneg n1]; exact n4, fun j hj => n5 j (by omega)⟩
 have := search_break (step := F62_s1 n a b w way x) (fun k => (x, (k : Int))) _ hfirst (fun k hk hp => by
   unfold nextB at hp
   simp only [F62_s1, hD.ln, ltD hk, cond_true, hp, cond_false]
   rfl) (nextOf n (F54 n b w) x w, nextOf n (F54 n b w) x w) (by
   have hp := n4
   unfold nextB at hp
   have hc : decide (nextOf n (F54 n b w) x w < ((F54 n b w).length : Int)) = true := decide_eq_true (by rw [hD.ln]; omega)
   simp only [F62_s1, Int.toNat_of_nonneg n1, hc, cond_true, hp]) (Int.toNat (nextOf n (F54 n b w) x w)) 0 (by omega) (n.Boxes.length + 1) (by omega)
 have this : runL (F62_s1 n a b w way x) (n.Boxes.length + 1) (x, 0) = _ := this
 rw [this]; rfl
theorem implWay_go {n : LabNet} (hf : FrameOk n) (a b w : Int) (hb0 : 0 ≤ b) (hb1 : b < (n.Boxes.length : Int)) : ∀ (m : Nat) (way : List Int) (x : Int), 0 ≤ x → x < (n.Boxes.length : Int) → (F54 n b w).getD x.toNat default = (m : Int) →
  (runL (F62_s0 n a b w) (m + 1) (way, x)).fin (fun r => r) (fun s => s.1) = way ++ wayGo n (F54 n b w) w m x
 | 0, way, x, h0, h1, hd => by
  have hD := far_isDist n b w hf hb0 hb1
  have := hD.zero x.toNat (by omega) hd
  have hx : (x != b) = false := by
   have : x = b := by omega
   simp [this]
  simp [runL, F62_s0, hx, Lp.fin, wayGo]
 | m + 1, way, x, h0, h1, hd => by
  have hD := far_isDist n b w hf hb0 hb1
  have hx : (x != b) = true := by
   have : x ≠ b := fun e => by rw [e, hD.b0] at hd; omega
   simp [this]
  obtain ⟨n1, n2, n3, _⟩ := nextOf_ok hD hf.b8 h0 h1 (by omega)
  rw [runL]
  simp only [F62_s0, hx, cond_true, implWay_next hf a b w hb0 hb1 way h0 h1 (by omega), Lp.fin]
  refine (implWay_go hf a b w hb0 hb1 m _ _ n1 n2 (by rw [n3, hd]; omega)).trans ?_
  simp [wayGo]
def labWay (n : LabNet) (a b w : Int) : List Int := bif netB n && (decide (0 ≤ a ∧ a ≤ (n.Boxes.length : Int) - 1) && decide (0 ≤ b ∧ b ≤ (n.Boxes.length : Int) - 1)) then wayOf n a b w else []
theorem as62 (n : LabNet) (a b w : Int) : F62 n a b w = labWay n a b w := by
 unfold F62 labWay
 cases hn : netB n
 ·rfl
 ·have hf := (netB_T n hn).frame
  by_cases ha : 0 ≤ a ∧ a ≤ (n.Boxes.length : Int) - 1
  ·by_cases hb : 0 ≤ b ∧ b ≤ (n.Boxes.length : Int) - 1
   ·rw [decide_eq_true ha, decide_eq_true hb]
    simp only [Bool.not_true, cond_false, Bool.and_self, cond_true]
    unfold wayOf
    by_cases h : (F54 n b w).getD a.toNat default < 0
    ·rw [decide_eq_true h]; rfl
    ·rw [decide_eq_false h]
     simp only [cond_false]
     exact implWay_go hf a b w hb.1 (by omega) _ [a] a ha.1 (by omega) (by omega)
   ·rw [decide_eq_true ha, decide_eq_false hb]; rfl
  ·rw [decide_eq_false ha]; rfl
theorem as25 (n : LabNet) (a b w : Int) : F25 n a b w = wayOf n a b w := specWay_eq n a b w
theorem wayOf_len {n : LabNet} (hf : FrameOk n) {a b : Int} (w : Int) (ha0 : 0 ≤ a) (ha1 : a < (n.Boxes.length : Int)) (hb0 : 0 ≤ b) (hb1 : b < (n.Boxes.length : Int)) : (wayOf n a b w).length ≤ n.Boxes.length := by
 have hD := far_isDist n b w hf hb0 hb1
 unfold wayOf
 by_cases h : (F54 n b w).getD a.toNat default < 0
 ·rw [decide_eq_true h]; exact Nat.zero_le _
 ·rw [decide_eq_false h]
  simp only [cond_false, List.length_cons, wayGo_len]
  have := (hD.lt ha0 ha1).2
  omega
end Go.Proofs.YtmiolofjlfnohaaGreat
namespace Go.Proofs.YtmiolofjlfnohaaGreat
open Go.RowKit
set_option maxRecDepth 100000
set_option linter.unusedVariables false
set_option linter.unusedSimpArgs false
theorem oa25 (n:LabNet) (a:Int) (b:Int) (without:Int):(S25 (wayOf n a b without) n a b without).ok Tryz.prog 25 := by
 intro hp; have h := ok25 n a b without hp; rw [as25 n a b without] at h; exact h
theorem oa62 (n:LabNet) (a:Int) (b:Int) (without:Int):(S62 (labWay n a b without) n a b without).ok Tryz.prog 62 := by
 intro hp; have h := ok62 n a b without hp; rw [as62 n a b without] at h; exact h
def F103_s0 (s:List Int) (v1:Int):Int → Lp Int Int := fun v8 =>
 bif (decide (v8 < (s.length:Int))) then (bif (v1 == (s.getD v8.toNat default)) then (.ret v8) else (.next (v8 + 1))) else (.done v8)
def F103 (s:List Int) (v1:Int):Int :=
 (runL (F103_s0 s v1) (((s.length:Int) - 0).toNat + 1) 0).fin (fun r=>r) (fun v8=>(-1))
def S103 (R:Int) (s:List Int) (v1:Int):Spec := ⟨[.r (.c (.l 1 eInt s)),.r (.c (.v (vI v1)))],.v (vI R),True⟩
theorem ok103 (s:List Int) (v1:Int):(S103 (F103 s v1) s v1).ok Tryz.prog 103 :=
 fnG_ok mixed (fn := Tryz.f103) (ct := .seqk [(0,0)] (.no) (.seq (.seqk [(0,0)] (.no) (.blk (.loop (ι := Nat × Int) (fun i=>(fun (v8:Int)=>(⟨[(0,some (.h 0 0)),(1,some (.v (vI v1))),(7,some (.v (vI (s.length:Int)))),(8,some (.v (vI v8)))],[(0,some (.shr none (.l 1 eInt s)))],1⟩:St)) i.2) (fun i=>runL (F103_s0 s v1) i.1 i.2=(runL (F103_s0 s v1) (((s.length:Int) - 0).toNat + 1) 0)∧(fun (v8:Int)=>(Int.toNat ((s.length:Int) - v8) < i.1∧(0:Int) ≤ v8)) i.2) (fun i=>i.1) ((((s.length:Int) - 0).toNat + 1),0) (fun i=>(fun (v8:Int)=>(.seq (.no) (.seq (.cond (.no) (.no)) (.seq (.blk (.seq (.no) (.seq (.no) (.cond (.seq (.no) (.no)) (.no))))) (.reg [(0,.bnd)]))))) i.2)))) (.seq (.no) (.no)))) Tryz.func103 (fun (_:True)=>fun (_:s.length ≤ 9223372036854775807)=>fun (_:s.length ≤ 9223372036854775807)=>ai (ai (rfl) (ai (rfl) (ai (rfl) (ai ((Imp.refl _)) ((ai (rfl:runL (F103_s0 s v1) (((s.length:Int) - 0).toNat + 1) 0=(runL (F103_s0 s v1) (((s.length:Int) - 0).toNat + 1) 0)) (ai ((Nat.lt_succ_self _:Int.toNat ((s.length:Int) - 0) < (((s.length:Int) - 0).toNat + 1))) ((by omega:(0:Int) ≤ 0)))))))):((.int .i64 v1:Value)=.int .i64 v1)∧((.int .i64 (s.length:Int):Value)=.int .i64 (s.length:Int))∧((.int .i64 0:Value)=.int .i64 0)∧(Imp (.l 1 eInt s) (.l 1 eInt s))∧(runL (F103_s0 s v1) (((s.length:Int) - 0).toNat + 1) 0=(runL (F103_s0 s v1) (((s.length:Int) - 0).toNat + 1) 0)∧Int.toNat ((s.length:Int) - 0) < (((s.length:Int) - 0).toNat + 1)∧(0:Int) ≤ 0)) (fun (i0:Nat × Int) (hi0:runL (F103_s0 s v1) i0.1 i0.2=(runL (F103_s0 s v1) (((s.length:Int) - 0).toNat + 1) 0)∧(fun (v8:Int)=>(Int.toNat ((s.length:Int) - v8) < i0.1∧(0:Int) ≤ v8)) i0.2)=>(fun (m0:Nat) (v8:Int) (hI0:runL (F103_s0 s v1) (m0 + 1) v8=(runL (F103_s0 s v1) (((s.length:Int) - 0).toNat + 1) 0)) (_:Int.toNat ((s.length:Int) - v8) < m0 + 1) (hl0:m0 < i0.1) (_:(0:Int) ≤ v8)=>ai (fun h2:(decide (v8 < (s.length:Int)))=true=>(fun _:v8 < (s.length:Int)=>ai ((by omega:0 ≤ v8∧v8 < (s.length:Int))) (ai (fun h3:(v1 == (s.getD v8.toNat default))=true=>(fun _:v1=(s.getD v8.toNat default)=>(fun hF:(v8:Int)=(F103 s v1)=>ai (congrArg (fun r:Int=>(.int .i64 r:Value)) hF) (trivial)) (finR (runL_ret hI0 (condT h2 (condT h3 (rfl)))) rfl)) (eq_of_beq h3)) (fun h3:(v1 == (s.getD v8.toNat default))=false=>(fun _:¬ v1=(s.getD v8.toNat default)=>ai ((by unfold i64ok; omega:i64ok (v8 + 1))) (Exists.intro (p := fun j:Nat × Int=>(fun (v8_:Int)=>(((.int .i64 v1:Value)=.int .i64 v1)∧((.int .i64 (s.length:Int):Value)=.int .i64 (s.length:Int))∧((.int .i64 (v8 + 1):Value)=.int .i64 v8_)∧(Imp (.l 1 eInt s) (.l 1 eInt s))∧((runL (F103_s0 s v1) j.1 j.2=(runL (F103_s0 s v1) (((s.length:Int) - 0).toNat + 1) 0)∧Int.toNat ((s.length:Int) - v8_) < j.1∧(0:Int) ≤ v8_)∧j.1 < i0.1))) j.2) (m0,(v8 + 1)) (ai (rfl) (ai (rfl) (ai (rfl) (ai ((Imp.refl _)) (ai (ai (runL_next hI0 (condT h2 (condF h3 (rfl)))) (ai ((by omega:Int.toNat ((s.length:Int) - (v8 + 1)) < m0)) ((by omega:(0:Int) ≤ (v8 + 1))))) hl0))))))) (beqF h3)))) (of_decide_eq_true h2)) (fun h2:(decide (v8 < (s.length:Int)))=false=>(fun _:¬ v8 < (s.length:Int)=>(fun hD0_4:(runL (F103_s0 s v1) (((s.length:Int) - 0).toNat + 1) 0)=Lp.done v8=>(fun hF:((-1):Int)=(F103 s v1)=>ai (congrArg (fun r:Int=>(.int .i64 r:Value)) hF) (trivial)) (finD hD0_4 (rfl))) (runL_done hI0 (condF h2 (rfl)))) (of_decide_eq_false h2))) (i0.1 - 1) i0.2 (hd1 hi0.1 hi0.2.1) (hd2 hi0.2.1) (hd3 hi0.2.1) hi0.2.2)) (by kernel_rfl)
theorem as103 (s:List Int) (v1:Int):F103 s v1=(idxI (fun y=>decide (v1=y)) s) := by
 exact idx_loop (fun y=>decide (v1=y)) s (F103_s0 s v1) (fun i=>by simp only [F103_s0,beqD])
theorem oa103 (s:List Int) (v1:Int):(S103 (idxI (fun y=>decide (v1=y)) s) s v1).ok Tryz.prog 103 := by
 intro hp; have h := ok103 s v1 hp; rw [as103 s v1] at h; exact h
def F89 (s:List Int) (v1:Int):Bool :=
 decide ((idxI (fun y=>decide (v1=y)) s) ≥ 0)
def S89 (R:Bool) (s:List Int) (v1:Int):Spec := ⟨[.r (.c (.l 1 eInt s)),.r (.c (.v (vI v1)))],.v (.bool R),True⟩
theorem ok89 (s:List Int) (v1:Int):(S89 (F89 s v1) s v1).ok Tryz.prog 89 :=
 fnG_ok mixed (fn := Tryz.f89) (ct := .seqk [(0,0)] (.no) (.seq (.reg [(2,.call 103 (S103 (idxI (fun y=>decide (v1=y)) s) s v1) (oa103 s v1) none)]) (.no))) Tryz.func89 (fun (_:True)=>fun (_:s.length ≤ 9223372036854775807)=>ai (trivial) (ai ((Imp.refl (.l 1 eInt s))) (ai ((Imp.refl (.v (vI v1)))) ((fun hF:(decide ((idxI (fun y=>decide (v1=y)) s) ≥ 0):Bool)=(F89 s v1)=>ai (congrArg (fun r:Bool=>(.bool r:Value)) hF) (trivial)) (rfl))))) (by kernel_rfl)
theorem as89 (s:List Int) (v1:Int):F89 s v1=(decide (v1 ∈ s)) := by
 exact (any_idx (fun y=>decide (v1=y)) s).trans (mem_idx v1 s)
theorem oa89 (s:List Int) (v1:Int):(S89 (decide (v1 ∈ s)) s v1).ok Tryz.prog 89 := by
 intro hp; have h := ok89 s v1 hp; rw [as89 s v1] at h; exact h
def F68_s0 (n:LabNet) (path:List Int):Int → Lp Int Bool := fun v16 =>
 bif (decide (v16 < (path.length:Int))) then (bif (bif (decide ((path.getD v16.toNat default) ∈ (path.take v16.toNat))) then true else (bif decide (v16 > 0) then decide ((linkOf n (path.getD (v16 - 1).toNat default) (path.getD v16.toNat default)) < 0) else false)) then (.ret false) else (.next (v16 + 1))) else (.done v16)
def F68 (n:LabNet) (path:List Int):Bool :=
 bif (!(decide (2 ≤ (path.length:Int)∧(path.length:Int) ≤ (n.Boxes.length:Int)))) then false else ((runL (F68_s0 n path) (((path.length:Int) - 0).toNat + 1) 0).fin (fun r=>r) (fun v16=>true))
def S68 (R:Bool) (n:LabNet) (path:List Int):Spec := ⟨[.r (.g (eLabNet n)),.r (.c (.l 1 eInt path))],.v (.bool R),FrameOk n⟩
theorem ok68 (n:LabNet) (path:List Int):(S68 (F68 n path) n path).ok Tryz.prog 68 :=
 fnG_ok mixed (fn := Tryz.f68) (ct := .seqk [(1,0)] (.no) (.seq (.seq (.reg [(5,.call 27 (S27 (decide (2 ≤ (path.length:Int)∧(path.length:Int) ≤ (n.Boxes.length:Int))) (path.length:Int) 2 (n.Boxes.length:Int)) (oa27 (path.length:Int) 2 (n.Boxes.length:Int)) none)]) (.cond (.seq (.no) (.no)) (.no))) (.seq (.seqk [(1,0),(2,0),(2,1),(14,0)] (.no) (.blk (.loop (ι := Nat × Int) (fun i=>(fun (v16:Int)=>(⟨[(1,some (.h 0 0)),(2,some (.p 1 0)),(14,some (.h 0 0)),(15,some (.v (vI (path.length:Int)))),(16,some (.v (vI v16)))],[(0,some (.shr none (.l 1 eInt path))),(1,some (.box 26 [.h 2 0,.h 3 0])),(2,some (.shr none (.l 2 eLabLink n.Links))),(3,some (.shr none (.l 2 eLabBox n.Boxes)))],4⟩:St)) i.2) (fun i=>runL (F68_s0 n path) i.1 i.2=(runL (F68_s0 n path) (((path.length:Int) - 0).toNat + 1) 0)∧(fun (v16:Int)=>(Int.toNat ((path.length:Int) - v16) < i.1∧(0:Int) ≤ v16)) i.2) (fun i=>i.1) ((((path.length:Int) - 0).toNat + 1),0) (fun i=>(fun (v16:Int)=>(.seq (.no) (.seq (.cond (.no) (.no)) (.seq (.blk (.seq (.no) (.seq (.reg [(4,.call 89 (S89 (decide ((path.getD v16.toNat default) ∈ (path.take v16.toNat))) (path.take v16.toNat) (path.getD v16.toNat default)) (oa89 (path.take v16.toNat) (path.getD v16.toNat default)) none),(12,.bnd),(16,.call 48 (T48 (linkOf n (path.getD (v16 - 1).toNat default) (path.getD v16.toNat default)) n (path.getD (v16 - 1).toNat default) (path.getD v16.toNat default)) (oa48 n (path.getD (v16 - 1).toNat default) (path.getD v16.toNat default)) none)]) (.cond (.seq (.no) (.no)) (.no))))) (.reg [(0,.bnd)]))))) i.2)))) (.seq (.no) (.no))))) Tryz.func68 (fun (hpre0:FrameOk n)=>fun (_:path.length ≤ 9223372036854775807)=>ai (trivial) (ai ((Imp.refl (.v (vI (path.length:Int))))) (ai ((Imp.refl (.v (vI 2)))) (ai ((Imp.refl (.v (vI (n.Boxes.length:Int))))) (ai (fun h1:(!(decide (2 ≤ (path.length:Int)∧(path.length:Int) ≤ (n.Boxes.length:Int))))=true=>(fun _:¬ (2 ≤ (path.length:Int)∧(path.length:Int) ≤ (n.Boxes.length:Int))=>(fun hF:(false:Bool)=(F68 n path)=>ai (congrArg (fun r:Bool=>(.bool r:Value)) hF) (trivial)) (condT h1 (rfl))) (of_decide_eq_false (notET h1))) (fun h1:(!(decide (2 ≤ (path.length:Int)∧(path.length:Int) ≤ (n.Boxes.length:Int))))=false=>(fun _:2 ≤ (path.length:Int)∧(path.length:Int) ≤ (n.Boxes.length:Int)=>fun (_:path.length ≤ 9223372036854775807)=>fun (_:n.Links.length ≤ 9223372036854775807)=>fun (_:n.Boxes.length ≤ 9223372036854775807)=>fun (_:path.length ≤ 9223372036854775807)=>ai (ai (rfl) (ai (rfl) (ai ((Imp.refl _)) (ai ((Imp.refl _)) (ai ((Imp.refl _)) ((ai (rfl:runL (F68_s0 n path) (((path.length:Int) - 0).toNat + 1) 0=(runL (F68_s0 n path) (((path.length:Int) - 0).toNat + 1) 0)) (ai ((Nat.lt_succ_self _:Int.toNat ((path.length:Int) - 0) < (((path.length:Int) - 0).toNat + 1))) ((by first | omega | (simp only [lens] at * <;> omega):(0:Int) ≤ 0))))))))):((.int .i64 (path.length:Int):Value)=.int .i64 (path.length:Int))∧((.int .i64 0:Value)=.int .i64 0)∧(Imp (.l 1 eInt path) (.l 1 eInt path))∧(Imp (.l 2 eLabLink n.Links) (.l 2 eLabLink n.Links))∧(Imp (.l 2 eLabBox n.Boxes) (.l 2 eLabBox n.Boxes))∧(runL (F68_s0 n path) (((path.length:Int) - 0).toNat + 1) 0=(runL (F68_s0 n path) (((path.length:Int) - 0).toNat + 1) 0)∧Int.toNat ((path.length:Int) - 0) < (((path.length:Int) - 0).toNat + 1)∧(0:Int) ≤ 0)) (fun (i0:Nat × Int) (hi0:runL (F68_s0 n path) i0.1 i0.2=(runL (F68_s0 n path) (((path.length:Int) - 0).toNat + 1) 0)∧(fun (v16:Int)=>(Int.toNat ((path.length:Int) - v16) < i0.1∧(0:Int) ≤ v16)) i0.2)=>(fun (m0:Nat) (v16:Int) (hI0:runL (F68_s0 n path) (m0 + 1) v16=(runL (F68_s0 n path) (((path.length:Int) - 0).toNat + 1) 0)) (_:Int.toNat ((path.length:Int) - v16) < m0 + 1) (hl0:m0 < i0.1) (_:(0:Int) ≤ v16)=>ai (fun h3:(decide (v16 < (path.length:Int)))=true=>(fun _:v16 < (path.length:Int)=>ai ((by first | omega | (simp only [lens] at * <;> omega):0 ≤ v16∧v16 < (path.length:Int))) (ai ((by first | omega | (simp only [lens] at * <;> omega):0 ≤ (0:Int)∧(0:Int) ≤ v16∧v16 ≤ (path.length:Int))) (ai (trivial) (ai ((Imp.refl (.l 1 eInt (path.take v16.toNat)))) (ai ((Imp.refl (.v (vI (path.getD v16.toNat default))))) (ai ((fun k5:(decide (v16 > 0))=true=>(fun _:v16 > 0=>(fun k4:(decide ((path.getD v16.toNat default) ∈ (path.take v16.toNat)))=false=>(fun _:¬ ((path.getD v16.toNat default) ∈ (path.take v16.toNat))=>(by unfold i64ok; first | omega | (simp only [lens] at * <;> omega):i64ok (v16 - 1))) (of_decide_eq_false k4))) (of_decide_eq_true k5))) (ai ((fun k7:(decide (v16 > 0))=true=>(fun _:v16 > 0=>(fun k6:(decide ((path.getD v16.toNat default) ∈ (path.take v16.toNat)))=false=>(fun _:¬ ((path.getD v16.toNat default) ∈ (path.take v16.toNat))=>(by first | omega | (simp only [lens] at * <;> omega):0 ≤ (v16 - 1)∧(v16 - 1) < (path.length:Int))) (of_decide_eq_false k6))) (of_decide_eq_true k7))) (ai ((fun k9:(decide (v16 > 0))=true=>(fun _:v16 > 0=>(fun k8:(decide ((path.getD v16.toNat default) ∈ (path.take v16.toNat)))=false=>(fun _:¬ ((path.getD v16.toNat default) ∈ (path.take v16.toNat))=>((by first | assumption | exact NetOk.frame (by assumption):FrameOk n))) (of_decide_eq_false k8))) (of_decide_eq_true k9))) (ai ((fun k11:(decide (v16 > 0))=true=>(fun _:v16 > 0=>(fun k10:(decide ((path.getD v16.toNat default) ∈ (path.take v16.toNat)))=false=>(fun _:¬ ((path.getD v16.toNat default) ∈ (path.take v16.toNat))=>(Imps.refl (eLabNet n))) (of_decide_eq_false k10))) (of_decide_eq_true k11))) (ai ((fun k13:(decide (v16 > 0))=true=>(fun _:v16 > 0=>(fun k12:(decide ((path.getD v16.toNat default) ∈ (path.take v16.toNat)))=false=>(fun _:¬ ((path.getD v16.toNat default) ∈ (path.take v16.toNat))=>(Imp.refl (.v (vI (path.getD (v16 - 1).toNat default))))) (of_decide_eq_false k12))) (of_decide_eq_true k13))) (ai ((fun k15:(decide (v16 > 0))=true=>(fun _:v16 > 0=>(fun k14:(decide ((path.getD v16.toNat default) ∈ (path.take v16.toNat)))=false=>(fun _:¬ ((path.getD v16.toNat default) ∈ (path.take v16.toNat))=>(Imp.refl (.v (vI (path.getD v16.toNat default))))) (of_decide_eq_false k14))) (of_decide_eq_true k15))) (ai (fun h16:(bif (decide ((path.getD v16.toNat default) ∈ (path.take v16.toNat))) then true else (bif decide (v16 > 0) then decide ((linkOf n (path.getD (v16 - 1).toNat default) (path.getD v16.toNat default)) < 0) else false))=true=>(fun hF:(false:Bool)=(F68 n path)=>ai (congrArg (fun r:Bool=>(.bool r:Value)) hF) (trivial)) (condF h1 (finR (runL_ret hI0 (condT h3 (condT h16 (rfl)))) rfl))) (fun h16:(bif (decide ((path.getD v16.toNat default) ∈ (path.take v16.toNat))) then true else (bif decide (v16 > 0) then decide ((linkOf n (path.getD (v16 - 1).toNat default) (path.getD v16.toNat default)) < 0) else false))=false=>(fun _:¬ ((path.getD v16.toNat default) ∈ (path.take v16.toNat))=>ai ((by unfold i64ok; first | omega | (simp only [lens] at * <;> omega):i64ok (v16 + 1))) (Exists.intro (p := fun j:Nat × Int=>(fun (v16_:Int)=>(((.int .i64 (path.length:Int):Value)=.int .i64 (path.length:Int))∧((.int .i64 (v16 + 1):Value)=.int .i64 v16_)∧(Imp (.l 1 eInt path) (.l 1 eInt path))∧(Imp (.l 2 eLabLink n.Links) (.l 2 eLabLink n.Links))∧(Imp (.l 2 eLabBox n.Boxes) (.l 2 eLabBox n.Boxes))∧((runL (F68_s0 n path) j.1 j.2=(runL (F68_s0 n path) (((path.length:Int) - 0).toNat + 1) 0)∧Int.toNat ((path.length:Int) - v16_) < j.1∧(0:Int) ≤ v16_)∧j.1 < i0.1))) j.2) (m0,(v16 + 1)) (ai (rfl) (ai (rfl) (ai ((Imp.refl _)) (ai ((Imp.refl _)) (ai ((Imp.refl _)) (ai (ai (runL_next hI0 (condT h3 (condF h16 (rfl)))) (ai ((by first | omega | (simp only [lens] at * <;> omega):Int.toNat ((path.length:Int) - (v16 + 1)) < m0)) ((by first | omega | (simp only [lens] at * <;> omega):(0:Int) ≤ (v16 + 1))))) hl0)))))))) (of_decide_eq_false (orF1 h16))))))))))))))) (of_decide_eq_true h3)) (fun h3:(decide (v16 < (path.length:Int)))=false=>(fun _:¬ v16 < (path.length:Int)=>(fun hD0_17:(runL (F68_s0 n path) (((path.length:Int) - 0).toNat + 1) 0)=Lp.done v16=>(fun hF:(true:Bool)=(F68 n path)=>ai (congrArg (fun r:Bool=>(.bool r:Value)) hF) (trivial)) (condF h1 (finD hD0_17 (rfl)))) (runL_done hI0 (condF h3 (rfl)))) (of_decide_eq_false h3))) (i0.1 - 1) i0.2 (hd1 hi0.1 hi0.2.1) (hd2 hi0.2.1) (hd3 hi0.2.1) hi0.2.2)) (of_decide_eq_true (notEF h1)))))))) (by kernel_rfl)
def F69_s0 (b:LabBox):Int → Lp Int Int := fun label =>
 bif (decide (label ≤ 60)) then (bif (!((rowP b label).2)) then (.ret label) else (.next (label + 1))) else (.done label)
def F69 (b:LabBox):Int :=
 (runL (F69_s0 b) ((Int.toNat (60 - 1 + 1)) + 1) 1).fin (fun r=>r) (fun label=>0)
def S69 (R:Int) (b:LabBox):Spec := ⟨[.r (.g (eLabBox b))],.v (vI R),True⟩
theorem ok69 (b:LabBox):(S69 (F69 b) b).ok Tryz.prog 69 :=
 fnG_ok mixed (fn := Tryz.f69) (ct := .seq (.no) (.seq (.seqk [(1,0),(1,1)] (.no) (.blk (.loop (ι := Nat × Int) (fun i=>(fun (label:Int)=>(⟨[(1,some (.p 0 0)),(3,some (.v (vI label)))],[(0,some (.box 49 [.h 1 0,.h 2 0])),(1,some (.shr none (.l 3 eLabRow b.Rows))),(2,some (.shr none (.l 3 eLabVia b.Guards)))],3⟩:St)) i.2) (fun i=>runL (F69_s0 b) i.1 i.2=(runL (F69_s0 b) ((Int.toNat (60 - 1 + 1)) + 1) 1)∧(fun (label:Int)=>(Int.toNat (60 - label + 1) < i.1∧(0:Int) ≤ label)) i.2) (fun i=>i.1) (((Int.toNat (60 - 1 + 1)) + 1),1) (fun i=>(fun (label:Int)=>(.seq (.seq (.no) (.cond (.no) (.no))) (.seq (.blk (.seq (.reg [(2,.call 63 (S63 (rowP b label) b label) (oa63 b label) none)]) (.seq (.no) (.cond (.seq (.no) (.no)) (.no))))) (.reg [(1,.bnd)])))) i.2)))) (.seq (.no) (.no)))) Tryz.func69 (fun (_:True)=>fun (_:b.Rows.length ≤ 9223372036854775807)=>fun (_:b.Guards.length ≤ 9223372036854775807)=>ai (ai (rfl) (ai ((Imp.refl _)) (ai ((Imp.refl _)) ((ai (rfl:runL (F69_s0 b) ((Int.toNat (60 - 1 + 1)) + 1) 1=(runL (F69_s0 b) ((Int.toNat (60 - 1 + 1)) + 1) 1)) (ai ((Nat.lt_succ_self _:Int.toNat (60 - 1 + 1) < ((Int.toNat (60 - 1 + 1)) + 1))) ((by omega:(0:Int) ≤ 1))))))):((.int .i64 1:Value)=.int .i64 1)∧(Imp (.l 3 eLabRow b.Rows) (.l 3 eLabRow b.Rows))∧(Imp (.l 3 eLabVia b.Guards) (.l 3 eLabVia b.Guards))∧(runL (F69_s0 b) ((Int.toNat (60 - 1 + 1)) + 1) 1=(runL (F69_s0 b) ((Int.toNat (60 - 1 + 1)) + 1) 1)∧Int.toNat (60 - 1 + 1) < ((Int.toNat (60 - 1 + 1)) + 1)∧(0:Int) ≤ 1)) (fun (i0:Nat × Int) (hi0:runL (F69_s0 b) i0.1 i0.2=(runL (F69_s0 b) ((Int.toNat (60 - 1 + 1)) + 1) 1)∧(fun (label:Int)=>(Int.toNat (60 - label + 1) < i0.1∧(0:Int) ≤ label)) i0.2)=>(fun (m0:Nat) (label:Int) (hI0:runL (F69_s0 b) (m0 + 1) label=(runL (F69_s0 b) ((Int.toNat (60 - 1 + 1)) + 1) 1)) (_:Int.toNat (60 - label + 1) < m0 + 1) (hl0:m0 < i0.1) (_:(0:Int) ≤ label)=>ai (fun h2:(decide (label ≤ 60))=true=>(fun _:label ≤ 60=>ai (trivial) (ai ((Imps.refl (eLabBox b))) (ai ((Imp.refl (.v (vI label)))) (ai (fun h3:(!((rowP b label).2))=true=>(fun _:(rowP b label).2=false=>(fun hF:(label:Int)=(F69 b)=>ai (congrArg (fun r:Int=>(.int .i64 r:Value)) hF) (trivial)) (finR (runL_ret hI0 (condT h2 (condT h3 (rfl)))) rfl)) ((notET h3))) (fun h3:(!((rowP b label).2))=false=>(fun _:(rowP b label).2=true=>ai ((by unfold i64ok; omega:i64ok (label + 1))) (Exists.intro (p := fun j:Nat × Int=>(fun (label_:Int)=>(((.int .i64 (label + 1):Value)=.int .i64 label_)∧(Imp (.l 3 eLabRow b.Rows) (.l 3 eLabRow b.Rows))∧(Imp (.l 3 eLabVia b.Guards) (.l 3 eLabVia b.Guards))∧((runL (F69_s0 b) j.1 j.2=(runL (F69_s0 b) ((Int.toNat (60 - 1 + 1)) + 1) 1)∧Int.toNat (60 - label_ + 1) < j.1∧(0:Int) ≤ label_)∧j.1 < i0.1))) j.2) (m0,(label + 1)) (ai (rfl) (ai ((Imp.refl _)) (ai ((Imp.refl _)) (ai (ai (runL_next hI0 (condT h2 (condF h3 (rfl)))) (ai ((by omega:Int.toNat (60 - (label + 1) + 1) < m0)) ((by omega:(0:Int) ≤ (label + 1))))) hl0)))))) ((notEF h3))))))) (of_decide_eq_true h2)) (fun h2:(decide (label ≤ 60))=false=>(fun _:¬ label ≤ 60=>(fun hD0_4:(runL (F69_s0 b) ((Int.toNat (60 - 1 + 1)) + 1) 1)=Lp.done label=>(fun hF:(0:Int)=(F69 b)=>ai (congrArg (fun r:Int=>(.int .i64 r:Value)) hF) (trivial)) (finD hD0_4 (rfl))) (runL_done hI0 (condF h2 (rfl)))) (of_decide_eq_false h2))) (i0.1 - 1) i0.2 (hd1 hi0.1 hi0.2.1) (hd2 hi0.2.1) (hd3 hi0.2.1) hi0.2.2)) (by kernel_rfl)
def F38_s1 (n:LabNet) (path:List Int) (i40:Int):Int → Lp Int Bool := fun k =>
 bif (decide (k < i40)) then (bif ((path.getD k.toNat default) == (path.getD i40.toNat default)) then (.ret false) else (.next (k + 1))) else (.done k)
def F38_s0 (n:LabNet) (path:List Int):Int → Lp Int Bool := fun i40 =>
 bif (decide (i40 < (path.length:Int))) then (bif (bif (!(decide (0 ≤ (path.getD i40.toNat default)∧(path.getD i40.toNat default) ≤ ((n.Boxes.length:Int) - 1)))) then true else (bif decide (i40 > 0) then decide ((linkOf n (path.getD (i40 - 1).toNat default) (path.getD i40.toNat default)) < 0) else false)) then (.ret false) else ((runL (F38_s1 n path i40) ((i40 - 0).toNat + 1) 0).fin Lp.ret (fun k=>.next (i40 + 1)))) else (.done i40)
def F38 (n:LabNet) (path:List Int):Bool :=
 bif (!(decide (2 ≤ (path.length:Int)∧(path.length:Int) ≤ (n.Boxes.length:Int)))) then false else ((runL (F38_s0 n path) (((path.length:Int) - 0).toNat + 1) 0).fin (fun r=>r) (fun i40=>true))
def S38 (R:Bool) (n:LabNet) (path:List Int):Spec := ⟨[.r (.g (eLabNet n)),.r (.c (.l 1 eInt path))],.v (.bool R),True⟩
theorem ok38 (n:LabNet) (path:List Int):(S38 (F38 n path) n path).ok Tryz.prog 38 :=
 fnG_ok mixed (fn := Tryz.f38) (ct := .seqk [(1,0)] (.no) (.seq (.seq (.reg [(5,.call 75 (S75 (decide (2 ≤ (path.length:Int)∧(path.length:Int) ≤ (n.Boxes.length:Int))) (path.length:Int) 2 (n.Boxes.length:Int)) (oa75 (path.length:Int) 2 (n.Boxes.length:Int)) none)]) (.cond (.seq (.no) (.no)) (.no))) (.seq (.seqk [(1,0),(2,0),(2,1)] (.no) (.blk (.loop (ι := Nat × Int) (fun i=>(fun (i40:Int)=>(⟨[(1,some (.h 0 0)),(2,some (.p 1 0)),(5,some (.v (vI i40)))],[(0,some (.shr none (.l 1 eInt path))),(1,some (.box 26 [.h 2 0,.h 3 0])),(2,some (.shr none (.l 2 eLabLink n.Links))),(3,some (.shr none (.l 2 eLabBox n.Boxes)))],4⟩:St)) i.2) (fun i=>runL (F38_s0 n path) i.1 i.2=(runL (F38_s0 n path) (((path.length:Int) - 0).toNat + 1) 0)∧(fun (i40:Int)=>(Int.toNat ((path.length:Int) - i40) < i.1∧(0:Int) ≤ i40)) i.2) (fun i=>i.1) ((((path.length:Int) - 0).toNat + 1),0) (fun i=>(fun (i40:Int)=>(.seq (.seq (.no) (.cond (.no) (.no))) (.seq (.blk (.seq (.seq (.reg [(7,.bnd),(8,.call 75 (S75 (decide (0 ≤ (path.getD i40.toNat default)∧(path.getD i40.toNat default) ≤ ((n.Boxes.length:Int) - 1))) (path.getD i40.toNat default) 0 ((n.Boxes.length:Int) - 1)) (oa75 (path.getD i40.toNat default) 0 ((n.Boxes.length:Int) - 1)) none),(17,.bnd),(24,.call 44 (S44 (linkOf n (path.getD (i40 - 1).toNat default) (path.getD i40.toNat default)) n (path.getD (i40 - 1).toNat default) (path.getD i40.toNat default)) (oa44 n (path.getD (i40 - 1).toNat default) (path.getD i40.toNat default)) none)]) (.cond (.seq (.no) (.no)) (.no))) (.seqk [(1,0)] (.no) (.blk (.loop (ι := Nat × Int) (fun i=>(fun (k:Int)=>(⟨[(1,some (.h 0 0)),(2,some (.p 1 0)),(5,some (.v (vI i40))),(6,some (.v (vI k)))],[(0,some (.shr none (.l 1 eInt path))),(1,some (.box 26 [.h 2 0,.h 3 0])),(2,some (.shr none (.l 2 eLabLink n.Links))),(3,some (.shr none (.l 2 eLabBox n.Boxes)))],4⟩:St)) i.2) (fun i=>runL (F38_s1 n path i40) i.1 i.2=(runL (F38_s1 n path i40) ((i40 - 0).toNat + 1) 0)∧(fun (k:Int)=>(Int.toNat (i40 - k) < i.1∧(0:Int) ≤ k)) i.2) (fun i=>i.1) (((i40 - 0).toNat + 1),0) (fun i=>(fun (k:Int)=>(.seq (.seq (.no) (.cond (.no) (.no))) (.seq (.blk (.seq (.no) (.cond (.seq (.no) (.no)) (.no)))) (.reg [(1,.bnd)])))) i.2)))))) (.reg [(1,.bnd)])))) i.2)))) (.seq (.no) (.no))))) Tryz.func38 (fun (_:True)=>fun (_:path.length ≤ 9223372036854775807)=>ai (trivial) (ai ((Imp.refl (.v (vI (path.length:Int))))) (ai ((Imp.refl (.v (vI 2)))) (ai ((Imp.refl (.v (vI (n.Boxes.length:Int))))) (ai (fun h1:(!(decide (2 ≤ (path.length:Int)∧(path.length:Int) ≤ (n.Boxes.length:Int))))=true=>(fun _:¬ (2 ≤ (path.length:Int)∧(path.length:Int) ≤ (n.Boxes.length:Int))=>(fun hF:(false:Bool)=(F38 n path)=>ai (congrArg (fun r:Bool=>(.bool r:Value)) hF) (trivial)) (condT h1 (rfl))) (of_decide_eq_false (notET h1))) (fun h1:(!(decide (2 ≤ (path.length:Int)∧(path.length:Int) ≤ (n.Boxes.length:Int))))=false=>(fun _:2 ≤ (path.length:Int)∧(path.length:Int) ≤ (n.Boxes.length:Int)=>fun (_:path.length ≤ 9223372036854775807)=>fun (_:n.Links.length ≤ 9223372036854775807)=>fun (_:n.Boxes.length ≤ 9223372036854775807)=>ai (ai (rfl) (ai ((Imp.refl _)) (ai ((Imp.refl _)) (ai ((Imp.refl _)) ((ai (rfl:runL (F38_s0 n path) (((path.length:Int) - 0).toNat + 1) 0=(runL (F38_s0 n path) (((path.length:Int) - 0).toNat + 1) 0)) (ai ((Nat.lt_succ_self _:Int.toNat ((path.length:Int) - 0) < (((path.length:Int) - 0).toNat + 1))) ((by omega:(0:Int) ≤ 0)))))))):((.int .i64 0:Value)=.int .i64 0)∧(Imp (.l 1 eInt path) (.l 1 eInt path))∧(Imp (.l 2 eLabLink n.Links) (.l 2 eLabLink n.Links))∧(Imp (.l 2 eLabBox n.Boxes) (.l 2 eLabBox n.Boxes))∧(runL (F38_s0 n path) (((path.length:Int) - 0).toNat + 1) 0=(runL (F38_s0 n path) (((path.length:Int) - 0).toNat + 1) 0)∧Int.toNat ((path.length:Int) - 0) < (((path.length:Int) - 0).toNat + 1)∧(0:Int) ≤ 0)) (fun (i0:Nat × Int) (hi0:runL (F38_s0 n path) i0.1 i0.2=(runL (F38_s0 n path) (((path.length:Int) - 0).toNat + 1) 0)∧(fun (i40:Int)=>(Int.toNat ((path.length:Int) - i40) < i0.1∧(0:Int) ≤ i40)) i0.2)=>(fun (m0:Nat) (i40:Int) (hI0:runL (F38_s0 n path) (m0 + 1) i40=(runL (F38_s0 n path) (((path.length:Int) - 0).toNat + 1) 0)) (_:Int.toNat ((path.length:Int) - i40) < m0 + 1) (hl0:m0 < i0.1) (_:(0:Int) ≤ i40)=>ai (fun h3:(decide (i40 < (path.length:Int)))=true=>(fun _:i40 < (path.length:Int)=>ai ((by omega:0 ≤ i40∧i40 < (path.length:Int))) (ai ((by unfold i64ok; omega:i64ok ((n.Boxes.length:Int) - 1))) (ai (trivial) (ai ((Imp.refl (.v (vI (path.getD i40.toNat default))))) (ai ((Imp.refl (.v (vI 0)))) (ai ((Imp.refl (.v (vI ((n.Boxes.length:Int) - 1))))) (ai ((fun k5:(decide (i40 > 0))=true=>(fun _:i40 > 0=>(fun k4:(!(decide (0 ≤ (path.getD i40.toNat default)∧(path.getD i40.toNat default) ≤ ((n.Boxes.length:Int) - 1))))=false=>(fun _:0 ≤ (path.getD i40.toNat default)∧(path.getD i40.toNat default) ≤ ((n.Boxes.length:Int) - 1)=>(by unfold i64ok; omega:i64ok (i40 - 1))) (of_decide_eq_true (notEF k4)))) (of_decide_eq_true k5))) (ai ((fun k7:(decide (i40 > 0))=true=>(fun _:i40 > 0=>(fun k6:(!(decide (0 ≤ (path.getD i40.toNat default)∧(path.getD i40.toNat default) ≤ ((n.Boxes.length:Int) - 1))))=false=>(fun _:0 ≤ (path.getD i40.toNat default)∧(path.getD i40.toNat default) ≤ ((n.Boxes.length:Int) - 1)=>(by omega:0 ≤ (i40 - 1)∧(i40 - 1) < (path.length:Int))) (of_decide_eq_true (notEF k6)))) (of_decide_eq_true k7))) (ai ((fun k9:(decide (i40 > 0))=true=>(fun _:i40 > 0=>(fun k8:(!(decide (0 ≤ (path.getD i40.toNat default)∧(path.getD i40.toNat default) ≤ ((n.Boxes.length:Int) - 1))))=false=>(fun _:0 ≤ (path.getD i40.toNat default)∧(path.getD i40.toNat default) ≤ ((n.Boxes.length:Int) - 1)=>(by omega:0 ≤ i40∧i40 < (path.length:Int))) (of_decide_eq_true (notEF k8)))) (of_decide_eq_true k9))) (ai ((fun k11:(decide (i40 > 0))=true=>(fun _:i40 > 0=>(fun k10:(!(decide (0 ≤ (path.getD i40.toNat default)∧(path.getD i40.toNat default) ≤ ((n.Boxes.length:Int) - 1))))=false=>(fun _:0 ≤ (path.getD i40.toNat default)∧(path.getD i40.toNat default) ≤ ((n.Boxes.length:Int) - 1)=>trivial) (of_decide_eq_true (notEF k10)))) (of_decide_eq_true k11))) (ai ((fun k13:(decide (i40 > 0))=true=>(fun _:i40 > 0=>(fun k12:(!(decide (0 ≤ (path.getD i40.toNat default)∧(path.getD i40.toNat default) ≤ ((n.Boxes.length:Int) - 1))))=false=>(fun _:0 ≤ (path.getD i40.toNat default)∧(path.getD i40.toNat default) ≤ ((n.Boxes.length:Int) - 1)=>(Imps.refl (eLabNet n))) (of_decide_eq_true (notEF k12)))) (of_decide_eq_true k13))) (ai ((fun k15:(decide (i40 > 0))=true=>(fun _:i40 > 0=>(fun k14:(!(decide (0 ≤ (path.getD i40.toNat default)∧(path.getD i40.toNat default) ≤ ((n.Boxes.length:Int) - 1))))=false=>(fun _:0 ≤ (path.getD i40.toNat default)∧(path.getD i40.toNat default) ≤ ((n.Boxes.length:Int) - 1)=>(Imp.refl (.v (vI (path.getD (i40 - 1).toNat default))))) (of_decide_eq_true (notEF k14)))) (of_decide_eq_true k15))) (ai ((fun k17:(decide (i40 > 0))=true=>(fun _:i40 > 0=>(fun k16:(!(decide (0 ≤ (path.getD i40.toNat default)∧(path.getD i40.toNat default) ≤ ((n.Boxes.length:Int) - 1))))=false=>(fun _:0 ≤ (path.getD i40.toNat default)∧(path.getD i40.toNat default) ≤ ((n.Boxes.length:Int) - 1)=>(Imp.refl (.v (vI (path.getD i40.toNat default))))) (of_decide_eq_true (notEF k16)))) (of_decide_eq_true k17))) (ai (fun h18:(bif (!(decide (0 ≤ (path.getD i40.toNat default)∧(path.getD i40.toNat default) ≤ ((n.Boxes.length:Int) - 1)))) then true else (bif decide (i40 > 0) then decide ((linkOf n (path.getD (i40 - 1).toNat default) (path.getD i40.toNat default)) < 0) else false))=true=>(fun hF:(false:Bool)=(F38 n path)=>ai (congrArg (fun r:Bool=>(.bool r:Value)) hF) (trivial)) (condF h1 (finR (runL_ret hI0 (condT h3 (condT h18 (rfl)))) rfl))) (fun h18:(bif (!(decide (0 ≤ (path.getD i40.toNat default)∧(path.getD i40.toNat default) ≤ ((n.Boxes.length:Int) - 1)))) then true else (bif decide (i40 > 0) then decide ((linkOf n (path.getD (i40 - 1).toNat default) (path.getD i40.toNat default)) < 0) else false))=false=>(fun _:0 ≤ (path.getD i40.toNat default)∧(path.getD i40.toNat default) ≤ ((n.Boxes.length:Int) - 1)=>fun (_:path.length ≤ 9223372036854775807)=>ai (ai (rfl) (ai (rfl) (ai ((Imp.refl _)) (ai ((Imp.refl _)) (ai ((Imp.refl _)) ((ai (rfl:runL (F38_s1 n path i40) ((i40 - 0).toNat + 1) 0=(runL (F38_s1 n path i40) ((i40 - 0).toNat + 1) 0)) (ai ((Nat.lt_succ_self _:Int.toNat (i40 - 0) < ((i40 - 0).toNat + 1))) ((by omega:(0:Int) ≤ 0))))))))):((.int .i64 i40:Value)=.int .i64 i40)∧((.int .i64 0:Value)=.int .i64 0)∧(Imp (.l 1 eInt path) (.l 1 eInt path))∧(Imp (.l 2 eLabLink n.Links) (.l 2 eLabLink n.Links))∧(Imp (.l 2 eLabBox n.Boxes) (.l 2 eLabBox n.Boxes))∧(runL (F38_s1 n path i40) ((i40 - 0).toNat + 1) 0=(runL (F38_s1 n path i40) ((i40 - 0).toNat + 1) 0)∧Int.toNat (i40 - 0) < ((i40 - 0).toNat + 1)∧(0:Int) ≤ 0)) (fun (i1:Nat × Int) (hi1:runL (F38_s1 n path i40) i1.1 i1.2=(runL (F38_s1 n path i40) ((i40 - 0).toNat + 1) 0)∧(fun (k:Int)=>(Int.toNat (i40 - k) < i1.1∧(0:Int) ≤ k)) i1.2)=>(fun (m1:Nat) (k:Int) (hI1:runL (F38_s1 n path i40) (m1 + 1) k=(runL (F38_s1 n path i40) ((i40 - 0).toNat + 1) 0)) (_:Int.toNat (i40 - k) < m1 + 1) (hl1:m1 < i1.1) (_:(0:Int) ≤ k)=>ai (fun h20:(decide (k < i40))=true=>(fun _:k < i40=>ai ((by omega:0 ≤ k∧k < (path.length:Int))) (ai ((by omega:0 ≤ i40∧i40 < (path.length:Int))) (ai (fun h21:((path.getD k.toNat default) == (path.getD i40.toNat default))=true=>(fun _:(path.getD k.toNat default)=(path.getD i40.toNat default)=>(fun hF:(false:Bool)=(F38 n path)=>ai (congrArg (fun r:Bool=>(.bool r:Value)) hF) (trivial)) (condF h1 (finR (runL_ret hI0 (condT h3 (condF h18 (finR (runL_ret hI1 (condT h20 (condT h21 (rfl)))) rfl)))) rfl))) (eq_of_beq h21)) (fun h21:((path.getD k.toNat default) == (path.getD i40.toNat default))=false=>(fun _:¬ (path.getD k.toNat default)=(path.getD i40.toNat default)=>ai ((by unfold i64ok; omega:i64ok (k + 1))) (Exists.intro (p := fun j:Nat × Int=>(fun (k_:Int)=>(((.int .i64 i40:Value)=.int .i64 i40)∧((.int .i64 (k + 1):Value)=.int .i64 k_)∧(Imp (.l 1 eInt path) (.l 1 eInt path))∧(Imp (.l 2 eLabLink n.Links) (.l 2 eLabLink n.Links))∧(Imp (.l 2 eLabBox n.Boxes) (.l 2 eLabBox n.Boxes))∧((runL (F38_s1 n path i40) j.1 j.2=(runL (F38_s1 n path i40) ((i40 - 0).toNat + 1) 0)∧Int.toNat (i40 - k_) < j.1∧(0:Int) ≤ k_)∧j.1 < i1.1))) j.2) (m1,(k + 1)) (ai (rfl) (ai (rfl) (ai ((Imp.refl _)) (ai ((Imp.refl _)) (ai ((Imp.refl _)) (ai (ai (runL_next hI1 (condT h20 (condF h21 (rfl)))) (ai ((by omega:Int.toNat (i40 - (k + 1)) < m1)) ((by omega:(0:Int) ≤ (k + 1))))) hl1)))))))) (beqF h21))))) (of_decide_eq_true h20)) (fun h20:(decide (k < i40))=false=>(fun _:¬ k < i40=>(fun hD1_22:(runL (F38_s1 n path i40) ((i40 - 0).toNat + 1) 0)=Lp.done k=>ai ((by unfold i64ok; omega:i64ok (i40 + 1))) (Exists.intro (p := fun j:Nat × Int=>(fun (i40_:Int)=>(((.int .i64 (i40 + 1):Value)=.int .i64 i40_)∧(Imp (.l 1 eInt path) (.l 1 eInt path))∧(Imp (.l 2 eLabLink n.Links) (.l 2 eLabLink n.Links))∧(Imp (.l 2 eLabBox n.Boxes) (.l 2 eLabBox n.Boxes))∧((runL (F38_s0 n path) j.1 j.2=(runL (F38_s0 n path) (((path.length:Int) - 0).toNat + 1) 0)∧Int.toNat ((path.length:Int) - i40_) < j.1∧(0:Int) ≤ i40_)∧j.1 < i0.1))) j.2) (m0,(i40 + 1)) (ai (rfl) (ai ((Imp.refl _)) (ai ((Imp.refl _)) (ai ((Imp.refl _)) (ai (ai (runL_next hI0 (condT h3 (condF h18 (finD hD1_22 (rfl))))) (ai ((by omega:Int.toNat ((path.length:Int) - (i40 + 1)) < m0)) ((by omega:(0:Int) ≤ (i40 + 1))))) hl0))))))) (runL_done hI1 (condF h20 (rfl)))) (of_decide_eq_false h20))) (i1.1 - 1) i1.2 (hd1 hi1.1 hi1.2.1) (hd2 hi1.2.1) (hd3 hi1.2.1) hi1.2.2)) (of_decide_eq_true (notEF (orF1 h18)))))))))))))))))) (of_decide_eq_true h3)) (fun h3:(decide (i40 < (path.length:Int)))=false=>(fun _:¬ i40 < (path.length:Int)=>(fun hD0_23:(runL (F38_s0 n path) (((path.length:Int) - 0).toNat + 1) 0)=Lp.done i40=>(fun hF:(true:Bool)=(F38 n path)=>ai (congrArg (fun r:Bool=>(.bool r:Value)) hF) (trivial)) (condF h1 (finD hD0_23 (rfl)))) (runL_done hI0 (condF h3 (rfl)))) (of_decide_eq_false h3))) (i0.1 - 1) i0.2 (hd1 hi0.1 hi0.2.1) (hd2 hi0.2.1) (hd3 hi0.2.1) hi0.2.2)) (of_decide_eq_true (notEF h1)))))))) (by kernel_rfl)
def F76_s0 (b:LabBox):Int → Lp Int Int := fun label =>
 bif (decide (label ≤ 60)) then (bif (decide ((oix (rowIx b label)) < 0)) then (.ret label) else (.next (label + 1))) else (.done label)
def F76 (b:LabBox):Int :=
 (runL (F76_s0 b) ((Int.toNat (60 - 1 + 1)) + 1) 1).fin (fun r=>r) (fun label=>0)
def S76 (R:Int) (b:LabBox):Spec := ⟨[.r (.g (eLabBox b))],.v (vI R),True⟩
theorem ok76 (b:LabBox):(S76 (F76 b) b).ok Tryz.prog 76 :=
 fnG_ok mixed (fn := Tryz.f76) (ct := .seq (.no) (.seq (.seqk [(1,0),(1,1)] (.no) (.blk (.loop (ι := Nat × Int) (fun i=>(fun (label:Int)=>(⟨[(1,some (.p 0 0)),(3,some (.v (vI label)))],[(0,some (.box 49 [.h 1 0,.h 2 0])),(1,some (.shr none (.l 3 eLabRow b.Rows))),(2,some (.shr none (.l 3 eLabVia b.Guards)))],3⟩:St)) i.2) (fun i=>runL (F76_s0 b) i.1 i.2=(runL (F76_s0 b) ((Int.toNat (60 - 1 + 1)) + 1) 1)∧(fun (label:Int)=>(Int.toNat (60 - label + 1) < i.1∧(0:Int) ≤ label)) i.2) (fun i=>i.1) (((Int.toNat (60 - 1 + 1)) + 1),1) (fun i=>(fun (label:Int)=>(.seq (.seq (.no) (.cond (.no) (.no))) (.seq (.blk (.seq (.reg [(2,.call 46 (S46 (oix (rowIx b label)) b label) (oa46 b label) none)]) (.cond (.seq (.no) (.no)) (.no)))) (.reg [(1,.bnd)])))) i.2)))) (.seq (.no) (.no)))) Tryz.func76 (fun (_:True)=>fun (_:b.Rows.length ≤ 9223372036854775807)=>fun (_:b.Guards.length ≤ 9223372036854775807)=>ai (ai (rfl) (ai ((Imp.refl _)) (ai ((Imp.refl _)) ((ai (rfl:runL (F76_s0 b) ((Int.toNat (60 - 1 + 1)) + 1) 1=(runL (F76_s0 b) ((Int.toNat (60 - 1 + 1)) + 1) 1)) (ai ((Nat.lt_succ_self _:Int.toNat (60 - 1 + 1) < ((Int.toNat (60 - 1 + 1)) + 1))) ((by omega:(0:Int) ≤ 1))))))):((.int .i64 1:Value)=.int .i64 1)∧(Imp (.l 3 eLabRow b.Rows) (.l 3 eLabRow b.Rows))∧(Imp (.l 3 eLabVia b.Guards) (.l 3 eLabVia b.Guards))∧(runL (F76_s0 b) ((Int.toNat (60 - 1 + 1)) + 1) 1=(runL (F76_s0 b) ((Int.toNat (60 - 1 + 1)) + 1) 1)∧Int.toNat (60 - 1 + 1) < ((Int.toNat (60 - 1 + 1)) + 1)∧(0:Int) ≤ 1)) (fun (i0:Nat × Int) (hi0:runL (F76_s0 b) i0.1 i0.2=(runL (F76_s0 b) ((Int.toNat (60 - 1 + 1)) + 1) 1)∧(fun (label:Int)=>(Int.toNat (60 - label + 1) < i0.1∧(0:Int) ≤ label)) i0.2)=>(fun (m0:Nat) (label:Int) (hI0:runL (F76_s0 b) (m0 + 1) label=(runL (F76_s0 b) ((Int.toNat (60 - 1 + 1)) + 1) 1)) (_:Int.toNat (60 - label + 1) < m0 + 1) (hl0:m0 < i0.1) (_:(0:Int) ≤ label)=>ai (fun h2:(decide (label ≤ 60))=true=>(fun _:label ≤ 60=>ai (trivial) (ai ((Imps.refl (eLabBox b))) (ai ((Imp.refl (.v (vI label)))) ((fun gv3:(oix (rowIx b label)) < (b.Rows.length:Int)=>ai (fun h4:(decide ((oix (rowIx b label)) < 0))=true=>(fun _:(oix (rowIx b label)) < 0=>(fun hF:(label:Int)=(F76 b)=>ai (congrArg (fun r:Int=>(.int .i64 r:Value)) hF) (trivial)) (finR (runL_ret hI0 (condT h2 (condT h4 (rfl)))) rfl)) (of_decide_eq_true h4)) (fun h4:(decide ((oix (rowIx b label)) < 0))=false=>(fun _:¬ (oix (rowIx b label)) < 0=>ai ((by unfold i64ok; omega:i64ok (label + 1))) (Exists.intro (p := fun j:Nat × Int=>(fun (label_:Int)=>(((.int .i64 (label + 1):Value)=.int .i64 label_)∧(Imp (.l 3 eLabRow b.Rows) (.l 3 eLabRow b.Rows))∧(Imp (.l 3 eLabVia b.Guards) (.l 3 eLabVia b.Guards))∧((runL (F76_s0 b) j.1 j.2=(runL (F76_s0 b) ((Int.toNat (60 - 1 + 1)) + 1) 1)∧Int.toNat (60 - label_ + 1) < j.1∧(0:Int) ≤ label_)∧j.1 < i0.1))) j.2) (m0,(label + 1)) (ai (rfl) (ai ((Imp.refl _)) (ai ((Imp.refl _)) (ai (ai (runL_next hI0 (condT h2 (condF h4 (rfl)))) (ai ((by omega:Int.toNat (60 - (label + 1) + 1) < m0)) ((by omega:(0:Int) ≤ (label + 1))))) hl0)))))) (of_decide_eq_false h4))) (rowIx_lt b label))))) (of_decide_eq_true h2)) (fun h2:(decide (label ≤ 60))=false=>(fun _:¬ label ≤ 60=>(fun hD0_5:(runL (F76_s0 b) ((Int.toNat (60 - 1 + 1)) + 1) 1)=Lp.done label=>(fun hF:(0:Int)=(F76 b)=>ai (congrArg (fun r:Int=>(.int .i64 r:Value)) hF) (trivial)) (finD hD0_5 (rfl))) (runL_done hI0 (condF h2 (rfl)))) (of_decide_eq_false h2))) (i0.1 - 1) i0.2 (hd1 hi0.1 hi0.2.1) (hd2 hi0.2.1) (hd3 hi0.2.1) hi0.2.2)) (by kernel_rfl)
def F77_s0 (list:List LabRow) (r1:LabRow):Int → Lp Int (List LabRow) := fun k400 =>
 bif (bif decide (k400 < (list.length:Int)) then decide ((list.getD k400.toNat default).In < r1.In) else false) then (.next (k400 + 1)) else (.done k400)
def F77_j0 (list:List LabRow) (r1:LabRow):Lp Int (List LabRow) :=
 (runL (F77_s0 list r1) (((list.length:Int) - 0).toNat + 1) 0).fin Lp.ret (fun k400=>.done k400)
def F77 (list:List LabRow) (r1:LabRow):List LabRow :=
 (F77_j0 list r1).fin (fun r=>r) (fun k=>(((([]:List LabRow) ++ (list.take k.toNat)) ++ [r1]) ++ (list.drop k.toNat)))
def S77 (R:List LabRow) (list:List LabRow) (r1:LabRow):Spec := ⟨[.r (.c (.l 3 eLabRow list)),.r (.g (eLabRow r1))],.ow (.l 3 eLabRow R),list.length ≤ 1000000000⟩
theorem ok77 (list:List LabRow) (r1:LabRow):(S77 (F77 list r1) list r1).ok Tryz.prog 77 :=
 fnG_ok mixed (fn := Tryz.f77) (ct := .seqk [(0,0)] (.no) (.seqk [(0,0)] (.no) (.cut (ι := Int) (fun j=>(fun (k:Int)=>(⟨[(0,some (.h 0 0)),(3,some (.p 1 0)),(5,some (.v (vI k)))],[(0,some (.shr none (.l 3 eLabRow list))),(1,some (.box 66 [.v (vI r1.In),.v (vI r1.Next),.v (vI r1.Out)]))],2⟩:St)) j) (fun j=>(fun (k:Int)=>((F77_j0 list r1)=Lp.done j∧0 ≤ k∧k ≤ (list.length:Int))) j) (.blk (.loop (ι := Nat × Int) (fun i=>(fun (k400:Int)=>(⟨[(0,some (.h 0 0)),(3,some (.p 1 0)),(5,some (.v (vI k400)))],[(0,some (.shr none (.l 3 eLabRow list))),(1,some (.box 66 [.v (vI r1.In),.v (vI r1.Next),.v (vI r1.Out)]))],2⟩:St)) i.2) (fun i=>runL (F77_s0 list r1) i.1 i.2=(runL (F77_s0 list r1) (((list.length:Int) - 0).toNat + 1) 0)∧(fun (k400:Int)=>(Int.toNat ((list.length:Int) - k400) < i.1∧k400 ≤ (list.length:Int)∧(0:Int) ≤ k400)) i.2) (fun i=>i.1) ((((list.length:Int) - 0).toNat + 1),0) (fun i=>(fun (k400:Int)=>(.seq (.seq (.no) (.cond (.no) (.no))) (.blk (.reg [(1,.bnd)])))) i.2))) (fun j=>(fun (k:Int)=>(.seq (.reg [(0,.dat (.l 3 eLabRow ([]:List LabRow))),(4,.dat (.l 3 eLabRow (([]:List LabRow) ++ (list.take k.toNat)))),(7,.dat (.l 3 eLabRow ((([]:List LabRow) ++ (list.take k.toNat)) ++ [r1]))),(11,.dat (.l 3 eLabRow (((([]:List LabRow) ++ (list.take k.toNat)) ++ [r1]) ++ (list.drop k.toNat))))]) (.no))) j)))) Tryz.func77 (fun (hpre0:list.length ≤ 1000000000)=>fun (_:list.length ≤ 9223372036854775807)=>fun (_:list.length ≤ 9223372036854775807)=>ai (ai (ai (rfl) (ai ((Imp.refl _)) (ai (rfl) (ai (rfl) (ai (rfl) ((ai (rfl:runL (F77_s0 list r1) (((list.length:Int) - 0).toNat + 1) 0=(runL (F77_s0 list r1) (((list.length:Int) - 0).toNat + 1) 0)) (ai ((Nat.lt_succ_self _:Int.toNat ((list.length:Int) - 0) < (((list.length:Int) - 0).toNat + 1))) (ai ((by first | omega | (simp only [lens] at * <;> omega):0 ≤ (list.length:Int))) ((by first | omega | (simp only [lens] at * <;> omega):(0:Int) ≤ 0)))))))))):((.int .i64 0:Value)=.int .i64 0)∧(Imp (.l 3 eLabRow list) (.l 3 eLabRow list))∧((.int .i64 r1.In:Value)=.int .i64 r1.In)∧((.int .i64 r1.Next:Value)=.int .i64 r1.Next)∧((.int .i64 r1.Out:Value)=.int .i64 r1.Out)∧(runL (F77_s0 list r1) (((list.length:Int) - 0).toNat + 1) 0=(runL (F77_s0 list r1) (((list.length:Int) - 0).toNat + 1) 0)∧Int.toNat ((list.length:Int) - 0) < (((list.length:Int) - 0).toNat + 1)∧0 ≤ (list.length:Int)∧(0:Int) ≤ 0)) (fun (i0:Nat × Int) (hi0:runL (F77_s0 list r1) i0.1 i0.2=(runL (F77_s0 list r1) (((list.length:Int) - 0).toNat + 1) 0)∧(fun (k400:Int)=>(Int.toNat ((list.length:Int) - k400) < i0.1∧k400 ≤ (list.length:Int)∧(0:Int) ≤ k400)) i0.2)=>(fun (m0:Nat) (k400:Int) (hI0:runL (F77_s0 list r1) (m0 + 1) k400=(runL (F77_s0 list r1) (((list.length:Int) - 0).toNat + 1) 0)) (_:Int.toNat ((list.length:Int) - k400) < m0 + 1) (hl0:m0 < i0.1) (_:k400 ≤ (list.length:Int)) (_:(0:Int) ≤ k400)=>ai ((fun k2:(decide (k400 < (list.length:Int)))=true=>(fun _:k400 < (list.length:Int)=>(by first | omega | (simp only [lens] at * <;> omega):0 ≤ k400∧k400 < (list.length:Int))) (of_decide_eq_true k2))) (ai (fun h3:(bif decide (k400 < (list.length:Int)) then decide ((list.getD k400.toNat default).In < r1.In) else false)=true=>(fun _:(list.getD k400.toNat default).In < r1.In=>(fun _:k400 < (list.length:Int)=>ai ((by unfold i64ok; first | omega | (simp only [lens] at * <;> omega):i64ok (k400 + 1))) (Exists.intro (p := fun j:Nat × Int=>(fun (k400_:Int)=>(((.int .i64 (k400 + 1):Value)=.int .i64 k400_)∧(Imp (.l 3 eLabRow list) (.l 3 eLabRow list))∧((.int .i64 r1.In:Value)=.int .i64 r1.In)∧((.int .i64 r1.Next:Value)=.int .i64 r1.Next)∧((.int .i64 r1.Out:Value)=.int .i64 r1.Out)∧((runL (F77_s0 list r1) j.1 j.2=(runL (F77_s0 list r1) (((list.length:Int) - 0).toNat + 1) 0)∧Int.toNat ((list.length:Int) - k400_) < j.1∧k400_ ≤ (list.length:Int)∧(0:Int) ≤ k400_)∧j.1 < i0.1))) j.2) (m0,(k400 + 1)) (ai (rfl) (ai ((Imp.refl _)) (ai (rfl) (ai (rfl) (ai (rfl) (ai (ai (runL_next hI0 (condT h3 (rfl))) (ai ((by first | omega | (simp only [lens] at * <;> omega):Int.toNat ((list.length:Int) - (k400 + 1)) < m0)) (ai ((by first | omega | (simp only [lens] at * <;> omega):(k400 + 1) ≤ (list.length:Int))) ((by first | omega | (simp only [lens] at * <;> omega):(0:Int) ≤ (k400 + 1)))))) hl0)))))))) (of_decide_eq_true (andT1 h3))) (of_decide_eq_true (andT2 h3))) (fun h3:(bif decide (k400 < (list.length:Int)) then decide ((list.getD k400.toNat default).In < r1.In) else false)=false=>(fun hD0_4:(runL (F77_s0 list r1) (((list.length:Int) - 0).toNat + 1) 0)=Lp.done k400=>Exists.intro (p := fun j:Int=>(fun (k_:Int)=>(((.int .i64 k400:Value)=.int .i64 k_)∧(Imp (.l 3 eLabRow list) (.l 3 eLabRow list))∧((.int .i64 r1.In:Value)=.int .i64 r1.In)∧((.int .i64 r1.Next:Value)=.int .i64 r1.Next)∧((.int .i64 r1.Out:Value)=.int .i64 r1.Out)∧(F77_j0 list r1)=Lp.done j∧0 ≤ k_∧k_ ≤ (list.length:Int))) j) (k400) (ai (rfl) (ai ((Imp.refl _)) (ai (rfl) (ai (rfl) (ai (rfl) (ai (Eq.symm (finD hD0_4 (rfl))) (ai ((by first | omega | (simp only [lens] at * <;> omega):0 ≤ k400)) ((by first | omega | (simp only [lens] at * <;> omega):k400 ≤ (list.length:Int))))))))))) (runL_done hI0 (condF h3 (rfl)))))) (i0.1 - 1) i0.2 (hd1 hi0.1 hi0.2.1) (hd2 hi0.2.1) (hd3 hi0.2.1) hi0.2.2.1 hi0.2.2.2)) (fun (j:Int) (hj:(fun (k:Int)=>((F77_j0 list r1)=Lp.done j∧0 ≤ k∧k ≤ (list.length:Int))) j)=>(fun (k:Int) (hJ0_5:(F77_j0 list r1)=Lp.done k) (_:0 ≤ k) (_:k ≤ (list.length:Int))=>ai ((BuildOK.mk eLabRow ([]:List LabRow) rfl (by exact trivial) (fun _=>rfl):BuildOK 0 3 [] (.l 3 eLabRow ([]:List LabRow)))) (ai ((by first | omega | (simp only [lens] at * <;> omega):0 ≤ (0:Int)∧(0:Int) ≤ k∧k ≤ (list.length:Int))) (ai ((AppL.mk eLabRow ([]:List LabRow) (list.take k.toNat) (Imp.refl (.l 3 eLabRow ([]:List LabRow))) (Imp.refl _) (fun y=>⟨rfl,fun e he=>by simp only [eLabRow,List.mem_cons,List.not_mem_nil,or_false] at he; rcases he with rfl | rfl | rfl <;> exact ⟨_,rfl⟩⟩):AppL (.l 3 eLabRow ([]:List LabRow)) (.l 3 eLabRow (list.take k.toNat)) 3 (.l 3 eLabRow (([]:List LabRow) ++ (list.take k.toNat))))) (ai ((by (try simp only [lens]); omega:((([]:List LabRow) ++ (list.take k.toNat))).length * 24 ≤ 140737488355328)) (ai ((AppA.mk eLabRow (([]:List LabRow) ++ (list.take k.toNat)) [r1] (Imp.refl (.l 3 eLabRow (([]:List LabRow) ++ (list.take k.toNat)))) rfl (by exact ai (Imp.refl _) (ai (Imp.refl _) (ai (Imp.refl _) (trivial)))) (fun _=>rfl):AppA (.l 3 eLabRow (([]:List LabRow) ++ (list.take k.toNat))) 1 3 [.v (vI r1.In),.v (vI r1.Next),.v (vI r1.Out)] (.l 3 eLabRow ((([]:List LabRow) ++ (list.take k.toNat)) ++ [r1])))) (ai ((by (try simp only [lens]); omega:(((([]:List LabRow) ++ (list.take k.toNat)) ++ [r1])).length * 24 ≤ 140737488355328)) (ai ((by first | omega | (simp only [lens] at * <;> omega):0 ≤ k∧k ≤ (list.length:Int)∧(list.length:Int) ≤ (list.length:Int))) (ai ((AppL.mk eLabRow ((([]:List LabRow) ++ (list.take k.toNat)) ++ [r1]) (list.drop k.toNat) (Imp.refl (.l 3 eLabRow ((([]:List LabRow) ++ (list.take k.toNat)) ++ [r1]))) (Imp.refl _) (fun y=>⟨rfl,fun e he=>by simp only [eLabRow,List.mem_cons,List.not_mem_nil,or_false] at he; rcases he with rfl | rfl | rfl <;> exact ⟨_,rfl⟩⟩):AppL (.l 3 eLabRow ((([]:List LabRow) ++ (list.take k.toNat)) ++ [r1])) (.l 3 eLabRow (list.drop k.toNat)) 3 (.l 3 eLabRow (((([]:List LabRow) ++ (list.take k.toNat)) ++ [r1]) ++ (list.drop k.toNat))))) (ai ((by (try simp only [lens]); omega:((((([]:List LabRow) ++ (list.take k.toNat)) ++ [r1]) ++ (list.drop k.toNat))).length * 24 ≤ 140737488355328)) ((fun hF:((((([]:List LabRow) ++ (list.take k.toNat)) ++ [r1]) ++ (list.drop k.toNat)):List LabRow)=(F77 list r1)=>ai (Imp.of_eq (congrArg (fun r:List LabRow=>Dat.l 3 eLabRow r) hF)) (trivial)) (finD hJ0_5 (rfl)))))))))))) j hj.1 hj.2.1 hj.2.2)) (by kernel_rfl)
def F71 (a:LabRow) (b:LabRow):Int :=
 (IntKind.i64.wrap (a.In - b.In))
def S71 (a:LabRow) (b:LabRow):Spec := ⟨[.r (.g (eLabRow a)),.r (.g (eLabRow b))],.v (vI (F71 a b)),True⟩
theorem ok71 (a:LabRow) (b:LabRow):(S71 a b).ok Tryz.prog 71 :=
 fnG_ok mixed (fn := Tryz.f71) (ct := .seq (.no) (.seq (.no) (.no))) Tryz.func71 (fun (_:True)=>(fun hF:((IntKind.i64.wrap (a.In - b.In)):Int)=(F71 a b)=>ai (congrArg (fun r:Int=>(.int .i64 r:Value)) hF) (trivial)) (rfl)) (by kernel_rfl)
end Go.Proofs.YtmiolofjlfnohaaGreat
namespace Go.Proofs.YtmiolofjlfnohaaGreat
open Go.RowKit
set_option maxRecDepth 100000
set_option linter.unusedVariables false
set_option linter.unusedSimpArgs false
theorem getD_mapL {α β : Type} [Inhabited α] [Inhabited β] (f : α → β) (l : List α) {k : Nat} (h : k < l.length) : (l.map f).getD k default = f (l.getD k default) := by
 rw [getD_lt _ (by simpa using h), getD_lt _ h, List.getElem_map]
theorem search1 {ρ τ : Type} (p : Nat → Bool) (r : Nat → ρ) (n : Nat) (step : Int → Lp Int ρ) (hs : ∀ k : Nat, k < n → step ((k : Int) + 1) = bif p k then .ret (r k) else .next ((k : Int) + 1 + 1)) (he : step ((n : Int) + 1) = .done ((n : Int) + 1)) (f : ρ → τ) (g : Int → τ) :
  (runL step (n + 1) 1).fin f g = match first p n with | some k => f (r k) | none => g ((n : Int) + 1) := by
 have h := runL_rule (step := step) (fun (k : Nat) (_ : Unit) => (k : Int) + 1) n (fun k _ => ∀ j, j < k → p j = false) (fun x => ∃ k, first p n = some k ∧ x = r k)
  (fun k _ hk hI => by
   cases hp : p k with
   | false =>
    refine .inl ⟨(), by rw [hs k hk, hp]; rfl, fun j hj => ?_⟩
    rcases Nat.lt_succ_iff_lt_or_eq.1 hj with h | rfl
    ·exact hI j h
    ·exact hp
   | true => exact .inr ⟨r k, by rw [hs k hk, hp]; rfl, k, first_some.2 ⟨hk, hp, hI⟩, rfl⟩)
  (fun _ _ => he) n 0 () (by omega) (fun j hj => by omega) (n + 1) (Nat.lt_succ_self _)
 rcases h with ⟨_, h, hI⟩ | ⟨x, h, k, hk, rfl⟩
 ·have h : runL step (n + 1) 1 = .done ((n : Int) + 1) := h
  rw [h, first_none.2 hI]; rfl
 ·have h : runL step (n + 1) 1 = .ret (r k) := h
  rw [h, hk]; rfl
def stopAt (p : Nat → Bool) (n : Nat) : Nat := (first (fun k => !(p k)) n).getD n
theorem stopAt_le (p : Nat → Bool) (n : Nat) : stopAt p n ≤ n := by
 unfold stopAt
 cases h : first (fun k => !(p k)) n with
 | none => exact Nat.le_refl _
 | some k => exact Nat.le_of_lt (first_some.1 h).1
theorem stopAt_lt {p : Nat → Bool} {n k : Nat} (h : k < stopAt p n) : p k = true := by
 unfold stopAt at h
 cases e : first (fun k => !(p k)) n with
 | none => rw [e] at h; have := first_none.1 e k h; simpa using this
 | some j => rw [e] at h; have := (first_some.1 e).2.2 k h; simpa using this
theorem stopAt_at {p : Nat → Bool} {n : Nat} (h : stopAt p n < n) : p (stopAt p n) = false := by
 unfold stopAt at h ⊢
 cases e : first (fun k => !(p k)) n with
 | none => rw [e] at h; exact absurd h (Nat.lt_irrefl _)
 | some j => have := (first_some.1 e).2.1; simpa using this
theorem whileL {ρ : Type} (p : Nat → Bool) (n : Nat) (step : Int → Lp Int ρ) (hs : ∀ k : Nat, k ≤ n → step (k : Int) = bif (decide (k < n) && p k) then .next ((k : Int) + 1) else .done (k : Int)) :
  runL step (n + 1) 0 = .done (stopAt p n : Int) := by
 have key : ∀ m k, k + m = stopAt p n → ∀ M, m < M → runL step M (k : Int) = .done (stopAt p n : Int) := by
  intro m
  induction m with
  | zero =>
   intro k hk M hM
   obtain ⟨M, rfl⟩ : ∃ M', M = M' + 1 := ⟨M - 1, by omega⟩
   have hle := stopAt_le p n
   have hk' : k = stopAt p n := by omega
   have : (decide (k < n) && p k) = false := by
    by_cases hlt : k < n
    ·rw [hk'] at hlt ⊢; rw [stopAt_at hlt, Bool.and_false]
    ·rw [decide_eq_false hlt]; rfl
   simp only [runL]
   rw [hs k (by omega), this, hk']; rfl
  | succ m ih =>
   intro k hk M hM
   obtain ⟨M, rfl⟩ : ∃ M', M = M' + 1 := ⟨M - 1, by omega⟩
   have hle := stopAt_le p n
   have h1 : p k = true := stopAt_lt (n := n) (by omega)
   have h2 : decide (k < n) = true := decide_eq_true (by omega)
   simp only [runL, hs k (by omega), h1, h2, Bool.and_self, cond_true]
   exact ih (k + 1) (by omega) M (by omega)
 have hle := stopAt_le p n
 exact key (stopAt p n) 0 (by omega) (n + 1) (by omega)
def putK {α : Type} [Inhabited α] (key : α → Int) (xs : List α) (r : α) : List α :=
 xs.take (stopAt (fun k => decide (key (xs.getD k default) < key r)) xs.length) ++ [r] ++ xs.drop (stopAt (fun k => decide (key (xs.getD k default) < key r)) xs.length)
theorem putK_perm {α : Type} [Inhabited α] (key : α → Int) (xs : List α) (r : α) : (putK key xs r).Perm (xs ++ [r]) := by
 unfold putK
 generalize stopAt _ _ = k
 have h1 : (xs.take k ++ [r] ++ xs.drop k).Perm (xs.take k ++ (xs.drop k ++ [r])) := by
  rw [List.append_assoc]
  exact List.Perm.append_left _ (List.perm_append_comm)
 refine h1.trans ?_
 rw [← List.append_assoc, List.take_append_drop]
theorem putK_len {α : Type} [Inhabited α] (key : α → Int) (xs : List α) (r : α) : (putK key xs r).length = xs.length + 1 := by
 rw [(putK_perm key xs r).length_eq]; simp
theorem putK_mem {α : Type} [Inhabited α] {key : α → Int} {xs : List α} {r x : α} : x ∈ putK key xs r ↔ x ∈ xs ∨ x = r := by
 rw [(putK_perm key xs r).mem_iff]; simp
theorem putK_inc {α : Type} [Inhabited α] (key : α → Int) (xs : List α) (r : α) (hk : xs.Pairwise (fun a b => key a < key b)) (hn : ∀ a ∈ xs, key a ≠ key r) : (putK key xs r).Pairwise (fun a b => key a < key b) := by
 unfold putK
 generalize hg : stopAt (fun k => decide (key (xs.getD k default) < key r)) xs.length = k
 have hkl : k ≤ xs.length := by rw [← hg]; exact stopAt_le _ _
 have hA : ∀ a ∈ xs.take k, key a < key r := by
  intro a ha
  obtain ⟨i, hi, rfl⟩ := List.mem_iff_getElem.1 ha
  have hi' : i < k := by simp at hi; omega
  have := stopAt_lt (p := fun k => decide (key (xs.getD k default) < key r)) (n := xs.length) (k := i) (by rw [hg]; exact hi')
  have := of_decide_eq_true this
  rw [getD_lt xs (by omega)] at this
  rw [List.getElem_take]; exact this
 have hB : ∀ a ∈ xs.drop k, key r < key a := by
  by_cases hlt : k < xs.length
  ·have h0 := stopAt_at (p := fun k => decide (key (xs.getD k default) < key r)) (n := xs.length) (by rw [hg]; exact hlt)
   rw [hg] at h0
   have h0 := of_decide_eq_false h0
   rw [getD_lt xs hlt] at h0
   have hne := hn _ (List.getElem_mem hlt)
   have hpd : (xs.drop k).Pairwise (fun a b => key a < key b) := hk.drop
   rw [List.drop_eq_getElem_cons hlt] at hpd ⊢
   intro a ha
   rcases List.mem_cons.1 ha with rfl | ha
   ·omega
   ·have := (List.pairwise_cons.1 hpd).1 a ha; omega
  ·rw [List.drop_of_length_le (by omega)]; intro a ha; cases ha
 rw [List.append_assoc, List.pairwise_append]
 refine ⟨hk.take, ?_, ?_⟩
 ·rw [List.singleton_append, List.pairwise_cons]
  exact ⟨hB, hk.drop⟩
 ·intro a ha b hb
  rw [List.singleton_append] at hb
  have h1 := hA a ha
  rcases List.mem_cons.1 hb with rfl | hb
  ·exact h1
  ·have := hB b hb; omega
theorem pairK_uniq {α : Type} {key : α → Int} {xs : List α} (h : xs.Pairwise (fun a b => key a < key b)) {a b : α} (ha : a ∈ xs) (hb : b ∈ xs) (e : key a = key b) : a = b := by
 induction xs with
 | nil => cases ha
 | cons x t ih =>
  rw [List.pairwise_cons] at h
  rcases List.mem_cons.1 ha with ha | ha <;> rcases List.mem_cons.1 hb with hb | hb
  ·rw [ha, hb]
  ·have := h.1 b hb; rw [← ha] at this; omega
  ·have := h.1 a ha; rw [← hb] at this; omega
  ·exact ih h.2 ha hb
theorem sort_put {α : Type} [Inhabited α] (key : α → Int) (cf : α → α → Int) (xs : List α) (r : α) (hk : xs.Pairwise (fun a b => key a < key b)) (hn : ∀ a ∈ xs, key a ≠ key r)
  (hc : ∀ a ∈ xs ++ [r], ∀ b ∈ xs ++ [r], (cf a b < 0 ↔ key a < key b)) : SortPre cf (xs ++ [r]) ∧ sortL cf (xs ++ [r]) = putK key xs r := by
 have hp := putK_perm key xs r
 have hi := putK_inc key xs r hk hn
 have hm : ∀ a, a ∈ xs ++ [r] → a ∈ putK key xs r := fun a ha => hp.symm.subset ha
 have h : SortPre cf (xs ++ [r]) := by
  constructor
  ·intro x hx; rw [hc x hx x hx]; omega
  ·intro x hx y hy z hz h1 h2
   rw [hc x hx y hy] at h1; rw [hc y hy z hz] at h2; rw [hc x hx z hz]; omega
  ·intro x hx y hy z hz h1 h2
   rw [hc x hx y hy] at h1; rw [hc y hy z hz] at h2; rw [hc x hx z hz]; omega
  ·intro x hx y hy h1 h2
   rw [hc x hx y hy] at h1; rw [hc y hy x hx] at h2
   exact pairK_uniq hi (hm x hx) (hm y hy) (by omega)
 refine ⟨h, (sortL_unique h hp ?_).symm⟩
 refine hi.imp_of_mem fun {a b} ha hb hab => ?_
 rw [hc b (hp.subset hb) a (hp.subset ha)]; omega
def badP (n : LabNet) (path : List Int) (i : Nat) : Bool :=
 (!decide (0 ≤ path.getD i default ∧ path.getD i default ≤ (n.Boxes.length : Int) - 1)) || ((decide (0 < i) && decide (linkOf n (path.getD (i - 1) default) (path.getD i default) < 0)) || (first (fun k => decide (path.getD k default = path.getD i default)) i).isSome)
def pathB (n : LabNet) (path : List Int) : Bool := decide (2 ≤ (path.length : Int) ∧ (path.length : Int) ≤ (n.Boxes.length : Int)) && (first (badP n path) path.length).isNone
structure PathOk (n : LabNet) (path : List Int) : Prop where
 two : 2 ≤ path.length
 most : path.length ≤ n.Boxes.length
 rng : ∀ i, i < path.length → 0 ≤ path.getD i default ∧ path.getD i default < (n.Boxes.length : Int)
 lnk : ∀ i, i + 1 < path.length → 0 ≤ linkOf n (path.getD i default) (path.getD (i + 1) default)
 inj : ∀ i j, i < path.length → j < path.length → path.getD i default = path.getD j default → i = j
theorem pathB_ok {n : LabNet} {path : List Int} : pathB n path = true ↔ PathOk n path := by
 unfold pathB
 simp only [Bool.and_eq_true, decide_eq_true_eq, allB_iff, badP, Bool.or_eq_false_iff, Bool.not_eq_false', Bool.and_eq_false_iff, decide_eq_false_iff_not, Option.isSome_eq_false_iff, Option.isNone_iff_eq_none, first_none]
 constructor
 ·rintro ⟨⟨h1, h2⟩, h3⟩
  refine ⟨by omega, by omega, fun i hi => ?_, fun i hi => ?_, ?_⟩
  ·have := (h3 i hi).1; omega
  ·have := (h3 (i + 1) hi).2.1; simp only [Nat.add_sub_cancel] at this; omega
  ·have key : ∀ i j, j < path.length → i < j → path.getD i default ≠ path.getD j default := fun i j hj hij => (h3 j hj).2.2 i hij
   intro i j hi hj e
   rcases Nat.lt_trichotomy i j with h | h | h
   ·exact absurd e (key i j hj h)
   ·exact h
   ·exact absurd e.symm (key j i hi h)
 ·intro h
  have := h.two; have := h.most
  refine ⟨by omega, fun i hi => ⟨?_, ?_, fun k hk e => ?_⟩⟩
  ·have := h.rng i hi; omega
  ·cases i with
   | zero => left; omega
   | succ i => right; have := h.lnk i hi; simp only [Nat.add_sub_cancel]; omega
  ·have := h.inj k i (by omega) hi e; omega
theorem pathB_T (n : LabNet) (path : List Int) (h : pathB n path = true) : PathOk n path := pathB_ok.1 h
theorem pathB_len (n : LabNet) (path : List Int) (h : pathB n path = true) : path.length ≤ n.Boxes.length := (pathB_ok.1 h).most
theorem as38 (n : LabNet) (path : List Int) : F38 n path = pathB n path := by
 unfold F38 pathB
 rw [search (badP n path) (fun _ => false) path.length _ (fun i hi => by
  simp only [F38_s0, ltD hi, cond_true, nn, bord, bandd, toNat_pred, pos_cast]
  rw [search (fun k => decide (path.getD k default = path.getD i default)) (fun _ => false) i _ (fun k hk => by simp only [F38_s1, ltD hk, cond_true, nn, beqD]) (by simp [F38_s1])]
  unfold badP
  rw [← Bool.or_assoc]
  cases (!decide (0 ≤ path.getD i default ∧ path.getD i default ≤ (n.Boxes.length : Int) - 1) || (decide (0 < i) && decide (linkOf n (path.getD (i - 1) default) (path.getD i default) < 0)))
  ·cases first (fun k => decide (path.getD k default = path.getD i default)) i <;> rfl
  ·rfl) (by simp [F38_s0])]
 cases decide (2 ≤ (path.length : Int) ∧ (path.length : Int) ≤ (n.Boxes.length : Int))
 ·rfl
 ·cases first (badP n path) path.length <;> rfl
theorem mem_take_idx (path : List Int) {i : Nat} (hi : i < path.length) : decide (path.getD i default ∈ path.take i) = (first (fun k => decide (path.getD k default = path.getD i default)) i).isSome := by
 cases e : first (fun k => decide (path.getD k default = path.getD i default)) i with
 | none =>
  have h := first_none.1 e
  refine decide_eq_false fun hm => ?_
  obtain ⟨k, hk, ek⟩ := List.mem_iff_getElem.1 hm
  have hk' : k < i := by simp at hk; omega
  have := h k hk'
  rw [List.getElem_take] at ek
  rw [getD_lt path (by omega), ek] at this
  simp at this
 | some k =>
  obtain ⟨h1, h2, _⟩ := first_some.1 e
  refine decide_eq_true ?_
  rw [← of_decide_eq_true h2, getD_lt path (by omega)]
  have : (path.take i)[k]'(by simp; omega) = path[k] := List.getElem_take
  rw [← this]; exact List.getElem_mem _
theorem as68 (n : LabNet) (path : List Int) (hf : FrameOk n) : F68 n path = pathB n path := by
 unfold F68
 rw [Bool.eq_iff_iff, pathB_ok]
 let q : Nat → Bool := fun i => (first (fun k => decide (path.getD k default = path.getD i default)) i).isSome || (decide (0 < i) && decide (linkOf n (path.getD (i - 1) default) (path.getD i default) < 0))
 rw [search q (fun _ => false) path.length _ (fun i hi => by
  simp only [F68_s0, ltD hi, cond_true, nn, bord, bandd, toNat_pred, pos_cast, mem_take_idx path hi]; rfl) (by simp [F68_s0])]
 have hq : ((!decide (2 ≤ (path.length : Int) ∧ (path.length : Int) ≤ (n.Boxes.length : Int))) = false ∧ first q path.length = none) ↔ PathOk n path := by
  rw [first_none, Bool.not_eq_false', decide_eq_true_eq]
  simp only [q, Bool.or_eq_false_iff, Bool.and_eq_false_iff, decide_eq_false_iff_not, Option.isSome_eq_false_iff, Option.isNone_iff_eq_none, first_none]
  constructor
  ·rintro ⟨⟨h1, h2⟩, h3⟩
   have hl : ∀ i, i + 1 < path.length → 0 ≤ linkOf n (path.getD i default) (path.getD (i + 1) default) := fun i hi => by
    have := (h3 (i + 1) hi).2; simp only [Nat.add_sub_cancel] at this; omega
   refine ⟨by omega, by omega, fun i hi => ?_, hl, ?_⟩
   ·cases i with
    | zero => have := linkOf_in hf (hl 0 (by omega)); omega
    | succ i => have := linkOf_in hf (hl i hi); omega
   ·have key : ∀ i j, j < path.length → i < j → path.getD i default ≠ path.getD j default := fun i j hj hij => (h3 j hj).1 i hij
    intro i j hi hj e
    rcases Nat.lt_trichotomy i j with h | h | h
    ·exact absurd e (key i j hj h)
    ·exact h
    ·exact absurd e.symm (key j i hi h)
  ·intro h
   have := h.two; have := h.most
   refine ⟨by omega, fun i hi => ⟨fun k hk e => ?_, ?_⟩⟩
   ·have := h.inj k i (by omega) hi e; omega
   ·cases i with
    | zero => left; omega
    | succ i => right; have := h.lnk i hi; simp only [Nat.add_sub_cancel]; omega
 rw [← hq]
 cases (!decide (2 ≤ (path.length : Int) ∧ (path.length : Int) ≤ (n.Boxes.length : Int))) <;> cases first q path.length <;> simp
def freeOf (b : LabBox) : Int := match first (fun k => (rowIx b ((k : Int) + 1)).isNone) 60 with
 | some k => (k : Int) + 1
 | none => 0
theorem freeOf_ok {b : LabBox} (h : freeOf b ≠ 0) : isLabel (freeOf b) ∧ rowIx b (freeOf b) = none := by
 unfold freeOf at h ⊢
 cases e : first (fun k => (rowIx b ((k : Int) + 1)).isNone) 60 with
 | none => rw [e] at h; exact absurd rfl h
 | some k =>
  obtain ⟨h1, h2, _⟩ := first_some.1 e
  simp only at h1 h2 ⊢
  exact ⟨⟨by omega, by omega⟩, Option.isNone_iff_eq_none.1 h2⟩
theorem as76 (b : LabBox) : F76 b = freeOf b := by
 unfold F76 freeOf
 rw [show (Int.toNat (60 - 1 + 1)) + 1 = 60 + 1 from rfl]
 rw [search1 (fun k => (rowIx b ((k : Int) + 1)).isNone) (fun k => (k : Int) + 1) 60 _ (fun k hk => by
  simp only [F76_s0]
  rw [show decide ((k : Int) + 1 ≤ 60) = true from decide_eq_true (by omega), cond_true]
  cases rowIx b ((k : Int) + 1) with
  | none => rfl
  | some j => rw [show decide (oix (some j) < 0) = false from decide_eq_false (by simp only [oix]; omega)]; rfl) (by simp [F76_s0])]
theorem as69 (b : LabBox) : F69 b = freeOf b := by
 unfold F69 freeOf
 rw [show (Int.toNat (60 - 1 + 1)) + 1 = 60 + 1 from rfl]
 rw [search1 (fun k => (rowIx b ((k : Int) + 1)).isNone) (fun k => (k : Int) + 1) 60 _ (fun k hk => by
  simp only [F69_s0]
  rw [show decide ((k : Int) + 1 ≤ 60) = true from decide_eq_true (by omega), cond_true]
  unfold rowP
  cases rowIx b ((k : Int) + 1) <;> rfl) (by simp [F69_s0])]
theorem free_new {b : LabBox} (h : freeOf b ≠ 0) : ∀ r ∈ b.Rows, r.In ≠ freeOf b := by
 intro r hr e
 obtain ⟨k, hk, rfl⟩ := mem_getD hr
 have := first_none.1 (freeOf_ok h).2 k hk
 rw [e] at this; simp at this
end Go.Proofs.YtmiolofjlfnohaaGreat
namespace Go.Proofs.YtmiolofjlfnohaaGreat
open Go.RowKit
set_option maxRecDepth 100000
set_option linter.unusedVariables false
set_option linter.unusedSimpArgs false
def BoxP (n : LabNet) (i : Int) (b : LabBox) : Prop :=
 ((∀ r ∈ b.Rows, rowOk n i r) ∧ b.Rows.Pairwise (fun x y => x.In < y.In)) ∧ (∀ v ∈ b.Guards, viaOk n i v) ∧ b.Guards.Pairwise (fun x y => x.To < y.To)
theorem pair_inc {α : Type} [Inhabited α] {xs : List α} {f : α → Int} (h : xs.Pairwise (fun a b => f a < f b)) (k : Nat) (hk : k + 1 < xs.length) : f (xs.getD k default) < f (xs.getD (k + 1) default) := by
 rw [getD_lt xs (by omega), getD_lt xs hk]
 exact List.pairwise_iff_getElem.1 h k (k + 1) (by omega) hk (by omega)
theorem boxP_ok {n : LabNet} {i : Nat} : BoxOk n i ↔ BoxP n i (n.Boxes.getD i default) := by
 constructor
 ·intro h
  refine ⟨⟨fun r hr => ?_, inc_pair _ (fun r : LabRow => r.In) h.rinc⟩, fun v hv => ?_, inc_pair _ (fun r : LabVia => r.To) h.vinc⟩
  ·obtain ⟨k, hk, rfl⟩ := mem_getD hr; exact h.row k hk
  ·obtain ⟨k, hk, rfl⟩ := mem_getD hv; exact h.via k hk
 ·rintro ⟨⟨h1, h2⟩, h3, h4⟩
  exact ⟨fun k hk => h1 _ (getD_mem _ hk), fun k hk => pair_inc (f := fun r : LabRow => r.In) h2 k hk, fun k hk => h3 _ (getD_mem _ hk), fun k hk => pair_inc (f := fun r : LabVia => r.To) h4 k hk⟩
theorem getD_set {α : Type} [Inhabited α] (xs : List α) (i : Nat) (x : α) (k : Nat) : (xs.set i x).getD k default = if i = k ∧ k < xs.length then x else xs.getD k default := by
 rw [List.getD_eq_getElem?_getD, List.getElem?_set]
 by_cases h1 : i = k
 ·subst h1
  by_cases h2 : i < xs.length
  ·simp [h2]
  ·rw [if_pos rfl, if_neg h2, if_neg (by simp [h2]), getD_ge _ (by omega)]; rfl
 ·simp [h1, List.getD_eq_getElem?_getD]
theorem netOk_set {n : LabNet} (h : NetOk n) {i : Nat} {b : LabBox} (hb : BoxP n i b) : NetOk ⟨n.Links, n.Boxes.set i b⟩ := by
 obtain ⟨f, g⟩ := h
 refine ⟨⟨by simpa using f.b1, by simpa using f.b8, f.l14, fun k hk => ?_, f.inc⟩, fun k hk => ?_⟩
 ·have := f.ab k hk
  simpa using this
 ·have hk' : k < n.Boxes.length := by simpa using hk
  rw [boxP_ok]
  show BoxP n k ((n.Boxes.set i b).getD k default)
  rw [getD_set]
  by_cases e : i = k
  ·subst e; rw [if_pos ⟨rfl, hk'⟩]; exact hb
  ·rw [if_neg (fun h => e h.1)]; exact boxP_ok.1 (g k hk')
def rowAt (path labels : List Int) (i : Nat) : LabRow :=
 ⟨labels.getD i default, bif decide ((i : Int) + 1 < (path.length : Int)) then path.getD (i + 1) default else -1, bif decide ((i : Int) + 1 < (path.length : Int)) then labels.getD (i + 1) default else 0⟩
def layTo (n : LabNet) (path labels : List Int) : Nat → List LabBox
 | 0 => n.Boxes
 | i + 1 => (layTo n path labels i).set (path.getD i default).toNat ⟨putK (fun x : LabRow => x.In) ((layTo n path labels i).getD (path.getD i default).toNat default).Rows (rowAt path labels i), ((layTo n path labels i).getD (path.getD i default).toNat default).Guards⟩
theorem layTo_len (n : LabNet) (path labels : List Int) : ∀ i, (layTo n path labels i).length = n.Boxes.length
 | 0 => rfl
 | i + 1 => by simp [layTo, layTo_len n path labels i]
theorem PathOk.ne {n : LabNet} {path : List Int} (h : PathOk n path) {i j : Nat} (hi : i < path.length) (hj : j < path.length) (hij : i ≠ j) : Int.toNat (path.getD i default) ≠ Int.toNat (path.getD j default) := fun e => by
 have h1 := h.rng i hi; have h2 := h.rng j hj
 exact hij (h.inj i j hi hj (by omega))
theorem layTo_at {n : LabNet} {path : List Int} (h : PathOk n path) (labels : List Int) : ∀ i j, i ≤ j → j < path.length → (layTo n path labels i).getD (path.getD j default).toNat default = n.Boxes.getD (path.getD j default).toNat default
 | 0, _, _, _ => rfl
 | i + 1, j, hij, hj => by
  rw [layTo, getD_set, if_neg (fun e => h.ne (by omega) hj (by omega) e.1)]
  exact layTo_at h labels i j (by omega) hj
def freeOn (n : LabNet) (b : Int) : Int := freeOf (n.Boxes.getD b.toNat default)
structure LayP (n : LabNet) (path labels : List Int) : Prop where
 net : NetOk n
 pth : PathOk n path
 lab : labels = path.map (freeOn n)
 nz : ∀ x ∈ labels, x ≠ 0
theorem LayP.len {n : LabNet} {path labels : List Int} (h : LayP n path labels) : labels.length = path.length := by rw [h.lab, List.length_map]
theorem LayP.at_ {n : LabNet} {path labels : List Int} (h : LayP n path labels) {i : Nat} (hi : i < path.length) : labels.getD i default = freeOf (n.Boxes.getD (path.getD i default).toNat default) ∧ freeOf (n.Boxes.getD (path.getD i default).toNat default) ≠ 0 := by
 have hl := h.len
 have e : labels.getD i default = freeOf (n.Boxes.getD (path.getD i default).toNat default) := by rw [h.lab, getD_mapL _ _ hi]; rfl
 exact ⟨e, e ▸ h.nz _ (getD_mem _ (by omega))⟩
theorem LayP.lbl {n : LabNet} {path labels : List Int} (h : LayP n path labels) {i : Nat} (hi : i < path.length) : isLabel (labels.getD i default) := by
 obtain ⟨h1, h2⟩ := h.at_ hi
 rw [h1]; exact (freeOf_ok h2).1
theorem LayP.row {n : LabNet} {path labels : List Int} (h : LayP n path labels) {i : Nat} (hi : i < path.length) : rowOk n (path.getD i default) (rowAt path labels i) := by
 refine ⟨h.lbl hi, ?_⟩
 by_cases hx : (i : Int) + 1 < (path.length : Int)
 ·right
  simp only [rowAt, decide_eq_true hx, cond_true]
  exact ⟨h.pth.lnk i (by omega), h.lbl (by omega)⟩
 ·left
  simp [rowAt, decide_eq_false hx]
theorem LayP.new {n : LabNet} {path labels : List Int} (h : LayP n path labels) {i : Nat} (hi : i < path.length) : ∀ r ∈ (n.Boxes.getD (path.getD i default).toNat default).Rows, r.In ≠ (rowAt path labels i).In := by
 obtain ⟨h1, h2⟩ := h.at_ hi
 intro r hr
 show r.In ≠ labels.getD i default
 rw [h1]; exact free_new h2 r hr
theorem LayP.box {n : LabNet} {path labels : List Int} (h : LayP n path labels) {i : Nat} (hi : i < path.length) : BoxP n (path.getD i default) (n.Boxes.getD (path.getD i default).toNat default) := by
 have := h.pth.rng i hi
 have hb := boxP_ok.1 (h.net.box (path.getD i default).toNat (by omega))
 rwa [show ((Int.toNat (path.getD i default) : Nat) : Int) = path.getD i default from by omega] at hb
theorem LayP.putOk {n : LabNet} {path labels : List Int} (h : LayP n path labels) {i : Nat} (hi : i < path.length) :
  BoxP n (path.getD i default) ⟨putK (fun x : LabRow => x.In) (n.Boxes.getD (path.getD i default).toNat default).Rows (rowAt path labels i), (n.Boxes.getD (path.getD i default).toNat default).Guards⟩ := by
 obtain ⟨⟨h1, h2⟩, h3⟩ := h.box hi
 refine ⟨⟨fun r hr => ?_, putK_inc (fun x : LabRow => x.In) _ _ h2 (h.new hi)⟩, h3⟩
 rcases putK_mem.1 hr with hr | rfl
 ·exact h1 r hr
 ·exact h.row hi
theorem LayP.netTo {n : LabNet} {path labels : List Int} (h : LayP n path labels) : ∀ i, i ≤ path.length → NetOk ⟨n.Links, layTo n path labels i⟩
 | 0, _ => h.net
 | i + 1, hi => by
  have ih := h.netTo i (by omega)
  have hr := h.pth.rng i (by omega)
  rw [layTo, layTo_at h.pth labels i i (Nat.le_refl _) (by omega)]
  have hb := h.putOk (i := i) (by omega)
  exact netOk_set (n := ⟨n.Links, layTo n path labels i⟩) ih (i := Int.toNat (path.getD i default)) (by
   rw [show ((Int.toNat (path.getD i default) : Nat) : Int) = path.getD i default from by omega]; exact hb)
structure LayS (n : LabNet) (path labels : List Int) (i : Int) (xs : List LabBox) : Prop where
 p : LayP n path labels
 hi : 0 ≤ i
 hl : i ≤ (path.length : Int)
 xs : xs = layTo n path labels i.toNat
theorem LayS.zero {n : LabNet} {path labels : List Int} (h : LayP n path labels) : LayS n path labels 0 n.Boxes := ⟨h, by omega, by omega, rfl⟩
theorem LayS.in_ {n : LabNet} {path labels : List Int} {i : Int} {xs : List LabBox} (h : LayS n path labels i xs) (hi : i < (path.length : Int)) :
  0 ≤ path.getD i.toNat default ∧ path.getD i.toNat default < (xs.length : Int) ∧ (xs.getD (path.getD i.toNat default).toNat default).Rows.length ≤ 60 := by
 obtain ⟨p, h0, _, rfl⟩ := h
 have := p.pth.rng i.toNat (by omega)
 rw [layTo_len, layTo_at p.pth labels i.toNat i.toNat (Nat.le_refl _) (by omega)]
 exact ⟨this.1, this.2, NetOk.rows p.net _⟩
theorem LayS.sort {n : LabNet} {path labels : List Int} {i : Int} {xs : List LabBox} (h : LayS n path labels i xs) (hi : i < (path.length : Int)) {r : LabRow} (hr : r = rowAt path labels i.toNat) :
  SortPre (fun (x0 : LabRow) (x1 : LabRow) => F71 x0 x1) ((xs.getD (path.getD i.toNat default).toNat default).Rows ++ [r]) ∧
  sortL (fun (x0 : LabRow) (x1 : LabRow) => F71 x0 x1) ((xs.getD (path.getD i.toNat default).toNat default).Rows ++ [r]) = putK (fun x : LabRow => x.In) (xs.getD (path.getD i.toNat default).toNat default).Rows r := by
 obtain ⟨p, h0, _, rfl⟩ := h
 subst hr
 have hk : Int.toNat i < path.length := by omega
 rw [layTo_at p.pth labels i.toNat i.toNat (Nat.le_refl _) hk]
 obtain ⟨⟨h1, h2⟩, _⟩ := p.box hk
 have hl : ∀ a ∈ (n.Boxes.getD (path.getD i.toNat default).toNat default).Rows ++ [rowAt path labels i.toNat], 1 ≤ a.In ∧ a.In ≤ 60 := by
  intro a ha
  rcases List.mem_append.1 ha with ha | ha
  ·exact (h1 a ha).1
  ·rw [List.mem_singleton.1 ha]; exact (p.row hk).1
 exact sort_put (fun x : LabRow => x.In) _ _ _ h2 (p.new hk) fun a ha b hb => by
  have := hl a ha; have := hl b hb
  unfold F71
  rw [wrap_of (by omega) (by omega)]
  omega
theorem LayS.next {n : LabNet} {path labels : List Int} {i : Int} {xs : List LabBox} (h : LayS n path labels i xs) (hi : i < (path.length : Int)) {r : LabRow} (hr : r = rowAt path labels i.toNat) :
  LayS n path labels (i + 1) (xs.set (path.getD i.toNat default).toNat ⟨putK (fun x : LabRow => x.In) (xs.getD (path.getD i.toNat default).toNat default).Rows r, (xs.getD (path.getD i.toNat default).toNat default).Guards⟩) := by
 obtain ⟨p, h0, _, rfl⟩ := h
 subst hr
 refine ⟨p, by omega, by omega, ?_⟩
 rw [show Int.toNat (i + 1) = Int.toNat i + 1 from by omega]; rfl
theorem LayS.next' {n : LabNet} {path labels : List Int} {i : Int} {xs : List LabBox} (h : LayS n path labels i xs) (hi : i < (path.length : Int)) {r : LabRow} (hr : r = rowAt path labels i.toNat) :
  LayS n path labels (i + 1) (xs.set (path.getD i.toNat default).toNat ⟨sortL (fun (x0 : LabRow) (x1 : LabRow) => F71 x0 x1) ((xs.getD (path.getD i.toNat default).toNat default).Rows ++ [r]), (xs.getD (path.getD i.toNat default).toNat default).Guards⟩) := by
 rw [(h.sort hi hr).2]; exact h.next hi hr
theorem rowAt_T {path labels : List Int} {i : Int} (h0 : 0 ≤ i) (h : i + 1 < (path.length : Int)) : (⟨labels.getD i.toNat default, path.getD (i + 1).toNat default, labels.getD (i + 1).toNat default⟩ : LabRow) = rowAt path labels i.toNat := by
 unfold rowAt
 rw [decide_eq_true (show ((Int.toNat i : Nat) : Int) + 1 < (path.length : Int) from by omega), show Int.toNat (i + 1) = Int.toNat i + 1 from by omega]
 rfl
theorem rowAt_F {path labels : List Int} {i : Int} (h0 : 0 ≤ i) (h : ¬ i + 1 < (path.length : Int)) : (⟨labels.getD i.toNat default, -1, 0⟩ : LabRow) = rowAt path labels i.toNat := by
 unfold rowAt
 rw [decide_eq_false (show ¬ ((Int.toNat i : Nat) : Int) + 1 < (path.length : Int) from by omega)]
 rfl
theorem PathOk.in_ {n : LabNet} {path : List Int} (h : PathOk n path) {i : Int} (h0 : 0 ≤ i) (hi : i < (path.length : Int)) : 0 ≤ path.getD i.toNat default ∧ path.getD i.toNat default < (n.Boxes.length : Int) := h.rng _ (by omega)
structure LabI (n : LabNet) (path : List Int) (i : Int) (xs : List Int) : Prop where
 hi : 0 ≤ i
 hl : i ≤ (path.length : Int)
 eq : xs = (path.take i.toNat).map (freeOn n)
 nz : ∀ x ∈ xs, x ≠ 0
theorem LabI.zero (n : LabNet) (path : List Int) : LabI n path 0 [] := ⟨by omega, by omega, rfl, fun x hx => by cases hx⟩
theorem LabI.next {n : LabNet} {path : List Int} {i : Int} {xs : List Int} (h : LabI n path i xs) (hi : i < (path.length : Int)) (hz : ¬ freeOf (n.Boxes.getD (path.getD i.toNat default).toNat default) = 0) :
  LabI n path (i + 1) (xs ++ [freeOf (n.Boxes.getD (path.getD i.toNat default).toNat default)]) := by
 obtain ⟨h0, _, rfl, h3⟩ := h
 refine ⟨by omega, by omega, ?_, fun x hx => ?_⟩
 ·rw [show Int.toNat (i + 1) = Int.toNat i + 1 from by omega, take_next (by omega), List.map_append]; rfl
 ·rcases List.mem_append.1 hx with hx | hx
  ·exact h3 x hx
  ·rw [List.mem_singleton.1 hx]; exact hz
theorem LabI.done {n : LabNet} {path : List Int} {i : Int} {xs : List Int} (h : LabI n path i xs) (hi : ¬ i < (path.length : Int)) (hn : NetOk n) (hp : PathOk n path) : LayP n path xs := by
 obtain ⟨h0, h1, h2, h3⟩ := h
 rw [List.take_of_length_le (by omega)] at h2
 exact ⟨hn, hp, h2, h3⟩
theorem LabI.len {n : LabNet} {path : List Int} {i : Int} {xs : List Int} (h : LabI n path i xs) : (xs.length : Int) = i := by
 obtain ⟨h0, h1, h2, h3⟩ := h
 rw [h2, List.length_map, List.length_take]; omega
theorem whilePut {α ρ : Type} [Inhabited α] (key : α → Int) (xs : List α) (r : α) (step : Int → Lp Int ρ) (hs : ∀ k, step k = bif (bif decide (k < (xs.length : Int)) then decide (key (xs.getD k.toNat default) < key r) else false) then .next (k + 1) else .done k) :
  runL step (((xs.length : Int) - 0).toNat + 1) 0 = .done (stopAt (fun k => decide (key (xs.getD k default) < key r)) xs.length : Int) := by
 rw [n0]
 refine whileL _ _ step fun k hk => ?_
 rw [hs, bandd, nn]
 congr 2
 simp
theorem as77 (list : List LabRow) (r1 : LabRow) : F77 list r1 = putK (fun x : LabRow => x.In) list r1 := by
 unfold F77 F77_j0 putK
 rw [whilePut (fun x : LabRow => x.In) list r1 (F77_s0 list r1) (fun k => rfl)]
 simp only [Lp.fin, nn, List.nil_append]
end Go.Proofs.YtmiolofjlfnohaaGreat
namespace Go.Proofs.YtmiolofjlfnohaaGreat
open Go.RowKit
set_option maxRecDepth 100000
set_option linter.unusedVariables false
set_option linter.unusedSimpArgs false
def T68 (R:Bool) (n:LabNet) (path:List Int):Spec := ⟨(S68 R n path).args,(S68 R n path).res,FrameOk n⟩
theorem oa68 (n:LabNet) (path:List Int):(T68 (pathB n path) n path).ok Tryz.prog 68 := by
 intro hp; have h := ok68 n path hp; rw [as68 n path hp] at h; exact h
theorem oa69 (b:LabBox):(S69 (freeOf b) b).ok Tryz.prog 69 := by
 intro hp; have h := ok69 b hp; rw [as69 b] at h; exact h
theorem oa38 (n:LabNet) (path:List Int):(S38 (pathB n path) n path).ok Tryz.prog 38 := by
 intro hp; have h := ok38 n path hp; rw [as38 n path] at h; exact h
theorem oa76 (b:LabBox):(S76 (freeOf b) b).ok Tryz.prog 76 := by
 intro hp; have h := ok76 b hp; rw [as76 b] at h; exact h
def T77 (R:List LabRow) (list:List LabRow) (r1:LabRow):Spec := ⟨(S77 R list r1).args,(S77 R list r1).res,list.length ≤ 1000000000⟩
theorem oa77 (list:List LabRow) (r1:LabRow):(T77 (putK (fun x:LabRow=>x.In) list r1) list r1).ok Tryz.prog 77 := by
 intro hp; have h := ok77 list r1 hp; rw [as77 list r1] at h; exact h
def fs105 (p:LabRow → LabRow → Int):FnSpec := ⟨LabRow × LabRow,fun i=>[.g (eLabRow i.1),.g (eLabRow i.2)],fun i=>.int .i64 (p i.1 i.2)⟩
def F70 (x9:List LabRow) (cmp:LabRow → LabRow → Int):List LabRow :=
 sortL cmp x9
def S70 (x9:List LabRow) (cmp:LabRow → LabRow → Int):Spec := ⟨[.ow (.l 3 eLabRow x9) (some (.l 3 eLabRow (F70 x9 cmp))),.fn (fs105 cmp)],.tu [],SortPre cmp x9∧x9.length ≤ 4000000000000000000⟩
theorem ok70 (x9:List LabRow) (cmp:LabRow → LabRow → Int):(S70 x9 cmp).ok Tryz.prog 70 :=
 sort_ok lay70 lay70a lay70z eLabRow (fun x=>⟨rfl,fun d hd=>by simp only [eLabRow,List.mem_cons,List.not_mem_nil,or_false] at hd; rcases hd with rfl | rfl | rfl <;> exact ⟨_,rfl,rfl⟩⟩) cmp x9
def F34_s0 (n:LabNet) (path:List Int):(List Int × Int) → Lp (List Int × Int) (Int × Int × LabNet) := fun (labels1,v23) =>
 bif (decide (v23 < (path.length:Int))) then (bif ((freeOf (n.Boxes.getD (path.getD v23.toNat default).toNat default)) == 0) then (.ret (0,3,n)) else (.next ((labels1 ++ [(freeOf (n.Boxes.getD (path.getD v23.toNat default).toNat default))]),(v23 + 1)))) else (.done (labels1,v23))
def F34_j0 (n:LabNet) (path:List Int):Lp (List Int) (Int × Int × LabNet) :=
 (runL (F34_s0 n path) (((path.length:Int) - 0).toNat + 1) (([]:List Int),0)).fin Lp.ret (fun (labels1,v23)=>.done labels1)
def F34_j3 (n:LabNet) (path:List Int) (labels:List Int) (v44:Int) (xs:List LabBox):Lp (Int × Int) (Int × Int × LabNet) :=
 bif (decide ((v44 + 1) < (path.length:Int))) then (.done ((path.getD (v44 + 1).toNat default),(labels.getD (v44 + 1).toNat default))) else (.done ((-1),0))
def F34_s1 (n:LabNet) (path:List Int) (labels:List Int):(Int × List LabBox) → Lp (Int × List LabBox) (Int × Int × LabNet) := fun (v44,xs) =>
 bif (decide (v44 < (path.length:Int))) then ((F34_j3 n path labels v44 xs).fin Lp.ret (fun (r1,r2)=>.next ((v44 + 1),(xs.set ((path.getD v44.toNat default)).toNat (⟨(F70 (((xs.getD (path.getD v44.toNat default).toNat default).Rows) ++ [(⟨(labels.getD v44.toNat default),r1,r2⟩:LabRow)]) (fun (x0:LabRow) (x1:LabRow)=>F71 x0 x1)),(xs.getD (path.getD v44.toNat default).toNat default).Guards⟩:LabBox))))) else (.done (v44,xs))
def F34 (n:LabNet) (path:List Int):Int × Int × LabNet :=
 bif (!(pathB n path)) then (0,2,n) else ((F34_j0 n path).fin (fun r=>r) (fun labels=>(runL (F34_s1 n path labels) (((path.length:Int) - 0).toNat + 1) (0,n.Boxes)).fin (fun r=>r) (fun (v44,xs)=>((labels.getD (Int.toNat 0) default),0,(⟨n.Links,xs⟩:LabNet)))))
def S34 (R:Int × Int × LabNet) (n:LabNet) (path:List Int):Spec := ⟨[.pt 26 (eLabNet n) (eLabNet R.2.2),.r (.c (.l 1 eInt path))],.tu [.v (vI R.1),.v (vI R.2.1)],NetOk n∧n.Boxes.length ≤ 8⟩
theorem ok34 (n:LabNet) (path:List Int):(S34 (F34 n path) n path).ok Tryz.prog 34 :=
 fnG_ok mixed (fn := Tryz.f34) (ct := .seqk [(0,0),(0,1),(1,0)] (.no) (.seq (.seq (.reg [(4,.call 68 (T68 (pathB n path) n path) (oa68 n path) none)]) (.cond (.seq (.no) (.no)) (.no))) (.seq (.reg [(0,.dat (.l 1 eInt ([]:List Int)))]) (.cut (ι := List Int) (fun j=>(fun (labels:List Int)=>(⟨[(0,some (.p 0 0)),(1,some (.h 3 0)),(6,some (.h 4 0))],[(0,some (.box 26 [.h 1 0,.h 2 0])),(1,some (.own 1 (.l 2 eLabLink n.Links))),(2,some (.own 2 (.l 2 eLabBox n.Boxes))),(3,some (.shr none (.l 1 eInt path))),(4,some (.own 4 (.l 1 eInt labels)))],5⟩:St)) j) (fun j=>(fun (labels:List Int)=>((F34_j0 n path)=Lp.done j∧LayP n path labels∧labels.length=path.length∧2 ≤ path.length)) j) (.seqk [(0,0),(0,1),(6,0),(21,0)] (.no) (.blk (.loop (ι := Nat × (List Int × Int)) (fun i=>(fun (labels1:List Int) (v23:Int)=>(⟨[(0,some (.p 0 0)),(1,some (.h 3 0)),(6,some (.h 4 0)),(21,some (.h 3 0)),(22,some (.v (vI (path.length:Int)))),(23,some (.v (vI v23)))],[(0,some (.box 26 [.h 1 0,.h 2 0])),(1,some (.own 1 (.l 2 eLabLink n.Links))),(2,some (.own 2 (.l 2 eLabBox n.Boxes))),(3,some (.shr none (.l 1 eInt path))),(4,some (.own 4 (.l 1 eInt labels1)))],5⟩:St)) i.2.1 i.2.2) (fun i=>runL (F34_s0 n path) i.1 i.2=(runL (F34_s0 n path) (((path.length:Int) - 0).toNat + 1) (([]:List Int),0))∧(fun (labels1:List Int) (v23:Int)=>(Int.toNat ((path.length:Int) - v23) < i.1∧LabI n path v23 labels1∧(labels1.length:Int)=v23∧v23 ≤ (path.length:Int)∧(v23 < (path.length:Int) → 0 ≤ path.getD v23.toNat default∧path.getD v23.toNat default < (n.Boxes.length:Int))∧(0:Int) ≤ v23)) i.2.1 i.2.2) (fun i=>i.1) ((((path.length:Int) - 0).toNat + 1),(([]:List Int),0)) (fun i=>(fun (labels1:List Int) (v23:Int)=>(.seq (.no) (.seq (.cond (.no) (.no)) (.seq (.blk (.seq (.no) (.seq (.reg [(7,.call 69 (S69 (freeOf (n.Boxes.getD (path.getD v23.toNat default).toNat default)) (n.Boxes.getD (path.getD v23.toNat default).toNat default)) (oa69 (n.Boxes.getD (path.getD v23.toNat default).toNat default)) none)]) (.seq (.seq (.no) (.cond (.seq (.no) (.no)) (.no))) (.reg [(3,.dat (.l 1 eInt (labels1 ++ [(freeOf (n.Boxes.getD (path.getD v23.toNat default).toNat default))])))]))))) (.reg [(0,.bnd)]))))) i.2.1 i.2.2)))) (fun j=>(fun (labels:List Int)=>(.seq (.seqk [(0,0),(0,1),(1,0),(6,0),(42,0)] (.no) (.blk (.loop (ι := Nat × (Int × List LabBox)) (fun i=>(fun (v44:Int) (xs:List LabBox)=>(⟨[(0,some (.p 0 0)),(1,some (.h 3 0)),(6,some (.h 4 0)),(42,some (.h 3 0)),(43,some (.v (vI (path.length:Int)))),(44,some (.v (vI v44)))],[(0,some (.box 26 [.h 1 0,.h 2 0])),(1,some (.own 1 (.l 2 eLabLink n.Links))),(2,some (.own 2 (.l 2 eLabBox xs))),(3,some (.shr none (.l 1 eInt path))),(4,some (.own 4 (.l 1 eInt labels)))],5⟩:St)) i.2.1 i.2.2) (fun i=>runL (F34_s1 n path labels) i.1 i.2=(runL (F34_s1 n path labels) (((path.length:Int) - 0).toNat + 1) (0,n.Boxes))∧(fun (v44:Int) (xs:List LabBox)=>(Int.toNat ((path.length:Int) - v44) < i.1∧LayS n path labels v44 xs∧(v44 < (path.length:Int) → 0 ≤ path.getD v44.toNat default∧path.getD v44.toNat default < (xs.length:Int)∧(xs.getD (path.getD v44.toNat default).toNat default).Rows.length ≤ 60)∧labels.length=path.length∧(0:Int) ≤ v44∧xs.length=n.Boxes.length)) i.2.1 i.2.2) (fun i=>i.1) ((((path.length:Int) - 0).toNat + 1),(0,n.Boxes)) (fun i=>(fun (v44:Int) (xs:List LabBox)=>(.seq (.no) (.seq (.cond (.no) (.no)) (.seq (.blk (.seq (.no) (.seq (.no) (.cut (ι := Int × Int) (fun j=>(fun (r1:Int) (r2:Int)=>(⟨[(0,some (.p 0 0)),(1,some (.h 3 0)),(6,some (.h 4 0)),(11,some (.v (vI (path.getD v44.toNat default)))),(12,some (.p 5 0)),(42,some (.h 3 0)),(43,some (.v (vI (path.length:Int)))),(44,some (.v (vI v44)))],[(0,some (.box 26 [.h 1 0,.h 2 0])),(1,some (.own 1 (.l 2 eLabLink n.Links))),(2,some (.own 2 (.l 2 eLabBox xs))),(3,some (.shr none (.l 1 eInt path))),(4,some (.own 4 (.l 1 eInt labels))),(5,some (.box 66 [.v (vI (labels.getD v44.toNat default)),.v (vI r1),.v (vI r2)]))],6⟩:St)) j.1 j.2) (fun j=>(fun (r1:Int) (r2:Int)=>((F34_j3 n path labels v44 xs)=Lp.done j∧(⟨labels.getD v44.toNat default,r1,r2⟩:LabRow)=rowAt path labels v44.toNat)) j.1 j.2) (.seq (.reg [(1,.bnd)]) (.cond (.reg [(2,.bnd),(7,.bnd)]) (.no))) (fun j=>(fun (r1:Int) (r2:Int)=>(.seq (.reg [(7,.take (.l 2 (encH 0 eLabBox) ((xs.map hz).set ((path.getD v44.toNat default)).toNat ((xs.getD (path.getD v44.toNat default).toNat default),true)))),(10,.dat (.l 3 eLabRow (((xs.getD (path.getD v44.toNat default).toNat default).Rows) ++ [(⟨(labels.getD v44.toNat default),r1,r2⟩:LabRow)])))]) (.seq (.reg [(1,.call 70 (S70 (((xs.getD (path.getD v44.toNat default).toNat default).Rows) ++ [(⟨(labels.getD v44.toNat default),r1,r2⟩:LabRow)]) (fun (x0:LabRow) (x1:LabRow)=>F71 x0 x1)) (ok70 (((xs.getD (path.getD v44.toNat default).toNat default).Rows) ++ [(⟨(labels.getD v44.toNat default),r1,r2⟩:LabRow)]) (fun (x0:LabRow) (x1:LabRow)=>F71 x0 x1)) (some ⟨71,fs105 (fun (x0:LabRow) (x1:LabRow)=>F71 x0 x1),[],rfl,True,fun i=>(ok71 i.1 i.2)⟩))]) (.reg [(6,.ix [.any,.l 3 eLabVia ((xs.getD (path.getD v44.toNat default).toNat default).Guards)]),(8,.dat (.l 2 eLabBox (xs.set ((path.getD v44.toNat default)).toNat (⟨(F70 (((xs.getD (path.getD v44.toNat default).toNat default).Rows) ++ [(⟨(labels.getD v44.toNat default),r1,r2⟩:LabRow)]) (fun (x0:LabRow) (x1:LabRow)=>F71 x0 x1)),(xs.getD (path.getD v44.toNat default).toNat default).Guards⟩:LabBox))))])))) j.1 j.2))))) (.reg [(0,.bnd)]))))) i.2.1 i.2.2)))) (.seq (.no) (.no)))) j))))) Tryz.func34 (fun (hp:NetOk n∧n.Boxes.length ≤ 8)=>(fun (hpre0:NetOk n) (hpre1:n.Boxes.length ≤ 8)=>fun (_:n.Links.length ≤ 9223372036854775807)=>fun (_:n.Boxes.length ≤ 9223372036854775807)=>fun (_:path.length ≤ 9223372036854775807)=>ai (((by first | assumption | exact NetOk.frame (by assumption):FrameOk n))) (ai ((Imps.refl (eLabNet n))) (ai ((Imp.refl (.l 1 eInt path))) (ai (fun h1:(!(pathB n path))=true=>(fun hF:(0,2,n)=(F34 n path)=>ai (congrArg (fun r:Int × Int × LabNet=>(.int .i64 r.1:Value)) hF) (ai (congrArg (fun r:Int × Int × LabNet=>(.int .i64 r.2.1:Value)) hF) (ai (ai (Imp.of_eq (congrArg (fun r:Int × Int × LabNet=>Dat.l 2 eLabLink r.2.2.Links) hF)) (ai (Imp.of_eq (congrArg (fun r:Int × Int × LabNet=>Dat.l 2 eLabBox r.2.2.Boxes) hF)) (trivial))) (trivial)))) (condT h1 (rfl))) (fun h1:(!(pathB n path))=false=>(fun _:path.length ≤ n.Boxes.length=>(fun _:PathOk n path=>ai ((BuildOK.mk eInt ([]:List Int) rfl (by exact trivial) (fun _=>rfl):BuildOK 0 1 [] (.l 1 eInt ([]:List Int)))) (ai (fun (_:n.Links.length ≤ 9223372036854775807)=>fun (_:n.Boxes.length ≤ 9223372036854775807)=>fun (_:([]:List Int).length ≤ 9223372036854775807)=>fun (_:path.length ≤ 9223372036854775807)=>ai (ai (rfl) (ai (rfl) (ai ((Imp.refl _)) (ai ((Imp.refl _)) (ai ((Imp.refl _)) (ai ((Imp.refl _)) ((ai (rfl:runL (F34_s0 n path) (((path.length:Int) - 0).toNat + 1) (([]:List Int),0)=(runL (F34_s0 n path) (((path.length:Int) - 0).toNat + 1) (([]:List Int),0))) (ai ((Nat.lt_succ_self _:Int.toNat ((path.length:Int) - 0) < (((path.length:Int) - 0).toNat + 1))) (ai ((by first | omega | (simp only [lens] at * <;> omega) | (exact LabI.zero _ _) | (exact LabI.next (by assumption) (by assumption) (by assumption)) | (exact fun hi=>PathOk.in_ (by assumption) (by omega) hi):LabI n path 0 ([]:List Int))) (ai ((by first | omega | (simp only [lens] at * <;> omega) | (exact LabI.zero _ _) | (exact LabI.next (by assumption) (by assumption) (by assumption)) | (exact fun hi=>PathOk.in_ (by assumption) (by omega) hi):(([]:List Int).length:Int)=0)) (ai ((by first | omega | (simp only [lens] at * <;> omega) | (exact LabI.zero _ _) | (exact LabI.next (by assumption) (by assumption) (by assumption)) | (exact fun hi=>PathOk.in_ (by assumption) (by omega) hi):0 ≤ (path.length:Int))) (ai ((by first | omega | (simp only [lens] at * <;> omega) | (exact LabI.zero _ _) | (exact LabI.next (by assumption) (by assumption) (by assumption)) | (exact fun hi=>PathOk.in_ (by assumption) (by omega) hi):0 < (path.length:Int) → 0 ≤ path.getD (Int.toNat 0) default∧path.getD (Int.toNat 0) default < (n.Boxes.length:Int))) ((by first | omega | (simp only [lens] at * <;> omega) | (exact LabI.zero _ _) | (exact LabI.next (by assumption) (by assumption) (by assumption)) | (exact fun hi=>PathOk.in_ (by assumption) (by omega) hi):(0:Int) ≤ 0)))))))))))))):((.int .i64 (path.length:Int):Value)=.int .i64 (path.length:Int))∧((.int .i64 0:Value)=.int .i64 0)∧(Imp (.l 2 eLabLink n.Links) (.l 2 eLabLink n.Links))∧(Imp (.l 2 eLabBox n.Boxes) (.l 2 eLabBox n.Boxes))∧(Imp (.l 1 eInt path) (.l 1 eInt path))∧(Imp (.l 1 eInt ([]:List Int)) (.l 1 eInt ([]:List Int)))∧(runL (F34_s0 n path) (((path.length:Int) - 0).toNat + 1) (([]:List Int),0)=(runL (F34_s0 n path) (((path.length:Int) - 0).toNat + 1) (([]:List Int),0))∧Int.toNat ((path.length:Int) - 0) < (((path.length:Int) - 0).toNat + 1)∧LabI n path 0 ([]:List Int)∧(([]:List Int).length:Int)=0∧0 ≤ (path.length:Int)∧(0 < (path.length:Int) → 0 ≤ path.getD (Int.toNat 0) default∧path.getD (Int.toNat 0) default < (n.Boxes.length:Int))∧(0:Int) ≤ 0)) (fun (i0:Nat × (List Int × Int)) (hi0:runL (F34_s0 n path) i0.1 i0.2=(runL (F34_s0 n path) (((path.length:Int) - 0).toNat + 1) (([]:List Int),0))∧(fun (labels1:List Int) (v23:Int)=>(Int.toNat ((path.length:Int) - v23) < i0.1∧LabI n path v23 labels1∧(labels1.length:Int)=v23∧v23 ≤ (path.length:Int)∧(v23 < (path.length:Int) → 0 ≤ path.getD v23.toNat default∧path.getD v23.toNat default < (n.Boxes.length:Int))∧(0:Int) ≤ v23)) i0.2.1 i0.2.2)=>(fun (m0:Nat) (labels1:List Int) (v23:Int) (hI0:runL (F34_s0 n path) (m0 + 1) (labels1,v23)=(runL (F34_s0 n path) (((path.length:Int) - 0).toNat + 1) (([]:List Int),0))) (_:Int.toNat ((path.length:Int) - v23) < m0 + 1) (hl0:m0 < i0.1) (_:LabI n path v23 labels1) (_:(labels1.length:Int)=v23) (_:v23 ≤ (path.length:Int)) (_:v23 < (path.length:Int) → 0 ≤ path.getD v23.toNat default∧path.getD v23.toNat default < (n.Boxes.length:Int)) (_:(0:Int) ≤ v23)=>ai (fun h3:(decide (v23 < (path.length:Int)))=true=>(fun _:v23 < (path.length:Int)=>ai ((by first | omega | (simp only [lens] at * <;> omega):0 ≤ v23∧v23 < (path.length:Int))) (ai ((by first | omega | (simp only [lens] at * <;> omega):0 ≤ (path.getD v23.toNat default)∧(path.getD v23.toNat default) < (n.Boxes.length:Int))) (ai (trivial) (ai ((Imps.refl (eLabBox (n.Boxes.getD (path.getD v23.toNat default).toNat default)))) (ai (fun h4:((freeOf (n.Boxes.getD (path.getD v23.toNat default).toNat default)) == 0)=true=>(fun _:(freeOf (n.Boxes.getD (path.getD v23.toNat default).toNat default))=0=>(fun hF:(0,3,n)=(F34 n path)=>ai (congrArg (fun r:Int × Int × LabNet=>(.int .i64 r.1:Value)) hF) (ai (congrArg (fun r:Int × Int × LabNet=>(.int .i64 r.2.1:Value)) hF) (ai (ai (Imp.of_eq (congrArg (fun r:Int × Int × LabNet=>Dat.l 2 eLabLink r.2.2.Links) hF)) (ai (Imp.of_eq (congrArg (fun r:Int × Int × LabNet=>Dat.l 2 eLabBox r.2.2.Boxes) hF)) (trivial))) (trivial)))) (condF h1 (finR (Eq.symm (finR (runL_ret hI0 (condT h3 (condT h4 (rfl)))) rfl)) rfl))) (eq_of_beq h4)) (fun h4:((freeOf (n.Boxes.getD (path.getD v23.toNat default).toNat default)) == 0)=false=>(fun _:¬ (freeOf (n.Boxes.getD (path.getD v23.toNat default).toNat default))=0=>ai ((AppA.mk eInt labels1 [(freeOf (n.Boxes.getD (path.getD v23.toNat default).toNat default))] (Imp.refl (.l 1 eInt labels1)) rfl (by exact ai (Imp.refl _) (trivial)) (fun _=>rfl):AppA (.l 1 eInt labels1) 1 1 [.v (vI (freeOf (n.Boxes.getD (path.getD v23.toNat default).toNat default)))] (.l 1 eInt (labels1 ++ [(freeOf (n.Boxes.getD (path.getD v23.toNat default).toNat default))])))) (ai ((by (try simp only [lens]); omega:((labels1 ++ [(freeOf (n.Boxes.getD (path.getD v23.toNat default).toNat default))])).length * 8 ≤ 140737488355328)) (ai ((by unfold i64ok; first | omega | (simp only [lens] at * <;> omega):i64ok (v23 + 1))) (Exists.intro (p := fun j:Nat × (List Int × Int)=>(fun (labels1_:List Int) (v23_:Int)=>(((.int .i64 (path.length:Int):Value)=.int .i64 (path.length:Int))∧((.int .i64 (v23 + 1):Value)=.int .i64 v23_)∧(Imp (.l 2 eLabLink n.Links) (.l 2 eLabLink n.Links))∧(Imp (.l 2 eLabBox n.Boxes) (.l 2 eLabBox n.Boxes))∧(Imp (.l 1 eInt path) (.l 1 eInt path))∧(Imp (.l 1 eInt (labels1 ++ [(freeOf (n.Boxes.getD (path.getD v23.toNat default).toNat default))])) (.l 1 eInt labels1_))∧((runL (F34_s0 n path) j.1 j.2=(runL (F34_s0 n path) (((path.length:Int) - 0).toNat + 1) (([]:List Int),0))∧Int.toNat ((path.length:Int) - v23_) < j.1∧LabI n path v23_ labels1_∧(labels1_.length:Int)=v23_∧v23_ ≤ (path.length:Int)∧(v23_ < (path.length:Int) → 0 ≤ path.getD v23_.toNat default∧path.getD v23_.toNat default < (n.Boxes.length:Int))∧(0:Int) ≤ v23_)∧j.1 < i0.1))) j.2.1 j.2.2) (m0,((labels1 ++ [(freeOf (n.Boxes.getD (path.getD v23.toNat default).toNat default))]),(v23 + 1))) (ai (rfl) (ai (rfl) (ai ((Imp.refl _)) (ai ((Imp.refl _)) (ai ((Imp.refl _)) (ai ((Imp.refl _)) (ai (ai (runL_next hI0 (condT h3 (condF h4 (rfl)))) (ai ((by first | omega | (simp only [lens] at * <;> omega) | (exact LabI.zero _ _) | (exact LabI.next (by assumption) (by assumption) (by assumption)) | (exact fun hi=>PathOk.in_ (by assumption) (by omega) hi):Int.toNat ((path.length:Int) - (v23 + 1)) < m0)) (ai ((by first | omega | (simp only [lens] at * <;> omega) | (exact LabI.zero _ _) | (exact LabI.next (by assumption) (by assumption) (by assumption)) | (exact fun hi=>PathOk.in_ (by assumption) (by omega) hi):LabI n path (v23 + 1) (labels1 ++ [(freeOf (n.Boxes.getD (path.getD v23.toNat default).toNat default))]))) (ai ((by first | omega | (simp only [lens] at * <;> omega) | (exact LabI.zero _ _) | (exact LabI.next (by assumption) (by assumption) (by assumption)) | (exact fun hi=>PathOk.in_ (by assumption) (by omega) hi):((labels1 ++ [(freeOf (n.Boxes.getD (path.getD v23.toNat default).toNat default))]).length:Int)=(v23 + 1))) (ai ((by first | omega | (simp only [lens] at * <;> omega) | (exact LabI.zero _ _) | (exact LabI.next (by assumption) (by assumption) (by assumption)) | (exact fun hi=>PathOk.in_ (by assumption) (by omega) hi):(v23 + 1) ≤ (path.length:Int))) (ai ((by first | omega | (simp only [lens] at * <;> omega) | (exact LabI.zero _ _) | (exact LabI.next (by assumption) (by assumption) (by assumption)) | (exact fun hi=>PathOk.in_ (by assumption) (by omega) hi):(v23 + 1) < (path.length:Int) → 0 ≤ path.getD (v23 + 1).toNat default∧path.getD (v23 + 1).toNat default < (n.Boxes.length:Int))) ((by first | omega | (simp only [lens] at * <;> omega) | (exact LabI.zero _ _) | (exact LabI.next (by assumption) (by assumption) (by assumption)) | (exact fun hi=>PathOk.in_ (by assumption) (by omega) hi):(0:Int) ≤ (v23 + 1))))))))) hl0))))))))))) (beqF h4))))))) (of_decide_eq_true h3)) (fun h3:(decide (v23 < (path.length:Int)))=false=>(fun _:¬ v23 < (path.length:Int)=>(fun hD0_5:(runL (F34_s0 n path) (((path.length:Int) - 0).toNat + 1) (([]:List Int),0))=Lp.done (labels1,v23)=>Exists.intro (p := fun j:List Int=>(fun (labels_:List Int)=>((Imp (.l 2 eLabLink n.Links) (.l 2 eLabLink n.Links))∧(Imp (.l 2 eLabBox n.Boxes) (.l 2 eLabBox n.Boxes))∧(Imp (.l 1 eInt path) (.l 1 eInt path))∧(Imp (.l 1 eInt labels1) (.l 1 eInt labels_))∧(F34_j0 n path)=Lp.done j∧LayP n path labels_∧labels_.length=path.length∧2 ≤ path.length)) j) (labels1) (ai ((Imp.refl _)) (ai ((Imp.refl _)) (ai ((Imp.refl _)) (ai ((Imp.refl _)) (ai (Eq.symm (finD hD0_5 (rfl))) (ai ((by first | omega | (simp only [lens] at * <;> omega) | exact LabI.done (by assumption) (by assumption) (by assumption) (by assumption) | exact PathOk.two (by assumption) | exact rowAt_T (by assumption) (by assumption) | exact rowAt_F (by assumption) (by assumption):LayP n path labels1)) (ai ((by first | omega | (simp only [lens] at * <;> omega) | exact LabI.done (by assumption) (by assumption) (by assumption) (by assumption) | exact PathOk.two (by assumption) | exact rowAt_T (by assumption) (by assumption) | exact rowAt_F (by assumption) (by assumption):labels1.length=path.length)) ((by first | omega | (simp only [lens] at * <;> omega) | exact LabI.done (by assumption) (by assumption) (by assumption) (by assumption) | exact PathOk.two (by assumption) | exact rowAt_T (by assumption) (by assumption) | exact rowAt_F (by assumption) (by assumption):2 ≤ path.length)))))))))) (runL_done hI0 (condF h3 (rfl)))) (of_decide_eq_false h3))) (i0.1 - 1) i0.2.1 i0.2.2 (hd1 hi0.1 hi0.2.1) (hd2 hi0.2.1) (hd3 hi0.2.1) hi0.2.2.1 hi0.2.2.2.1 hi0.2.2.2.2.1 hi0.2.2.2.2.2.1 hi0.2.2.2.2.2.2)) (fun (j:List Int) (hj:(fun (labels:List Int)=>((F34_j0 n path)=Lp.done j∧LayP n path labels∧labels.length=path.length∧2 ≤ path.length)) j)=>(fun (labels:List Int) (hJ0_6:(F34_j0 n path)=Lp.done labels) (_:LayP n path labels) (_:labels.length=path.length) (_:2 ≤ path.length)=>fun (_:n.Links.length ≤ 9223372036854775807)=>fun (_:n.Boxes.length ≤ 9223372036854775807)=>fun (_:path.length ≤ 9223372036854775807)=>fun (_:labels.length ≤ 9223372036854775807)=>fun (_:path.length ≤ 9223372036854775807)=>ai (ai (rfl) (ai (rfl) (ai ((Imp.refl _)) (ai ((Imp.refl _)) (ai ((Imp.refl _)) (ai ((Imp.refl _)) ((ai (rfl:runL (F34_s1 n path labels) (((path.length:Int) - 0).toNat + 1) (0,n.Boxes)=(runL (F34_s1 n path labels) (((path.length:Int) - 0).toNat + 1) (0,n.Boxes))) (ai ((Nat.lt_succ_self _:Int.toNat ((path.length:Int) - 0) < (((path.length:Int) - 0).toNat + 1))) (ai ((by first | omega | (simp only [lens] at * <;> omega) | (exact LayS.zero (by assumption)) | (exact LayS.next' (by assumption) (by assumption) (by assumption)) | (exact fun hi=>LayS.in_ (by first | assumption | exact LayS.zero (by assumption) | exact LayS.next' (by assumption) (by assumption) (by assumption)) hi):LayS n path labels 0 n.Boxes)) (ai ((by first | omega | (simp only [lens] at * <;> omega) | (exact LayS.zero (by assumption)) | (exact LayS.next' (by assumption) (by assumption) (by assumption)) | (exact fun hi=>LayS.in_ (by first | assumption | exact LayS.zero (by assumption) | exact LayS.next' (by assumption) (by assumption) (by assumption)) hi):0 < (path.length:Int) → 0 ≤ path.getD (Int.toNat 0) default∧path.getD (Int.toNat 0) default < (n.Boxes.length:Int)∧(n.Boxes.getD (path.getD (Int.toNat 0) default).toNat default).Rows.length ≤ 60)) (ai ((by first | omega | (simp only [lens] at * <;> omega) | (exact LayS.zero (by assumption)) | (exact LayS.next' (by assumption) (by assumption) (by assumption)) | (exact fun hi=>LayS.in_ (by first | assumption | exact LayS.zero (by assumption) | exact LayS.next' (by assumption) (by assumption) (by assumption)) hi):labels.length=path.length)) (ai ((by first | omega | (simp only [lens] at * <;> omega) | (exact LayS.zero (by assumption)) | (exact LayS.next' (by assumption) (by assumption) (by assumption)) | (exact fun hi=>LayS.in_ (by first | assumption | exact LayS.zero (by assumption) | exact LayS.next' (by assumption) (by assumption) (by assumption)) hi):(0:Int) ≤ 0)) ((by first | omega | (simp only [lens] at * <;> omega) | (exact LayS.zero (by assumption)) | (exact LayS.next' (by assumption) (by assumption) (by assumption)) | (exact fun hi=>LayS.in_ (by first | assumption | exact LayS.zero (by assumption) | exact LayS.next' (by assumption) (by assumption) (by assumption)) hi):n.Boxes.length=n.Boxes.length)))))))))))))):((.int .i64 (path.length:Int):Value)=.int .i64 (path.length:Int))∧((.int .i64 0:Value)=.int .i64 0)∧(Imp (.l 2 eLabLink n.Links) (.l 2 eLabLink n.Links))∧(Imp (.l 2 eLabBox n.Boxes) (.l 2 eLabBox n.Boxes))∧(Imp (.l 1 eInt path) (.l 1 eInt path))∧(Imp (.l 1 eInt labels) (.l 1 eInt labels))∧(runL (F34_s1 n path labels) (((path.length:Int) - 0).toNat + 1) (0,n.Boxes)=(runL (F34_s1 n path labels) (((path.length:Int) - 0).toNat + 1) (0,n.Boxes))∧Int.toNat ((path.length:Int) - 0) < (((path.length:Int) - 0).toNat + 1)∧LayS n path labels 0 n.Boxes∧(0 < (path.length:Int) → 0 ≤ path.getD (Int.toNat 0) default∧path.getD (Int.toNat 0) default < (n.Boxes.length:Int)∧(n.Boxes.getD (path.getD (Int.toNat 0) default).toNat default).Rows.length ≤ 60)∧labels.length=path.length∧(0:Int) ≤ 0∧n.Boxes.length=n.Boxes.length)) (fun (i1:Nat × (Int × List LabBox)) (hi1:runL (F34_s1 n path labels) i1.1 i1.2=(runL (F34_s1 n path labels) (((path.length:Int) - 0).toNat + 1) (0,n.Boxes))∧(fun (v44:Int) (xs:List LabBox)=>(Int.toNat ((path.length:Int) - v44) < i1.1∧LayS n path labels v44 xs∧(v44 < (path.length:Int) → 0 ≤ path.getD v44.toNat default∧path.getD v44.toNat default < (xs.length:Int)∧(xs.getD (path.getD v44.toNat default).toNat default).Rows.length ≤ 60)∧labels.length=path.length∧(0:Int) ≤ v44∧xs.length=n.Boxes.length)) i1.2.1 i1.2.2)=>(fun (m1:Nat) (v44:Int) (xs:List LabBox) (hI1:runL (F34_s1 n path labels) (m1 + 1) (v44,xs)=(runL (F34_s1 n path labels) (((path.length:Int) - 0).toNat + 1) (0,n.Boxes))) (_:Int.toNat ((path.length:Int) - v44) < m1 + 1) (hl1:m1 < i1.1) (_:LayS n path labels v44 xs) (_:v44 < (path.length:Int) → 0 ≤ path.getD v44.toNat default∧path.getD v44.toNat default < (xs.length:Int)∧(xs.getD (path.getD v44.toNat default).toNat default).Rows.length ≤ 60) (_:labels.length=path.length) (_:(0:Int) ≤ v44) (_:xs.length=n.Boxes.length)=>ai (fun h8:(decide (v44 < (path.length:Int)))=true=>(fun _:v44 < (path.length:Int)=>ai ((by first | omega | (simp only [lens] at * <;> omega):0 ≤ v44∧v44 < (path.length:Int))) (ai ((by first | omega | (simp only [lens] at * <;> omega):0 ≤ v44∧v44 < (labels.length:Int))) (ai (ai ((by unfold i64ok; first | omega | (simp only [lens] at * <;> omega):i64ok (v44 + 1))) (ai (fun h9:(decide ((v44 + 1) < (path.length:Int)))=true=>(fun _:(v44 + 1) < (path.length:Int)=>ai ((by unfold i64ok; first | omega | (simp only [lens] at * <;> omega):i64ok (v44 + 1))) (ai ((by first | omega | (simp only [lens] at * <;> omega):0 ≤ (v44 + 1)∧(v44 + 1) < (path.length:Int))) (ai ((by unfold i64ok; first | omega | (simp only [lens] at * <;> omega):i64ok (v44 + 1))) (ai ((by first | omega | (simp only [lens] at * <;> omega):0 ≤ (v44 + 1)∧(v44 + 1) < (labels.length:Int))) (Exists.intro (p := fun j:Int × Int=>(fun (r1_:Int) (r2_:Int)=>(((.int .i64 (path.getD v44.toNat default):Value)=.int .i64 (path.getD v44.toNat default))∧((.int .i64 (path.length:Int):Value)=.int .i64 (path.length:Int))∧((.int .i64 v44:Value)=.int .i64 v44)∧(Imp (.l 2 eLabLink n.Links) (.l 2 eLabLink n.Links))∧(Imp (.l 2 eLabBox xs) (.l 2 eLabBox xs))∧(Imp (.l 1 eInt path) (.l 1 eInt path))∧(Imp (.l 1 eInt labels) (.l 1 eInt labels))∧((.int .i64 (labels.getD v44.toNat default):Value)=.int .i64 (labels.getD v44.toNat default))∧((.int .i64 (path.getD (v44 + 1).toNat default):Value)=.int .i64 r1_)∧((.int .i64 (labels.getD (v44 + 1).toNat default):Value)=.int .i64 r2_)∧(F34_j3 n path labels v44 xs)=Lp.done j∧(⟨labels.getD v44.toNat default,r1_,r2_⟩:LabRow)=rowAt path labels v44.toNat)) j.1 j.2) (((path.getD (v44 + 1).toNat default),(labels.getD (v44 + 1).toNat default))) (ai (rfl) (ai (rfl) (ai (rfl) (ai ((Imp.refl _)) (ai ((Imp.refl _)) (ai ((Imp.refl _)) (ai ((Imp.refl _)) (ai (rfl) (ai (rfl) (ai (rfl) (ai (Eq.symm (condT h9 (rfl))) ((by first | omega | (simp only [lens] at * <;> omega) | exact LabI.done (by assumption) (by assumption) (by assumption) (by assumption) | exact PathOk.two (by assumption) | exact rowAt_T (by assumption) (by assumption) | exact rowAt_F (by assumption) (by assumption):(⟨labels.getD v44.toNat default,(path.getD (v44 + 1).toNat default),(labels.getD (v44 + 1).toNat default)⟩:LabRow)=rowAt path labels v44.toNat)))))))))))))))))) (of_decide_eq_true h9)) (fun h9:(decide ((v44 + 1) < (path.length:Int)))=false=>(fun _:¬ (v44 + 1) < (path.length:Int)=>Exists.intro (p := fun j:Int × Int=>(fun (r1_:Int) (r2_:Int)=>(((.int .i64 (path.getD v44.toNat default):Value)=.int .i64 (path.getD v44.toNat default))∧((.int .i64 (path.length:Int):Value)=.int .i64 (path.length:Int))∧((.int .i64 v44:Value)=.int .i64 v44)∧(Imp (.l 2 eLabLink n.Links) (.l 2 eLabLink n.Links))∧(Imp (.l 2 eLabBox xs) (.l 2 eLabBox xs))∧(Imp (.l 1 eInt path) (.l 1 eInt path))∧(Imp (.l 1 eInt labels) (.l 1 eInt labels))∧((.int .i64 (labels.getD v44.toNat default):Value)=.int .i64 (labels.getD v44.toNat default))∧((.int .i64 (-1):Value)=.int .i64 r1_)∧((.int .i64 0:Value)=.int .i64 r2_)∧(F34_j3 n path labels v44 xs)=Lp.done j∧(⟨labels.getD v44.toNat default,r1_,r2_⟩:LabRow)=rowAt path labels v44.toNat)) j.1 j.2) (((-1),0)) (ai (rfl) (ai (rfl) (ai (rfl) (ai ((Imp.refl _)) (ai ((Imp.refl _)) (ai ((Imp.refl _)) (ai ((Imp.refl _)) (ai (rfl) (ai (rfl) (ai (rfl) (ai (Eq.symm (condF h9 (rfl))) ((by first | omega | (simp only [lens] at * <;> omega) | exact LabI.done (by assumption) (by assumption) (by assumption) (by assumption) | exact PathOk.two (by assumption) | exact rowAt_T (by assumption) (by assumption) | exact rowAt_F (by assumption) (by assumption):(⟨labels.getD v44.toNat default,(-1),0⟩:LabRow)=rowAt path labels v44.toNat)))))))))))))) (of_decide_eq_false h9)))) (fun (j:Int × Int) (hj:(fun (r1:Int) (r2:Int)=>((F34_j3 n path labels v44 xs)=Lp.done j∧(⟨labels.getD v44.toNat default,r1,r2⟩:LabRow)=rowAt path labels v44.toNat)) j.1 j.2)=>(fun (r1:Int) (r2:Int) (hJ3_10:(F34_j3 n path labels v44 xs)=Lp.done (r1,r2)) (_:(⟨labels.getD v44.toNat default,r1,r2⟩:LabRow)=rowAt path labels v44.toNat)=>ai ((by first | omega | (simp only [lens] at * <;> omega):0 ≤ (path.getD v44.toNat default)∧(path.getD v44.toNat default) < (xs.length:Int))) (ai ((SetOK.take eLabBox xs (xs.getD (path.getD v44.toNat default).toNat default) 0 (fun _=>rfl) rfl rfl:SetOK (.l 2 eLabBox xs) ((path.getD v44.toNat default)).toNat (eLabBox (xs.getD (path.getD v44.toNat default).toNat default)) [.any,.l 3 eLabVia ((xs.getD (path.getD v44.toNat default).toNat default).Guards)] (.l 2 (encH 0 eLabBox) ((xs.map hz).set ((path.getD v44.toNat default)).toNat ((xs.getD (path.getD v44.toNat default).toNat default),true))))) (ai ((AppA.mk eLabRow ((xs.getD (path.getD v44.toNat default).toNat default).Rows) [(⟨(labels.getD v44.toNat default),r1,r2⟩:LabRow)] (Imp.refl (.l 3 eLabRow ((xs.getD (path.getD v44.toNat default).toNat default).Rows))) rfl (by exact ai (Imp.refl _) (ai (Imp.refl _) (ai (Imp.refl _) (trivial)))) (fun _=>rfl):AppA (.l 3 eLabRow ((xs.getD (path.getD v44.toNat default).toNat default).Rows)) 1 3 [.v (vI (labels.getD v44.toNat default)),.v (vI r1),.v (vI r2)] (.l 3 eLabRow (((xs.getD (path.getD v44.toNat default).toNat default).Rows) ++ [(⟨(labels.getD v44.toNat default),r1,r2⟩:LabRow)])))) (ai ((by (try simp only [lens]); omega:((((xs.getD (path.getD v44.toNat default).toNat default).Rows) ++ [(⟨(labels.getD v44.toNat default),r1,r2⟩:LabRow)])).length * 24 ≤ 140737488355328)) (ai ((ai ((by first | ((try simp only [lens]); omega) | exact (LayS.sort (by assumption) (by assumption) (by assumption)).1:SortPre (fun (x0:LabRow) (x1:LabRow)=>F71 x0 x1) (((xs.getD (path.getD v44.toNat default).toNat default).Rows) ++ [(⟨(labels.getD v44.toNat default),r1,r2⟩:LabRow)]))) ((by first | ((try simp only [lens]); omega) | exact (LayS.sort (by assumption) (by assumption) (by assumption)).1:(((xs.getD (path.getD v44.toNat default).toNat default).Rows) ++ [(⟨(labels.getD v44.toNat default),r1,r2⟩:LabRow)]).length ≤ 4000000000000000000)))) (ai ((Imp.refl (.l 3 eLabRow (((xs.getD (path.getD v44.toNat default).toNat default).Rows) ++ [(⟨(labels.getD v44.toNat default),r1,r2⟩:LabRow)])))) (ai ((Eq.refl (fs105 (fun (x0:LabRow) (x1:LabRow)=>F71 x0 x1)))) (ai (trivial) (ai ((by simp only [lens] at * <;> omega:0 ≤ (path.getD v44.toNat default)∧(path.getD v44.toNat default) < (((xs.map hz).set ((path.getD v44.toNat default)).toNat ((xs.getD (path.getD v44.toNat default).toNat default),true)).length:Int))) (ai ((Imps.of_eq (congrArg (encH 0 eLabBox) (getD_set_eq (xs.map hz) ((path.getD v44.toNat default)).toNat ((xs.getD (path.getD v44.toNat default).toNat default),true) (by simp only [lens] at * <;> omega))))) (ai ((SetOK.fill eLabBox xs (xs.getD (path.getD v44.toNat default).toNat default) (⟨(F70 (((xs.getD (path.getD v44.toNat default).toNat default).Rows) ++ [(⟨(labels.getD v44.toNat default),r1,r2⟩:LabRow)]) (fun (x0:LabRow) (x1:LabRow)=>F71 x0 x1)),(xs.getD (path.getD v44.toNat default).toNat default).Guards⟩:LabBox) 0 (congrArg (encH 0 eLabBox) (getD_set_eq (xs.map hz) ((path.getD v44.toNat default)).toNat ((xs.getD (path.getD v44.toNat default).toNat default),true) (by simp only [lens] at * <;> omega))) (by exact ai (Imp.refl _) (ai (Imp.refl _) (trivial))):SetOK (.l 2 (encH 0 eLabBox) ((xs.map hz).set ((path.getD v44.toNat default)).toNat ((xs.getD (path.getD v44.toNat default).toNat default),true))) ((path.getD v44.toNat default)).toNat ([.any,.l 3 eLabVia ((xs.getD (path.getD v44.toNat default).toNat default).Guards)]) [.l 3 eLabRow (F70 (((xs.getD (path.getD v44.toNat default).toNat default).Rows) ++ [(⟨(labels.getD v44.toNat default),r1,r2⟩:LabRow)]) (fun (x0:LabRow) (x1:LabRow)=>F71 x0 x1)),.l 3 eLabVia ((xs.getD (path.getD v44.toNat default).toNat default).Guards)] (.l 2 eLabBox (xs.set ((path.getD v44.toNat default)).toNat (⟨(F70 (((xs.getD (path.getD v44.toNat default).toNat default).Rows) ++ [(⟨(labels.getD v44.toNat default),r1,r2⟩:LabRow)]) (fun (x0:LabRow) (x1:LabRow)=>F71 x0 x1)),(xs.getD (path.getD v44.toNat default).toNat default).Guards⟩:LabBox))))) (ai ((by unfold i64ok; first | omega | (simp only [lens] at * <;> omega):i64ok (v44 + 1))) (Exists.intro (p := fun j:Nat × (Int × List LabBox)=>(fun (v44_:Int) (xs_:List LabBox)=>(((.int .i64 (path.length:Int):Value)=.int .i64 (path.length:Int))∧((.int .i64 (v44 + 1):Value)=.int .i64 v44_)∧(Imp (.l 2 eLabLink n.Links) (.l 2 eLabLink n.Links))∧(Imp (.l 2 eLabBox (xs.set ((path.getD v44.toNat default)).toNat (⟨(F70 (((xs.getD (path.getD v44.toNat default).toNat default).Rows) ++ [(⟨(labels.getD v44.toNat default),r1,r2⟩:LabRow)]) (fun (x0:LabRow) (x1:LabRow)=>F71 x0 x1)),(xs.getD (path.getD v44.toNat default).toNat default).Guards⟩:LabBox))) (.l 2 eLabBox xs_))∧(Imp (.l 1 eInt path) (.l 1 eInt path))∧(Imp (.l 1 eInt labels) (.l 1 eInt labels))∧((runL (F34_s1 n path labels) j.1 j.2=(runL (F34_s1 n path labels) (((path.length:Int) - 0).toNat + 1) (0,n.Boxes))∧Int.toNat ((path.length:Int) - v44_) < j.1∧LayS n path labels v44_ xs_∧(v44_ < (path.length:Int) → 0 ≤ path.getD v44_.toNat default∧path.getD v44_.toNat default < (xs_.length:Int)∧(xs_.getD (path.getD v44_.toNat default).toNat default).Rows.length ≤ 60)∧labels.length=path.length∧(0:Int) ≤ v44_∧xs_.length=n.Boxes.length)∧j.1 < i1.1))) j.2.1 j.2.2) (m1,((v44 + 1),(xs.set ((path.getD v44.toNat default)).toNat (⟨(F70 (((xs.getD (path.getD v44.toNat default).toNat default).Rows) ++ [(⟨(labels.getD v44.toNat default),r1,r2⟩:LabRow)]) (fun (x0:LabRow) (x1:LabRow)=>F71 x0 x1)),(xs.getD (path.getD v44.toNat default).toNat default).Guards⟩:LabBox)))) (ai (rfl) (ai (rfl) (ai ((Imp.refl _)) (ai ((Imp.refl _)) (ai ((Imp.refl _)) (ai ((Imp.refl _)) (ai (ai (runL_next hI1 (condT h8 (finD hJ3_10 (rfl)))) (ai ((by first | omega | (simp only [lens] at * <;> omega) | (exact LayS.zero (by assumption)) | (exact LayS.next' (by assumption) (by assumption) (by assumption)) | (exact fun hi=>LayS.in_ (by first | assumption | exact LayS.zero (by assumption) | exact LayS.next' (by assumption) (by assumption) (by assumption)) hi):Int.toNat ((path.length:Int) - (v44 + 1)) < m1)) (ai ((by first | omega | (simp only [lens] at * <;> omega) | (exact LayS.zero (by assumption)) | (exact LayS.next' (by assumption) (by assumption) (by assumption)) | (exact fun hi=>LayS.in_ (by first | assumption | exact LayS.zero (by assumption) | exact LayS.next' (by assumption) (by assumption) (by assumption)) hi):LayS n path labels (v44 + 1) (xs.set ((path.getD v44.toNat default)).toNat (⟨(F70 (((xs.getD (path.getD v44.toNat default).toNat default).Rows) ++ [(⟨(labels.getD v44.toNat default),r1,r2⟩:LabRow)]) (fun (x0:LabRow) (x1:LabRow)=>F71 x0 x1)),(xs.getD (path.getD v44.toNat default).toNat default).Guards⟩:LabBox)))) (ai ((by first | omega | (simp only [lens] at * <;> omega) | (exact LayS.zero (by assumption)) | (exact LayS.next' (by assumption) (by assumption) (by assumption)) | (exact fun hi=>LayS.in_ (by first | assumption | exact LayS.zero (by assumption) | exact LayS.next' (by assumption) (by assumption) (by assumption)) hi):(v44 + 1) < (path.length:Int) → 0 ≤ path.getD (v44 + 1).toNat default∧path.getD (v44 + 1).toNat default < ((xs.set ((path.getD v44.toNat default)).toNat (⟨(F70 (((xs.getD (path.getD v44.toNat default).toNat default).Rows) ++ [(⟨(labels.getD v44.toNat default),r1,r2⟩:LabRow)]) (fun (x0:LabRow) (x1:LabRow)=>F71 x0 x1)),(xs.getD (path.getD v44.toNat default).toNat default).Guards⟩:LabBox)).length:Int)∧((xs.set ((path.getD v44.toNat default)).toNat (⟨(F70 (((xs.getD (path.getD v44.toNat default).toNat default).Rows) ++ [(⟨(labels.getD v44.toNat default),r1,r2⟩:LabRow)]) (fun (x0:LabRow) (x1:LabRow)=>F71 x0 x1)),(xs.getD (path.getD v44.toNat default).toNat default).Guards⟩:LabBox)).getD (path.getD (v44 + 1).toNat default).toNat default).Rows.length ≤ 60)) (ai ((by first | omega | (simp only [lens] at * <;> omega) | (exact LayS.zero (by assumption)) | (exact LayS.next' (by assumption) (by assumption) (by assumption)) | (exact fun hi=>LayS.in_ (by first | assumption | exact LayS.zero (by assumption) | exact LayS.next' (by assumption) (by assumption) (by assumption)) hi):labels.length=path.length)) (ai ((by first | omega | (simp only [lens] at * <;> omega) | (exact LayS.zero (by assumption)) | (exact LayS.next' (by assumption) (by assumption) (by assumption)) | (exact fun hi=>LayS.in_ (by first | assumption | exact LayS.zero (by assumption) | exact LayS.next' (by assumption) (by assumption) (by assumption)) hi):(0:Int) ≤ (v44 + 1))) ((by first | omega | (simp only [lens] at * <;> omega) | (exact LayS.zero (by assumption)) | (exact LayS.next' (by assumption) (by assumption) (by assumption)) | (exact fun hi=>LayS.in_ (by first | assumption | exact LayS.zero (by assumption) | exact LayS.next' (by assumption) (by assumption) (by assumption)) hi):(xs.set ((path.getD v44.toNat default)).toNat (⟨(F70 (((xs.getD (path.getD v44.toNat default).toNat default).Rows) ++ [(⟨(labels.getD v44.toNat default),r1,r2⟩:LabRow)]) (fun (x0:LabRow) (x1:LabRow)=>F71 x0 x1)),(xs.getD (path.getD v44.toNat default).toNat default).Guards⟩:LabBox)).length=n.Boxes.length)))))))) hl1)))))))))))))))))))) j.1 j.2 hj.1 hj.2)))) (of_decide_eq_true h8)) (fun h8:(decide (v44 < (path.length:Int)))=false=>(fun _:¬ v44 < (path.length:Int)=>(fun hD1_11:(runL (F34_s1 n path labels) (((path.length:Int) - 0).toNat + 1) (0,n.Boxes))=Lp.done (v44,xs)=>ai ((by first | omega | (simp only [lens] at * <;> omega):0 ≤ (0:Int)∧(0:Int) < (labels.length:Int))) ((fun hF:((labels.getD (Int.toNat 0) default),0,(⟨n.Links,xs⟩:LabNet))=(F34 n path)=>ai (congrArg (fun r:Int × Int × LabNet=>(.int .i64 r.1:Value)) hF) (ai (congrArg (fun r:Int × Int × LabNet=>(.int .i64 r.2.1:Value)) hF) (ai (ai (Imp.of_eq (congrArg (fun r:Int × Int × LabNet=>Dat.l 2 eLabLink r.2.2.Links) hF)) (ai (Imp.of_eq (congrArg (fun r:Int × Int × LabNet=>Dat.l 2 eLabBox r.2.2.Boxes) hF)) (trivial))) (trivial)))) (condF h1 (finD hJ0_6 (finD hD1_11 (rfl)))))) (runL_done hI1 (condF h8 (rfl)))) (of_decide_eq_false h8))) (i1.1 - 1) i1.2.1 i1.2.2 (hd1 hi1.1 hi1.2.1) (hd2 hi1.2.1) (hd3 hi1.2.1) hi1.2.2.1 hi1.2.2.2.1 hi1.2.2.2.2.1 hi1.2.2.2.2.2.1 hi1.2.2.2.2.2.2)) j hj.1 hj.2.1 hj.2.2.1 hj.2.2.2))) (pathB_T n path (notEF h1))) (pathB_len n path (notEF h1))))))) hp.1 hp.2) (by kernel_rfl)
def F39_s0 (n:LabNet) (path:List Int):(List Int × Int) → Lp (List Int × Int) (List Int) := fun (out,i40) =>
 bif (decide (i40 < (path.length:Int))) then (bif ((freeOf (n.Boxes.getD (path.getD i40.toNat default).toNat default)) == 0) then (.ret ([]:List Int)) else (.next ((out ++ [(freeOf (n.Boxes.getD (path.getD i40.toNat default).toNat default))]),(i40 + 1)))) else (.done (out,i40))
def F39 (n:LabNet) (path:List Int):List Int :=
 (runL (F39_s0 n path) (((path.length:Int) - 0).toNat + 1) (([]:List Int),0)).fin (fun r=>r) (fun (out,i40)=>out)
def S39 (R:List Int) (n:LabNet) (path:List Int):Spec := ⟨[.r (.g (eLabNet n)),.r (.c (.l 1 eInt path))],.ow (.l 1 eInt R),PathOk n path∧path.length ≤ 8⟩
theorem ok39 (n:LabNet) (path:List Int):(S39 (F39 n path) n path).ok Tryz.prog 39 :=
 fnG_ok mixed (fn := Tryz.f39) (ct := .seqk [(1,0)] (.no) (.seq (.reg [(0,.dat (.l 1 eInt ([]:List Int)))]) (.seq (.seqk [(1,0),(2,0),(2,1),(5,0)] (.no) (.blk (.loop (ι := Nat × (List Int × Int)) (fun i=>(fun (out:List Int) (i40:Int)=>(⟨[(1,some (.h 0 0)),(2,some (.p 1 0)),(5,some (.h 4 0)),(6,some (.v (vI i40)))],[(0,some (.shr none (.l 1 eInt path))),(1,some (.box 26 [.h 2 0,.h 3 0])),(2,some (.shr none (.l 2 eLabLink n.Links))),(3,some (.shr none (.l 2 eLabBox n.Boxes))),(4,some (.own 4 (.l 1 eInt out)))],5⟩:St)) i.2.1 i.2.2) (fun i=>runL (F39_s0 n path) i.1 i.2=(runL (F39_s0 n path) (((path.length:Int) - 0).toNat + 1) (([]:List Int),0))∧(fun (out:List Int) (i40:Int)=>(Int.toNat ((path.length:Int) - i40) < i.1∧LabI n path i40 out∧(out.length:Int)=i40∧i40 ≤ (path.length:Int)∧(i40 < (path.length:Int) → 0 ≤ path.getD i40.toNat default∧path.getD i40.toNat default < (n.Boxes.length:Int))∧(0:Int) ≤ i40)) i.2.1 i.2.2) (fun i=>i.1) ((((path.length:Int) - 0).toNat + 1),(([]:List Int),0)) (fun i=>(fun (out:List Int) (i40:Int)=>(.seq (.seq (.no) (.cond (.no) (.no))) (.seq (.blk (.seq (.reg [(8,.call 76 (S76 (freeOf (n.Boxes.getD (path.getD i40.toNat default).toNat default)) (n.Boxes.getD (path.getD i40.toNat default).toNat default)) (oa76 (n.Boxes.getD (path.getD i40.toNat default).toNat default)) none)]) (.seq (.seq (.no) (.cond (.seq (.reg [(0,.dat (.l 1 eInt ([]:List Int)))]) (.no)) (.no))) (.reg [(3,.dat (.l 1 eInt (out ++ [(freeOf (n.Boxes.getD (path.getD i40.toNat default).toNat default))])))])))) (.reg [(1,.bnd)])))) i.2.1 i.2.2)))) (.seq (.no) (.no))))) Tryz.func39 (fun (hp:PathOk n path∧path.length ≤ 8)=>(fun (hpre0:PathOk n path) (hpre1:path.length ≤ 8)=>fun (_:path.length ≤ 9223372036854775807)=>ai ((BuildOK.mk eInt ([]:List Int) rfl (by exact trivial) (fun _=>rfl):BuildOK 0 1 [] (.l 1 eInt ([]:List Int)))) (fun (_:path.length ≤ 9223372036854775807)=>fun (_:n.Links.length ≤ 9223372036854775807)=>fun (_:n.Boxes.length ≤ 9223372036854775807)=>fun (_:([]:List Int).length ≤ 9223372036854775807)=>ai (ai (rfl) (ai ((Imp.refl _)) (ai ((Imp.refl _)) (ai ((Imp.refl _)) (ai ((Imp.refl _)) ((ai (rfl:runL (F39_s0 n path) (((path.length:Int) - 0).toNat + 1) (([]:List Int),0)=(runL (F39_s0 n path) (((path.length:Int) - 0).toNat + 1) (([]:List Int),0))) (ai ((Nat.lt_succ_self _:Int.toNat ((path.length:Int) - 0) < (((path.length:Int) - 0).toNat + 1))) (ai ((by first | omega | (simp only [lens] at * <;> omega) | (exact LabI.zero _ _) | (exact LabI.next (by assumption) (by assumption) (by assumption)) | (exact fun hi=>PathOk.in_ (by assumption) (by omega) hi):LabI n path 0 ([]:List Int))) (ai ((by first | omega | (simp only [lens] at * <;> omega) | (exact LabI.zero _ _) | (exact LabI.next (by assumption) (by assumption) (by assumption)) | (exact fun hi=>PathOk.in_ (by assumption) (by omega) hi):(([]:List Int).length:Int)=0)) (ai ((by first | omega | (simp only [lens] at * <;> omega) | (exact LabI.zero _ _) | (exact LabI.next (by assumption) (by assumption) (by assumption)) | (exact fun hi=>PathOk.in_ (by assumption) (by omega) hi):0 ≤ (path.length:Int))) (ai ((by first | omega | (simp only [lens] at * <;> omega) | (exact LabI.zero _ _) | (exact LabI.next (by assumption) (by assumption) (by assumption)) | (exact fun hi=>PathOk.in_ (by assumption) (by omega) hi):0 < (path.length:Int) → 0 ≤ path.getD (Int.toNat 0) default∧path.getD (Int.toNat 0) default < (n.Boxes.length:Int))) ((by first | omega | (simp only [lens] at * <;> omega) | (exact LabI.zero _ _) | (exact LabI.next (by assumption) (by assumption) (by assumption)) | (exact fun hi=>PathOk.in_ (by assumption) (by omega) hi):(0:Int) ≤ 0))))))))))))):((.int .i64 0:Value)=.int .i64 0)∧(Imp (.l 1 eInt path) (.l 1 eInt path))∧(Imp (.l 2 eLabLink n.Links) (.l 2 eLabLink n.Links))∧(Imp (.l 2 eLabBox n.Boxes) (.l 2 eLabBox n.Boxes))∧(Imp (.l 1 eInt ([]:List Int)) (.l 1 eInt ([]:List Int)))∧(runL (F39_s0 n path) (((path.length:Int) - 0).toNat + 1) (([]:List Int),0)=(runL (F39_s0 n path) (((path.length:Int) - 0).toNat + 1) (([]:List Int),0))∧Int.toNat ((path.length:Int) - 0) < (((path.length:Int) - 0).toNat + 1)∧LabI n path 0 ([]:List Int)∧(([]:List Int).length:Int)=0∧0 ≤ (path.length:Int)∧(0 < (path.length:Int) → 0 ≤ path.getD (Int.toNat 0) default∧path.getD (Int.toNat 0) default < (n.Boxes.length:Int))∧(0:Int) ≤ 0)) (fun (i0:Nat × (List Int × Int)) (hi0:runL (F39_s0 n path) i0.1 i0.2=(runL (F39_s0 n path) (((path.length:Int) - 0).toNat + 1) (([]:List Int),0))∧(fun (out:List Int) (i40:Int)=>(Int.toNat ((path.length:Int) - i40) < i0.1∧LabI n path i40 out∧(out.length:Int)=i40∧i40 ≤ (path.length:Int)∧(i40 < (path.length:Int) → 0 ≤ path.getD i40.toNat default∧path.getD i40.toNat default < (n.Boxes.length:Int))∧(0:Int) ≤ i40)) i0.2.1 i0.2.2)=>(fun (m0:Nat) (out:List Int) (i40:Int) (hI0:runL (F39_s0 n path) (m0 + 1) (out,i40)=(runL (F39_s0 n path) (((path.length:Int) - 0).toNat + 1) (([]:List Int),0))) (_:Int.toNat ((path.length:Int) - i40) < m0 + 1) (hl0:m0 < i0.1) (_:LabI n path i40 out) (_:(out.length:Int)=i40) (_:i40 ≤ (path.length:Int)) (_:i40 < (path.length:Int) → 0 ≤ path.getD i40.toNat default∧path.getD i40.toNat default < (n.Boxes.length:Int)) (_:(0:Int) ≤ i40)=>ai (fun h2:(decide (i40 < (path.length:Int)))=true=>(fun _:i40 < (path.length:Int)=>ai ((by first | omega | (simp only [lens] at * <;> omega):0 ≤ i40∧i40 < (path.length:Int))) (ai ((by first | omega | (simp only [lens] at * <;> omega):0 ≤ (path.getD i40.toNat default)∧(path.getD i40.toNat default) < (n.Boxes.length:Int))) (ai (trivial) (ai ((Imps.refl (eLabBox (n.Boxes.getD (path.getD i40.toNat default).toNat default)))) (ai (fun h3:((freeOf (n.Boxes.getD (path.getD i40.toNat default).toNat default)) == 0)=true=>(fun _:(freeOf (n.Boxes.getD (path.getD i40.toNat default).toNat default))=0=>ai ((BuildOK.mk eInt ([]:List Int) rfl (by exact trivial) (fun _=>rfl):BuildOK 0 1 [] (.l 1 eInt ([]:List Int)))) ((fun hF:(([]:List Int):List Int)=(F39 n path)=>ai (Imp.of_eq (congrArg (fun r:List Int=>Dat.l 1 eInt r) hF)) (trivial)) (finR (runL_ret hI0 (condT h2 (condT h3 (rfl)))) rfl))) (eq_of_beq h3)) (fun h3:((freeOf (n.Boxes.getD (path.getD i40.toNat default).toNat default)) == 0)=false=>(fun _:¬ (freeOf (n.Boxes.getD (path.getD i40.toNat default).toNat default))=0=>ai ((AppA.mk eInt out [(freeOf (n.Boxes.getD (path.getD i40.toNat default).toNat default))] (Imp.refl (.l 1 eInt out)) rfl (by exact ai (Imp.refl _) (trivial)) (fun _=>rfl):AppA (.l 1 eInt out) 1 1 [.v (vI (freeOf (n.Boxes.getD (path.getD i40.toNat default).toNat default)))] (.l 1 eInt (out ++ [(freeOf (n.Boxes.getD (path.getD i40.toNat default).toNat default))])))) (ai ((by (try simp only [lens]); omega:((out ++ [(freeOf (n.Boxes.getD (path.getD i40.toNat default).toNat default))])).length * 8 ≤ 140737488355328)) (ai ((by unfold i64ok; first | omega | (simp only [lens] at * <;> omega):i64ok (i40 + 1))) (Exists.intro (p := fun j:Nat × (List Int × Int)=>(fun (out_:List Int) (i40_:Int)=>(((.int .i64 (i40 + 1):Value)=.int .i64 i40_)∧(Imp (.l 1 eInt path) (.l 1 eInt path))∧(Imp (.l 2 eLabLink n.Links) (.l 2 eLabLink n.Links))∧(Imp (.l 2 eLabBox n.Boxes) (.l 2 eLabBox n.Boxes))∧(Imp (.l 1 eInt (out ++ [(freeOf (n.Boxes.getD (path.getD i40.toNat default).toNat default))])) (.l 1 eInt out_))∧((runL (F39_s0 n path) j.1 j.2=(runL (F39_s0 n path) (((path.length:Int) - 0).toNat + 1) (([]:List Int),0))∧Int.toNat ((path.length:Int) - i40_) < j.1∧LabI n path i40_ out_∧(out_.length:Int)=i40_∧i40_ ≤ (path.length:Int)∧(i40_ < (path.length:Int) → 0 ≤ path.getD i40_.toNat default∧path.getD i40_.toNat default < (n.Boxes.length:Int))∧(0:Int) ≤ i40_)∧j.1 < i0.1))) j.2.1 j.2.2) (m0,((out ++ [(freeOf (n.Boxes.getD (path.getD i40.toNat default).toNat default))]),(i40 + 1))) (ai (rfl) (ai ((Imp.refl _)) (ai ((Imp.refl _)) (ai ((Imp.refl _)) (ai ((Imp.refl _)) (ai (ai (runL_next hI0 (condT h2 (condF h3 (rfl)))) (ai ((by first | omega | (simp only [lens] at * <;> omega) | (exact LabI.zero _ _) | (exact LabI.next (by assumption) (by assumption) (by assumption)) | (exact fun hi=>PathOk.in_ (by assumption) (by omega) hi):Int.toNat ((path.length:Int) - (i40 + 1)) < m0)) (ai ((by first | omega | (simp only [lens] at * <;> omega) | (exact LabI.zero _ _) | (exact LabI.next (by assumption) (by assumption) (by assumption)) | (exact fun hi=>PathOk.in_ (by assumption) (by omega) hi):LabI n path (i40 + 1) (out ++ [(freeOf (n.Boxes.getD (path.getD i40.toNat default).toNat default))]))) (ai ((by first | omega | (simp only [lens] at * <;> omega) | (exact LabI.zero _ _) | (exact LabI.next (by assumption) (by assumption) (by assumption)) | (exact fun hi=>PathOk.in_ (by assumption) (by omega) hi):((out ++ [(freeOf (n.Boxes.getD (path.getD i40.toNat default).toNat default))]).length:Int)=(i40 + 1))) (ai ((by first | omega | (simp only [lens] at * <;> omega) | (exact LabI.zero _ _) | (exact LabI.next (by assumption) (by assumption) (by assumption)) | (exact fun hi=>PathOk.in_ (by assumption) (by omega) hi):(i40 + 1) ≤ (path.length:Int))) (ai ((by first | omega | (simp only [lens] at * <;> omega) | (exact LabI.zero _ _) | (exact LabI.next (by assumption) (by assumption) (by assumption)) | (exact fun hi=>PathOk.in_ (by assumption) (by omega) hi):(i40 + 1) < (path.length:Int) → 0 ≤ path.getD (i40 + 1).toNat default∧path.getD (i40 + 1).toNat default < (n.Boxes.length:Int))) ((by first | omega | (simp only [lens] at * <;> omega) | (exact LabI.zero _ _) | (exact LabI.next (by assumption) (by assumption) (by assumption)) | (exact fun hi=>PathOk.in_ (by assumption) (by omega) hi):(0:Int) ≤ (i40 + 1))))))))) hl0)))))))))) (beqF h3))))))) (of_decide_eq_true h2)) (fun h2:(decide (i40 < (path.length:Int)))=false=>(fun _:¬ i40 < (path.length:Int)=>(fun hD0_4:(runL (F39_s0 n path) (((path.length:Int) - 0).toNat + 1) (([]:List Int),0))=Lp.done (out,i40)=>(fun hF:(out:List Int)=(F39 n path)=>ai (Imp.of_eq (congrArg (fun r:List Int=>Dat.l 1 eInt r) hF)) (trivial)) (finD hD0_4 (rfl))) (runL_done hI0 (condF h2 (rfl)))) (of_decide_eq_false h2))) (i0.1 - 1) i0.2.1 i0.2.2 (hd1 hi0.1 hi0.2.1) (hd2 hi0.2.1) (hd3 hi0.2.1) hi0.2.2.1 hi0.2.2.2.1 hi0.2.2.2.2.1 hi0.2.2.2.2.2.1 hi0.2.2.2.2.2.2))) hp.1 hp.2) (by kernel_rfl)
def F40_j2 (n:LabNet) (path:List Int) (labels:List Int) (i40:Int) (xs:List LabBox):Lp (Int × Int) LabNet :=
 bif (decide ((i40 + 1) < (path.length:Int))) then (.done ((path.getD (i40 + 1).toNat default),(labels.getD (i40 + 1).toNat default))) else (.done ((-1),0))
def F40_s0 (n:LabNet) (path:List Int) (labels:List Int):(Int × List LabBox) → Lp (Int × List LabBox) LabNet := fun (i40,xs) =>
 bif (decide (i40 < (path.length:Int))) then ((F40_j2 n path labels i40 xs).fin Lp.ret (fun (r1,r2)=>.next ((i40 + 1),(xs.set ((path.getD i40.toNat default)).toNat (⟨(putK (fun x:LabRow=>x.In) ((xs.getD (path.getD i40.toNat default).toNat default).Rows) (⟨(labels.getD i40.toNat default),r1,r2⟩:LabRow)),(xs.getD (path.getD i40.toNat default).toNat default).Guards⟩:LabBox))))) else (.done (i40,xs))
def F40 (n:LabNet) (path:List Int) (labels:List Int):LabNet :=
 (runL (F40_s0 n path labels) (((path.length:Int) - 0).toNat + 1) (0,n.Boxes)).fin (fun r=>r) (fun (i40,xs)=>(⟨n.Links,xs⟩:LabNet))
def S40 (R:LabNet) (n:LabNet) (path:List Int) (labels:List Int):Spec := ⟨[.ot (eLabNet n),.r (.c (.l 1 eInt path)),.r (.c (.l 1 eInt labels))],.ag [.ow (.l 2 eLabLink R.Links),.ow (.l 2 eLabBox R.Boxes)],LayP n path labels∧labels.length=path.length⟩
theorem ok40 (n:LabNet) (path:List Int) (labels:List Int):(S40 (F40 n path labels) n path labels).ok Tryz.prog 40 :=
 fnG_ok mixed (fn := Tryz.f40) (ct := .seqk [(1,0),(2,0)] (.no) (.seq (.seqk [(1,0),(2,0),(3,0),(3,1)] (.no) (.blk (.loop (ι := Nat × (Int × List LabBox)) (fun i=>(fun (i40:Int) (xs:List LabBox)=>(⟨[(1,some (.h 0 0)),(2,some (.h 1 0)),(3,some (.p 2 0)),(6,some (.p 5 0)),(7,some (.v (vI i40)))],[(0,some (.shr none (.l 1 eInt path))),(1,some (.shr none (.l 1 eInt labels))),(2,some (.box 26 [.h 3 0,.h 4 0])),(3,some (.own 3 (.l 2 eLabLink n.Links))),(4,some (.own 4 (.l 2 eLabBox xs))),(5,some (.box 26 [.v (.slice none 0 0),.v (.slice none 0 0)]))],6⟩:St)) i.2.1 i.2.2) (fun i=>runL (F40_s0 n path labels) i.1 i.2=(runL (F40_s0 n path labels) (((path.length:Int) - 0).toNat + 1) (0,n.Boxes))∧(fun (i40:Int) (xs:List LabBox)=>(Int.toNat ((path.length:Int) - i40) < i.1∧LayS n path labels i40 xs∧(i40 < (path.length:Int) → 0 ≤ path.getD i40.toNat default∧path.getD i40.toNat default < (xs.length:Int)∧(xs.getD (path.getD i40.toNat default).toNat default).Rows.length ≤ 60)∧(0:Int) ≤ i40∧xs.length=n.Boxes.length)) i.2.1 i.2.2) (fun i=>i.1) ((((path.length:Int) - 0).toNat + 1),(0,n.Boxes)) (fun i=>(fun (i40:Int) (xs:List LabBox)=>(.seq (.seq (.no) (.cond (.no) (.no))) (.seq (.blk (.seq (.no) (.cut (ι := Int × Int) (fun j=>(fun (r1:Int) (r2:Int)=>(⟨[(1,some (.h 0 0)),(2,some (.h 1 0)),(3,some (.p 2 0)),(6,some (.p 5 0)),(7,some (.v (vI i40))),(8,some (.p 6 0))],[(0,some (.shr none (.l 1 eInt path))),(1,some (.shr none (.l 1 eInt labels))),(2,some (.box 26 [.h 3 0,.h 4 0])),(3,some (.own 3 (.l 2 eLabLink n.Links))),(4,some (.own 4 (.l 2 eLabBox xs))),(5,some (.box 26 [.v (.slice none 0 0),.v (.slice none 0 0)])),(6,some (.box 66 [.v (vI (labels.getD i40.toNat default)),.v (vI r1),.v (vI r2)]))],7⟩:St)) j.1 j.2) (fun j=>(fun (r1:Int) (r2:Int)=>((F40_j2 n path labels i40 xs)=Lp.done j∧(⟨labels.getD i40.toNat default,r1,r2⟩:LabRow)=rowAt path labels i40.toNat)) j.1 j.2) (.seq (.reg [(1,.bnd)]) (.cond (.seq (.reg [(2,.bnd)]) (.reg [(2,.bnd)])) (.no))) (fun j=>(fun (r1:Int) (r2:Int)=>(.reg [(16,.call 77 (T77 (putK (fun x:LabRow=>x.In) ((xs.getD (path.getD i40.toNat default).toNat default).Rows) (⟨(labels.getD i40.toNat default),r1,r2⟩:LabRow)) ((xs.getD (path.getD i40.toNat default).toNat default).Rows) (⟨(labels.getD i40.toNat default),r1,r2⟩:LabRow)) (oa77 ((xs.getD (path.getD i40.toNat default).toNat default).Rows) (⟨(labels.getD i40.toNat default),r1,r2⟩:LabRow)) none),(19,.dat (.l 2 eLabBox (xs.set ((path.getD i40.toNat default)).toNat (⟨(putK (fun x:LabRow=>x.In) ((xs.getD (path.getD i40.toNat default).toNat default).Rows) (⟨(labels.getD i40.toNat default),r1,r2⟩:LabRow)),(xs.getD (path.getD i40.toNat default).toNat default).Guards⟩:LabBox))))])) j.1 j.2)))) (.reg [(1,.bnd)])))) i.2.1 i.2.2)))) (.seq (.no) (.no)))) Tryz.func40 (fun (hp:LayP n path labels∧labels.length=path.length)=>(fun (hpre0:LayP n path labels) (hpre1:labels.length=path.length)=>fun (_:path.length ≤ 9223372036854775807)=>fun (_:labels.length ≤ 9223372036854775807)=>fun (_:path.length ≤ 9223372036854775807)=>fun (_:labels.length ≤ 9223372036854775807)=>fun (_:n.Links.length ≤ 9223372036854775807)=>fun (_:n.Boxes.length ≤ 9223372036854775807)=>ai (ai (rfl) (ai ((Imp.refl _)) (ai ((Imp.refl _)) (ai ((Imp.refl _)) (ai ((Imp.refl _)) (ai (rfl) (ai (rfl) ((ai (rfl:runL (F40_s0 n path labels) (((path.length:Int) - 0).toNat + 1) (0,n.Boxes)=(runL (F40_s0 n path labels) (((path.length:Int) - 0).toNat + 1) (0,n.Boxes))) (ai ((Nat.lt_succ_self _:Int.toNat ((path.length:Int) - 0) < (((path.length:Int) - 0).toNat + 1))) (ai ((by first | omega | (simp only [lens] at * <;> omega) | (exact LayS.zero (by assumption)) | (exact LayS.next (by assumption) (by assumption) (by assumption)) | (exact fun hi=>LayS.in_ (by first | assumption | exact LayS.zero (by assumption) | exact LayS.next (by assumption) (by assumption) (by assumption)) hi):LayS n path labels 0 n.Boxes)) (ai ((by first | omega | (simp only [lens] at * <;> omega) | (exact LayS.zero (by assumption)) | (exact LayS.next (by assumption) (by assumption) (by assumption)) | (exact fun hi=>LayS.in_ (by first | assumption | exact LayS.zero (by assumption) | exact LayS.next (by assumption) (by assumption) (by assumption)) hi):0 < (path.length:Int) → 0 ≤ path.getD (Int.toNat 0) default∧path.getD (Int.toNat 0) default < (n.Boxes.length:Int)∧(n.Boxes.getD (path.getD (Int.toNat 0) default).toNat default).Rows.length ≤ 60)) (ai ((by first | omega | (simp only [lens] at * <;> omega) | (exact LayS.zero (by assumption)) | (exact LayS.next (by assumption) (by assumption) (by assumption)) | (exact fun hi=>LayS.in_ (by first | assumption | exact LayS.zero (by assumption) | exact LayS.next (by assumption) (by assumption) (by assumption)) hi):(0:Int) ≤ 0)) ((by first | omega | (simp only [lens] at * <;> omega) | (exact LayS.zero (by assumption)) | (exact LayS.next (by assumption) (by assumption) (by assumption)) | (exact fun hi=>LayS.in_ (by first | assumption | exact LayS.zero (by assumption) | exact LayS.next (by assumption) (by assumption) (by assumption)) hi):n.Boxes.length=n.Boxes.length)))))))))))))):((.int .i64 0:Value)=.int .i64 0)∧(Imp (.l 1 eInt path) (.l 1 eInt path))∧(Imp (.l 1 eInt labels) (.l 1 eInt labels))∧(Imp (.l 2 eLabLink n.Links) (.l 2 eLabLink n.Links))∧(Imp (.l 2 eLabBox n.Boxes) (.l 2 eLabBox n.Boxes))∧((.slice none 0 0:Value)=.slice none 0 0)∧((.slice none 0 0:Value)=.slice none 0 0)∧(runL (F40_s0 n path labels) (((path.length:Int) - 0).toNat + 1) (0,n.Boxes)=(runL (F40_s0 n path labels) (((path.length:Int) - 0).toNat + 1) (0,n.Boxes))∧Int.toNat ((path.length:Int) - 0) < (((path.length:Int) - 0).toNat + 1)∧LayS n path labels 0 n.Boxes∧(0 < (path.length:Int) → 0 ≤ path.getD (Int.toNat 0) default∧path.getD (Int.toNat 0) default < (n.Boxes.length:Int)∧(n.Boxes.getD (path.getD (Int.toNat 0) default).toNat default).Rows.length ≤ 60)∧(0:Int) ≤ 0∧n.Boxes.length=n.Boxes.length)) (fun (i0:Nat × (Int × List LabBox)) (hi0:runL (F40_s0 n path labels) i0.1 i0.2=(runL (F40_s0 n path labels) (((path.length:Int) - 0).toNat + 1) (0,n.Boxes))∧(fun (i40:Int) (xs:List LabBox)=>(Int.toNat ((path.length:Int) - i40) < i0.1∧LayS n path labels i40 xs∧(i40 < (path.length:Int) → 0 ≤ path.getD i40.toNat default∧path.getD i40.toNat default < (xs.length:Int)∧(xs.getD (path.getD i40.toNat default).toNat default).Rows.length ≤ 60)∧(0:Int) ≤ i40∧xs.length=n.Boxes.length)) i0.2.1 i0.2.2)=>(fun (m0:Nat) (i40:Int) (xs:List LabBox) (hI0:runL (F40_s0 n path labels) (m0 + 1) (i40,xs)=(runL (F40_s0 n path labels) (((path.length:Int) - 0).toNat + 1) (0,n.Boxes))) (_:Int.toNat ((path.length:Int) - i40) < m0 + 1) (hl0:m0 < i0.1) (_:LayS n path labels i40 xs) (_:i40 < (path.length:Int) → 0 ≤ path.getD i40.toNat default∧path.getD i40.toNat default < (xs.length:Int)∧(xs.getD (path.getD i40.toNat default).toNat default).Rows.length ≤ 60) (_:(0:Int) ≤ i40) (_:xs.length=n.Boxes.length)=>ai (fun h2:(decide (i40 < (path.length:Int)))=true=>(fun _:i40 < (path.length:Int)=>ai ((by first | omega | (simp only [lens] at * <;> omega):0 ≤ i40∧i40 < (labels.length:Int))) (ai (ai ((by unfold i64ok; first | omega | (simp only [lens] at * <;> omega):i64ok (i40 + 1))) (ai (fun h3:(decide ((i40 + 1) < (path.length:Int)))=true=>(fun _:(i40 + 1) < (path.length:Int)=>ai ((by unfold i64ok; first | omega | (simp only [lens] at * <;> omega):i64ok (i40 + 1))) (ai ((by first | omega | (simp only [lens] at * <;> omega):0 ≤ (i40 + 1)∧(i40 + 1) < (path.length:Int))) (ai ((by unfold i64ok; first | omega | (simp only [lens] at * <;> omega):i64ok (i40 + 1))) (ai ((by first | omega | (simp only [lens] at * <;> omega):0 ≤ (i40 + 1)∧(i40 + 1) < (labels.length:Int))) (Exists.intro (p := fun j:Int × Int=>(fun (r1_:Int) (r2_:Int)=>(((.int .i64 i40:Value)=.int .i64 i40)∧(Imp (.l 1 eInt path) (.l 1 eInt path))∧(Imp (.l 1 eInt labels) (.l 1 eInt labels))∧(Imp (.l 2 eLabLink n.Links) (.l 2 eLabLink n.Links))∧(Imp (.l 2 eLabBox xs) (.l 2 eLabBox xs))∧((.slice none 0 0:Value)=.slice none 0 0)∧((.slice none 0 0:Value)=.slice none 0 0)∧((.int .i64 (labels.getD i40.toNat default):Value)=.int .i64 (labels.getD i40.toNat default))∧((.int .i64 (path.getD (i40 + 1).toNat default):Value)=.int .i64 r1_)∧((.int .i64 (labels.getD (i40 + 1).toNat default):Value)=.int .i64 r2_)∧(F40_j2 n path labels i40 xs)=Lp.done j∧(⟨labels.getD i40.toNat default,r1_,r2_⟩:LabRow)=rowAt path labels i40.toNat)) j.1 j.2) (((path.getD (i40 + 1).toNat default),(labels.getD (i40 + 1).toNat default))) (ai (rfl) (ai ((Imp.refl _)) (ai ((Imp.refl _)) (ai ((Imp.refl _)) (ai ((Imp.refl _)) (ai (rfl) (ai (rfl) (ai (rfl) (ai (rfl) (ai (rfl) (ai (Eq.symm (condT h3 (rfl))) ((by first | omega | (simp only [lens] at * <;> omega) | exact rowAt_T (by assumption) (by assumption) | exact rowAt_F (by assumption) (by assumption):(⟨labels.getD i40.toNat default,(path.getD (i40 + 1).toNat default),(labels.getD (i40 + 1).toNat default)⟩:LabRow)=rowAt path labels i40.toNat)))))))))))))))))) (of_decide_eq_true h3)) (fun h3:(decide ((i40 + 1) < (path.length:Int)))=false=>(fun _:¬ (i40 + 1) < (path.length:Int)=>Exists.intro (p := fun j:Int × Int=>(fun (r1_:Int) (r2_:Int)=>(((.int .i64 i40:Value)=.int .i64 i40)∧(Imp (.l 1 eInt path) (.l 1 eInt path))∧(Imp (.l 1 eInt labels) (.l 1 eInt labels))∧(Imp (.l 2 eLabLink n.Links) (.l 2 eLabLink n.Links))∧(Imp (.l 2 eLabBox xs) (.l 2 eLabBox xs))∧((.slice none 0 0:Value)=.slice none 0 0)∧((.slice none 0 0:Value)=.slice none 0 0)∧((.int .i64 (labels.getD i40.toNat default):Value)=.int .i64 (labels.getD i40.toNat default))∧((.int .i64 (-1):Value)=.int .i64 r1_)∧((.int .i64 0:Value)=.int .i64 r2_)∧(F40_j2 n path labels i40 xs)=Lp.done j∧(⟨labels.getD i40.toNat default,r1_,r2_⟩:LabRow)=rowAt path labels i40.toNat)) j.1 j.2) (((-1),0)) (ai (rfl) (ai ((Imp.refl _)) (ai ((Imp.refl _)) (ai ((Imp.refl _)) (ai ((Imp.refl _)) (ai (rfl) (ai (rfl) (ai (rfl) (ai (rfl) (ai (rfl) (ai (Eq.symm (condF h3 (rfl))) ((by first | omega | (simp only [lens] at * <;> omega) | exact rowAt_T (by assumption) (by assumption) | exact rowAt_F (by assumption) (by assumption):(⟨labels.getD i40.toNat default,(-1),0⟩:LabRow)=rowAt path labels i40.toNat)))))))))))))) (of_decide_eq_false h3)))) (fun (j:Int × Int) (hj:(fun (r1:Int) (r2:Int)=>((F40_j2 n path labels i40 xs)=Lp.done j∧(⟨labels.getD i40.toNat default,r1,r2⟩:LabRow)=rowAt path labels i40.toNat)) j.1 j.2)=>(fun (r1:Int) (r2:Int) (hJ2_4:(F40_j2 n path labels i40 xs)=Lp.done (r1,r2)) (_:(⟨labels.getD i40.toNat default,r1,r2⟩:LabRow)=rowAt path labels i40.toNat)=>ai ((by first | omega | (simp only [lens] at * <;> omega):0 ≤ i40∧i40 < (path.length:Int))) (ai ((by first | omega | (simp only [lens] at * <;> omega):0 ≤ i40∧i40 < (path.length:Int))) (ai ((by first | omega | (simp only [lens] at * <;> omega):0 ≤ (path.getD i40.toNat default)∧(path.getD i40.toNat default) < (xs.length:Int))) (ai (((by first | omega | (simp only [lens] at * <;> omega):((xs.getD (path.getD i40.toNat default).toNat default).Rows).length ≤ 1000000000))) (ai ((Imp.refl (.l 3 eLabRow ((xs.getD (path.getD i40.toNat default).toNat default).Rows)))) (ai ((Imps.refl (eLabRow (⟨(labels.getD i40.toNat default),r1,r2⟩:LabRow)))) (ai ((by first | omega | (simp only [lens] at * <;> omega):0 ≤ (path.getD i40.toNat default)∧(path.getD i40.toNat default) < (xs.length:Int))) (ai ((SetOK.mk eLabBox xs (⟨(putK (fun x:LabRow=>x.In) ((xs.getD (path.getD i40.toNat default).toNat default).Rows) (⟨(labels.getD i40.toNat default),r1,r2⟩:LabRow)),(xs.getD (path.getD i40.toNat default).toNat default).Guards⟩:LabBox) rfl (by exact ai (Imp.refl _) (ai (Imp.refl _) (trivial))):SetOK (.l 2 eLabBox xs) ((path.getD i40.toNat default)).toNat (eLabBox (xs.getD (path.getD i40.toNat default).toNat default)) [.l 3 eLabRow (putK (fun x:LabRow=>x.In) ((xs.getD (path.getD i40.toNat default).toNat default).Rows) (⟨(labels.getD i40.toNat default),r1,r2⟩:LabRow)),.l 3 eLabVia ((xs.getD (path.getD i40.toNat default).toNat default).Guards)] (.l 2 eLabBox (xs.set ((path.getD i40.toNat default)).toNat (⟨(putK (fun x:LabRow=>x.In) ((xs.getD (path.getD i40.toNat default).toNat default).Rows) (⟨(labels.getD i40.toNat default),r1,r2⟩:LabRow)),(xs.getD (path.getD i40.toNat default).toNat default).Guards⟩:LabBox))))) (ai ((by unfold i64ok; first | omega | (simp only [lens] at * <;> omega):i64ok (i40 + 1))) (Exists.intro (p := fun j:Nat × (Int × List LabBox)=>(fun (i40_:Int) (xs_:List LabBox)=>(((.int .i64 (i40 + 1):Value)=.int .i64 i40_)∧(Imp (.l 1 eInt path) (.l 1 eInt path))∧(Imp (.l 1 eInt labels) (.l 1 eInt labels))∧(Imp (.l 2 eLabLink n.Links) (.l 2 eLabLink n.Links))∧(Imp (.l 2 eLabBox (xs.set ((path.getD i40.toNat default)).toNat (⟨(putK (fun x:LabRow=>x.In) ((xs.getD (path.getD i40.toNat default).toNat default).Rows) (⟨(labels.getD i40.toNat default),r1,r2⟩:LabRow)),(xs.getD (path.getD i40.toNat default).toNat default).Guards⟩:LabBox))) (.l 2 eLabBox xs_))∧((.slice none 0 0:Value)=.slice none 0 0)∧((.slice none 0 0:Value)=.slice none 0 0)∧((runL (F40_s0 n path labels) j.1 j.2=(runL (F40_s0 n path labels) (((path.length:Int) - 0).toNat + 1) (0,n.Boxes))∧Int.toNat ((path.length:Int) - i40_) < j.1∧LayS n path labels i40_ xs_∧(i40_ < (path.length:Int) → 0 ≤ path.getD i40_.toNat default∧path.getD i40_.toNat default < (xs_.length:Int)∧(xs_.getD (path.getD i40_.toNat default).toNat default).Rows.length ≤ 60)∧(0:Int) ≤ i40_∧xs_.length=n.Boxes.length)∧j.1 < i0.1))) j.2.1 j.2.2) (m0,((i40 + 1),(xs.set ((path.getD i40.toNat default)).toNat (⟨(putK (fun x:LabRow=>x.In) ((xs.getD (path.getD i40.toNat default).toNat default).Rows) (⟨(labels.getD i40.toNat default),r1,r2⟩:LabRow)),(xs.getD (path.getD i40.toNat default).toNat default).Guards⟩:LabBox)))) (ai (rfl) (ai ((Imp.refl _)) (ai ((Imp.refl _)) (ai ((Imp.refl _)) (ai ((Imp.refl _)) (ai (rfl) (ai (rfl) (ai (ai (runL_next hI0 (condT h2 (finD hJ2_4 (rfl)))) (ai ((by first | omega | (simp only [lens] at * <;> omega) | (exact LayS.zero (by assumption)) | (exact LayS.next (by assumption) (by assumption) (by assumption)) | (exact fun hi=>LayS.in_ (by first | assumption | exact LayS.zero (by assumption) | exact LayS.next (by assumption) (by assumption) (by assumption)) hi):Int.toNat ((path.length:Int) - (i40 + 1)) < m0)) (ai ((by first | omega | (simp only [lens] at * <;> omega) | (exact LayS.zero (by assumption)) | (exact LayS.next (by assumption) (by assumption) (by assumption)) | (exact fun hi=>LayS.in_ (by first | assumption | exact LayS.zero (by assumption) | exact LayS.next (by assumption) (by assumption) (by assumption)) hi):LayS n path labels (i40 + 1) (xs.set ((path.getD i40.toNat default)).toNat (⟨(putK (fun x:LabRow=>x.In) ((xs.getD (path.getD i40.toNat default).toNat default).Rows) (⟨(labels.getD i40.toNat default),r1,r2⟩:LabRow)),(xs.getD (path.getD i40.toNat default).toNat default).Guards⟩:LabBox)))) (ai ((by first | omega | (simp only [lens] at * <;> omega) | (exact LayS.zero (by assumption)) | (exact LayS.next (by assumption) (by assumption) (by assumption)) | (exact fun hi=>LayS.in_ (by first | assumption | exact LayS.zero (by assumption) | exact LayS.next (by assumption) (by assumption) (by assumption)) hi):(i40 + 1) < (path.length:Int) → 0 ≤ path.getD (i40 + 1).toNat default∧path.getD (i40 + 1).toNat default < ((xs.set ((path.getD i40.toNat default)).toNat (⟨(putK (fun x:LabRow=>x.In) ((xs.getD (path.getD i40.toNat default).toNat default).Rows) (⟨(labels.getD i40.toNat default),r1,r2⟩:LabRow)),(xs.getD (path.getD i40.toNat default).toNat default).Guards⟩:LabBox)).length:Int)∧((xs.set ((path.getD i40.toNat default)).toNat (⟨(putK (fun x:LabRow=>x.In) ((xs.getD (path.getD i40.toNat default).toNat default).Rows) (⟨(labels.getD i40.toNat default),r1,r2⟩:LabRow)),(xs.getD (path.getD i40.toNat default).toNat default).Guards⟩:LabBox)).getD (path.getD (i40 + 1).toNat default).toNat default).Rows.length ≤ 60)) (ai ((by first | omega | (simp only [lens] at * <;> omega) | (exact LayS.zero (by assumption)) | (exact LayS.next (by assumption) (by assumption) (by assumption)) | (exact fun hi=>LayS.in_ (by first | assumption | exact LayS.zero (by assumption) | exact LayS.next (by assumption) (by assumption) (by assumption)) hi):(0:Int) ≤ (i40 + 1))) ((by first | omega | (simp only [lens] at * <;> omega) | (exact LayS.zero (by assumption)) | (exact LayS.next (by assumption) (by assumption) (by assumption)) | (exact fun hi=>LayS.in_ (by first | assumption | exact LayS.zero (by assumption) | exact LayS.next (by assumption) (by assumption) (by assumption)) hi):(xs.set ((path.getD i40.toNat default)).toNat (⟨(putK (fun x:LabRow=>x.In) ((xs.getD (path.getD i40.toNat default).toNat default).Rows) (⟨(labels.getD i40.toNat default),r1,r2⟩:LabRow)),(xs.getD (path.getD i40.toNat default).toNat default).Guards⟩:LabBox)).length=n.Boxes.length))))))) hl0)))))))))))))))))) j.1 j.2 hj.1 hj.2))) (of_decide_eq_true h2)) (fun h2:(decide (i40 < (path.length:Int)))=false=>(fun _:¬ i40 < (path.length:Int)=>(fun hD0_5:(runL (F40_s0 n path labels) (((path.length:Int) - 0).toNat + 1) (0,n.Boxes))=Lp.done (i40,xs)=>(fun hF:((⟨n.Links,xs⟩:LabNet):LabNet)=(F40 n path labels)=>ai (Imp.of_eq (congrArg (fun r:LabNet=>Dat.l 2 eLabLink r.Links) hF)) (ai (Imp.of_eq (congrArg (fun r:LabNet=>Dat.l 2 eLabBox r.Boxes) hF)) (trivial))) (finD hD0_5 (rfl))) (runL_done hI0 (condF h2 (rfl)))) (of_decide_eq_false h2))) (i0.1 - 1) i0.2.1 i0.2.2 (hd1 hi0.1 hi0.2.1) (hd2 hi0.2.1) (hd3 hi0.2.1) hi0.2.2.1 hi0.2.2.2.1 hi0.2.2.2.2.1 hi0.2.2.2.2.2)) hp.1 hp.2) (by kernel_rfl)
end Go.Proofs.YtmiolofjlfnohaaGreat
namespace Go.Proofs.YtmiolofjlfnohaaGreat
open Go.RowKit
set_option maxRecDepth 100000
set_option linter.unusedVariables false
set_option linter.unusedSimpArgs false
def labsOf (n : LabNet) (path : List Int) : List Int := path.map (freeOn n)
def labsB (n : LabNet) (path : List Int) : Bool := (labsOf n path).all (fun x => !decide (x = 0))
def labsR (n : LabNet) (path : List Int) : List Int := bif labsB n path then labsOf n path else []
theorem labs_loop {ρ : Type} (n : LabNet) (path : List Int) (r0 : ρ) (step : List Int × Int → Lp (List Int × Int) ρ)
  (hs : ∀ (k : Nat) xs, k < path.length → step (xs, (k : Int)) = bif (freeOn n (path.getD k default) == 0) then .ret r0 else .next (xs ++ [freeOn n (path.getD k default)], (k : Int) + 1)) (he : ∀ xs, step (xs, (path.length : Int)) = .done (xs, (path.length : Int))) :
  runL step (((path.length : Int) - 0).toNat + 1) ([], 0) = bif labsB n path then .done (labsOf n path, (path.length : Int)) else .ret r0 := by
 have h := runL_rule (step := step) (fun (k : Nat) (xs : List Int) => (xs, (k : Int))) path.length (fun k xs => xs = (path.take k).map (freeOn n) ∧ ∀ x ∈ xs, x ≠ 0) (fun r => r = r0 ∧ labsB n path = false)
  (fun k xs hk ⟨h1, h2⟩ => by
   rw [hs k xs hk, beqD]
   by_cases hz : freeOn n (path.getD k default) = 0
   ·refine .inr ⟨r0, by rw [decide_eq_true hz]; rfl, rfl, ?_⟩
    unfold labsB
    rw [List.all_eq_false]
    refine ⟨freeOn n (path.getD k default), List.mem_map_of_mem (getD_mem _ hk), by rw [hz]; decide⟩
   ·refine .inl ⟨_, by rw [decide_eq_false hz]; rfl, by rw [h1, take_next hk, List.map_append]; rfl, fun x hx => ?_⟩
    rcases List.mem_append.1 hx with hx | hx
    ·exact h2 x hx
    ·rw [List.mem_singleton.1 hx]; exact hz)
  (fun xs _ => he xs) path.length 0 [] (by omega) ⟨rfl, fun x hx => by cases hx⟩ (path.length + 1) (Nat.lt_succ_self _)
 rw [n0]
 rcases h with ⟨xs, h, h1, h2⟩ | ⟨r, h, rfl, h1⟩
 ·rw [List.take_length] at h1
  have hb : labsB n path = true := by
   unfold labsB
   rw [List.all_eq_true]
   intro x hx
   have : x ∈ xs := by rw [h1]; exact hx
   simpa using h2 x this
  rw [hb, cond_true]
  rw [h1] at h
  exact h
 ·rw [h1, cond_false]; exact h
theorem as39 (n : LabNet) (path : List Int) : F39 n path = labsR n path := by
 unfold F39 labsR
 rw [labs_loop n path ([] : List Int) _ (fun k xs hk => by simp only [F39_s0, ltD hk, cond_true, nn]; rfl) (fun xs => by simp [F39_s0])]
 cases labsB n path <;> rfl
theorem LayP.of_labs {n : LabNet} {path : List Int} (h : NetOk n) (hp : PathOk n path) (hz : ¬ ((labsR n path).length : Int) = 0) : LayP n path (labsR n path) := by
 unfold labsR at hz ⊢
 cases e : labsB n path with
 | false => rw [e] at hz; exact absurd rfl hz
 | true =>
  refine ⟨h, hp, rfl, fun x hx => ?_⟩
  unfold labsB at e
  have := List.all_eq_true.1 e x hx
  simpa using this
theorem lay_loop {ρ : Type} {n : LabNet} {path labels : List Int} (hp : LayP n path labels) (step : Int × List LabBox → Lp (Int × List LabBox) ρ)
  (hs : ∀ (k : Nat) xs, k < path.length → LayS n path labels (k : Int) xs → step ((k : Int), xs) = .next ((k : Int) + 1, xs.set (path.getD k default).toNat ⟨putK (fun x : LabRow => x.In) (xs.getD (path.getD k default).toNat default).Rows (rowAt path labels k), (xs.getD (path.getD k default).toNat default).Guards⟩))
  (he : ∀ xs, step ((path.length : Int), xs) = .done ((path.length : Int), xs)) :
  runL step (((path.length : Int) - 0).toNat + 1) (0, n.Boxes) = .done ((path.length : Int), layTo n path labels path.length) := by
 have h := runL_rule (step := step) (fun (k : Nat) (xs : List LabBox) => ((k : Int), xs)) path.length (fun k xs => LayS n path labels (k : Int) xs) (fun _ => False)
  (fun k xs hk hI => .inl ⟨_, hs k xs hk hI, by
   have := hI.next (r := rowAt path labels k) (by omega) (by rw [nn])
   rw [nn] at this
   exact this⟩)
  (fun xs _ => he xs) path.length 0 n.Boxes (by omega) (LayS.zero hp) (path.length + 1) (Nat.lt_succ_self _)
 rw [n0]
 rcases h with ⟨xs, h, h1⟩ | ⟨_, _, h⟩
 ·have := h1.xs
  rw [nn] at this
  rw [← this]; exact h
 ·exact h.elim
theorem as40 (n : LabNet) (path labels : List Int) (hp : LayP n path labels) : F40 n path labels = (⟨n.Links, layTo n path labels path.length⟩ : LabNet) := by
 unfold F40
 rw [lay_loop hp _ (fun k xs hk hI => by
  simp only [F40_s0, ltD hk, cond_true, nn]
  unfold F40_j2 rowAt
  by_cases hx : (k : Int) + 1 < (path.length : Int)
  ·rw [decide_eq_true hx]; rfl
  ·rw [decide_eq_false hx]; rfl) (fun xs => by simp [F40_s0])]
 rfl
def layR (n : LabNet) (path : List Int) : Int × Int × LabNet :=
 bif pathB n path then (bif labsB n path then ((labsOf n path).getD 0 default, 0, ⟨n.Links, layTo n path (labsOf n path) path.length⟩) else (0, 3, n)) else (0, 2, n)
theorem layP_of {n : LabNet} {path : List Int} (h : NetOk n) (hp : pathB n path = true) (hb : labsB n path = true) : LayP n path (labsOf n path) := by
 refine ⟨h, pathB_ok.1 hp, rfl, fun x hx => ?_⟩
 have := List.all_eq_true.1 hb x hx
 simpa using this
theorem as34 (n : LabNet) (path : List Int) (h : NetOk n) : F34 n path = layR n path := by
 unfold F34 layR
 cases hp : pathB n path
 ·rfl
 simp only [Bool.not_true, cond_false, cond_true]
 unfold F34_j0
 rw [labs_loop n path (((0 : Int), (3 : Int), n) : Int × Int × LabNet) _ (fun k xs hk => by simp only [F34_s0, ltD hk, cond_true, nn]; rfl) (fun xs => by simp [F34_s0])]
 cases hb : labsB n path
 ·rfl
 simp only [cond_true, Lp.fin]
 have hL := layP_of h hp hb
 rw [lay_loop hL _ (fun k xs hk hI => by
  simp only [F34_s1, ltD hk, cond_true, nn]
  unfold F34_j3
  by_cases hx : (k : Int) + 1 < (path.length : Int)
  ·rw [decide_eq_true hx]
   simp only [cond_true, Lp.fin]
   have hr := rowAt_T (path := path) (labels := labsOf n path) (i := (k : Int)) (by omega) hx
   have := (hI.sort (by omega) hr).2
   simp only [nn] at this hr
   unfold F70
   rw [this, hr]
  ·rw [decide_eq_false hx]
   simp only [cond_false, Lp.fin]
   have hr := rowAt_F (path := path) (labels := labsOf n path) (i := (k : Int)) (by omega) hx
   have := (hI.sort (by omega) hr).2
   simp only [nn] at this hr
   unfold F70
   rw [this, hr]) (fun xs => by simp [F34_s1])]
 rfl
theorem layR_net {n : LabNet} (h : NetOk n) (path : List Int) : NetOk (layR n path).2.2 := by
 unfold layR
 cases hp : pathB n path
 ·exact h
 cases hb : labsB n path
 ·exact h
 exact (layP_of h hp hb).netTo _ (Nat.le_refl _)
theorem LayP.bound {n : LabNet} {path labels : List Int} (h : LayP n path labels) : (layTo n path labels path.length).length ≤ 1000000000 ∧ ∀ k : Nat, ((layTo n path labels path.length).getD k default).Rows.length ≤ 1000000000 ∧ ((layTo n path labels path.length).getD k default).Guards.length ≤ 1000000000 := by
 have hn := h.netTo _ (Nat.le_refl _)
 have h8 := hn.frame.b8
 refine ⟨by have : (layTo n path labels path.length).length ≤ 8 := h8; omega, fun k => ?_⟩
 have h1 := NetOk.rows hn k
 have h2 := NetOk.vias hn k
 exact ⟨by have : ((layTo n path labels path.length).getD k default).Rows.length ≤ 60 := h1; omega, by have : ((layTo n path labels path.length).getD k default).Guards.length ≤ 8 := h2; omega⟩
end Go.Proofs.YtmiolofjlfnohaaGreat
namespace Go.Proofs.YtmiolofjlfnohaaGreat
open Go.RowKit
set_option maxRecDepth 100000
set_option linter.unusedVariables false
set_option linter.unusedSimpArgs false
def T34 (R:Int × Int × LabNet) (n:LabNet) (path:List Int):Spec := ⟨(S34 R n path).args,(S34 R n path).res,NetOk n∧n.Boxes.length ≤ 8⟩
theorem oa34 (n:LabNet) (path:List Int):(T34 (layR n path) n path).ok Tryz.prog 34 := by
 intro hp; have h := ok34 n path hp; rw [as34 n path hp.1] at h; exact h
def T39 (R:List Int) (n:LabNet) (path:List Int):Spec := ⟨(S39 R n path).args,(S39 R n path).res,PathOk n path∧path.length ≤ 8⟩
theorem oa39 (n:LabNet) (path:List Int):(T39 (labsR n path) n path).ok Tryz.prog 39 := by
 intro hp; have h := ok39 n path hp; rw [as39 n path] at h; exact h
def T40 (R:LabNet) (n:LabNet) (path:List Int) (labels:List Int):Spec := ⟨(S40 R n path labels).args,(S40 R n path labels).res,LayP n path labels∧labels.length=path.length⟩
theorem oa40 (n:LabNet) (path:List Int) (labels:List Int):(T40 ((⟨n.Links,layTo n path labels path.length⟩:LabNet)) n path labels).ok Tryz.prog 40 := by
 intro hp; have h := ok40 n path labels hp; rw [as40 n path labels hp.1] at h; exact h
def F11 (n:LabNet) (path:List Int):LabNet × Int × Int :=
 bif (!(netB n)) then ((⟨[],[]⟩:LabNet),0,1) else (((layR n path).2.2),(layR n path).1,(layR n path).2.1)
def S11 (R:LabNet × Int × Int) (n:LabNet) (path:List Int):Spec := ⟨[.r (.g (eLabNet n)),.r (.c (.l 1 eInt path))],.tu [.ag [.ow (.l 2 eLabLink R.1.Links),.ow (.l 2 eLabBox R.1.Boxes)],.v (vI R.2.1),.v (vI R.2.2)],True⟩
theorem ok11 (n:LabNet) (path:List Int):(S11 (F11 n path) n path).ok Tryz.prog 11 :=
 fnG_ok mixed (fn := Tryz.f11) (ct := .seqk [(1,0)] (.no) (.seq (.seq (.reg [(1,.call 7 (S7 (netB n) n) (oa7 n) none)]) (.cond (.seq (.no) (.no)) (.no))) (.seq (.reg [(1,.call 30 (S30 n n) (oa30 n) none)]) (.seq (.reg [(1,.call 34 (T34 (layR n path) n path) (oa34 n path) none)]) (.seq (.no) (.no)))))) Tryz.func11 (fun (_:True)=>fun (_:path.length ≤ 9223372036854775807)=>ai (trivial) (ai ((Imps.refl (eLabNet n))) (ai (fun h1:(!(netB n))=true=>(fun hF:((⟨[],[]⟩:LabNet),0,1)=(F11 n path)=>ai ((Imp.nil 2 eLabLink).trans (Imp.of_eq (congrArg (fun r:LabNet × Int × Int=>Dat.l 2 eLabLink r.1.Links) hF))) (ai ((Imp.nil 2 eLabBox).trans (Imp.of_eq (congrArg (fun r:LabNet × Int × Int=>Dat.l 2 eLabBox r.1.Boxes) hF))) (ai (congrArg (fun r:LabNet × Int × Int=>(.int .i64 r.2.1:Value)) hF) (ai (congrArg (fun r:LabNet × Int × Int=>(.int .i64 r.2.2:Value)) hF) (trivial))))) (condT h1 (rfl))) (fun h1:(!(netB n))=false=>(fun _:n.Links.length ≤ 14=>(fun _:n.Boxes.length ≤ 8=>(fun _:NetOk n=>ai ((ai ((by omega:n.Links.length ≤ 1000000000)) (ai ((by omega:n.Boxes.length ≤ 1000000000)) (ai ((by first | (first | assumption | (intro k; have := NetOk.rows (by assumption:NetOk n) k; have := NetOk.vias (by assumption:NetOk n) k; omega)) | assumption | (intros; exact Nat.zero_le _):∀ k:Nat,(n.Boxes.getD k default).Rows.length ≤ 1000000000)) ((by first | (first | assumption | (intro k; have := NetOk.rows (by assumption:NetOk n) k; have := NetOk.vias (by assumption:NetOk n) k; omega)) | assumption | (intros; exact Nat.zero_le _):∀ k:Nat,(n.Boxes.getD k default).Guards.length ≤ 1000000000)))))) (ai ((Imps.refl (eLabNet n))) (ai ((ai ((by assumption:NetOk n)) ((by omega:n.Boxes.length ≤ 8)))) (ai ((Imps.refl (eLabNet n))) (ai ((Imp.refl (.l 1 eInt path))) ((fun hF:(((layR n path).2.2),(layR n path).1,(layR n path).2.1)=(F11 n path)=>ai (Imp.of_eq (congrArg (fun r:LabNet × Int × Int=>Dat.l 2 eLabLink r.1.Links) hF)) (ai (Imp.of_eq (congrArg (fun r:LabNet × Int × Int=>Dat.l 2 eLabBox r.1.Boxes) hF)) (ai (congrArg (fun r:LabNet × Int × Int=>(.int .i64 r.2.1:Value)) hF) (ai (congrArg (fun r:LabNet × Int × Int=>(.int .i64 r.2.2:Value)) hF) (trivial))))) (condF h1 (rfl)))))))) (netB_T n (notEF h1))) (netB_8 n (notEF h1))) (netB_14 n (notEF h1)))))) (by kernel_rfl)
def F13 (n:LabNet) (path:List Int):LabNet × Int × Int :=
 bif (!(netB n)) then ((⟨[],[]⟩:LabNet),0,1) else (bif (!(pathB n path)) then (n,0,2) else (bif (((labsR n path).length:Int) == 0) then (n,0,3) else ((⟨n.Links,layTo n path (labsR n path) path.length⟩:LabNet),((labsR n path).getD (Int.toNat 0) default),0)))
def S13 (R:LabNet × Int × Int) (n:LabNet) (path:List Int):Spec := ⟨[.r (.g (eLabNet n)),.r (.c (.l 1 eInt path))],.tu [.ag [.ow (.l 2 eLabLink R.1.Links),.ow (.l 2 eLabBox R.1.Boxes)],.v (vI R.2.1),.v (vI R.2.2)],True⟩
theorem ok13 (n:LabNet) (path:List Int):(S13 (F13 n path) n path).ok Tryz.prog 13 :=
 fnG_ok mixed (fn := Tryz.f13) (ct := .seqk [(1,0)] (.no) (.seq (.seq (.reg [(1,.call 32 (S32 (netB n) n) (oa32 n) none)]) (.cond (.seq (.no) (.no)) (.no))) (.seq (.reg [(1,.call 33 (S33 n n) (oa33 n) none)]) (.seq (.seq (.reg [(2,.call 38 (S38 (pathB n path) n path) (oa38 n path) none)]) (.cond (.seq (.no) (.no)) (.no))) (.seq (.reg [(2,.call 39 (T39 (labsR n path) n path) (oa39 n path) none)]) (.seq (.seq (.no) (.cond (.seq (.no) (.no)) (.no))) (.seq (.reg [(3,.call 40 (T40 (⟨n.Links,layTo n path (labsR n path) path.length⟩:LabNet) n path (labsR n path)) (oa40 n path (labsR n path)) none),(4,.call 33 (S33 (⟨n.Links,layTo n path (labsR n path) path.length⟩:LabNet) (⟨n.Links,layTo n path (labsR n path) path.length⟩:LabNet)) (oa33 (⟨n.Links,layTo n path (labsR n path) path.length⟩:LabNet)) none)]) (.no)))))))) Tryz.func13 (fun (_:True)=>fun (_:path.length ≤ 9223372036854775807)=>ai (trivial) (ai ((Imps.refl (eLabNet n))) (ai (fun h1:(!(netB n))=true=>(fun hF:((⟨[],[]⟩:LabNet),0,1)=(F13 n path)=>ai ((Imp.nil 2 eLabLink).trans (Imp.of_eq (congrArg (fun r:LabNet × Int × Int=>Dat.l 2 eLabLink r.1.Links) hF))) (ai ((Imp.nil 2 eLabBox).trans (Imp.of_eq (congrArg (fun r:LabNet × Int × Int=>Dat.l 2 eLabBox r.1.Boxes) hF))) (ai (congrArg (fun r:LabNet × Int × Int=>(.int .i64 r.2.1:Value)) hF) (ai (congrArg (fun r:LabNet × Int × Int=>(.int .i64 r.2.2:Value)) hF) (trivial))))) (condT h1 (rfl))) (fun h1:(!(netB n))=false=>(fun _:n.Links.length ≤ 14=>(fun _:n.Boxes.length ≤ 8=>(fun _:NetOk n=>ai ((ai ((by first | omega | (intro k; have := NetOk.rows (by assumption:NetOk n) k; have := NetOk.vias (by assumption:NetOk n) k; omega) | (have hq := LayP.bound (LayP.of_labs (by assumption) (by assumption) (by assumption)); first | exact hq.1 | exact fun k=>(hq.2 k).1 | exact fun k=>(hq.2 k).2):n.Links.length ≤ 1000000000)) (ai ((by first | omega | (intro k; have := NetOk.rows (by assumption:NetOk n) k; have := NetOk.vias (by assumption:NetOk n) k; omega) | (have hq := LayP.bound (LayP.of_labs (by assumption) (by assumption) (by assumption)); first | exact hq.1 | exact fun k=>(hq.2 k).1 | exact fun k=>(hq.2 k).2):n.Boxes.length ≤ 1000000000)) (ai ((by first | omega | (intro k; have := NetOk.rows (by assumption:NetOk n) k; have := NetOk.vias (by assumption:NetOk n) k; omega) | (have hq := LayP.bound (LayP.of_labs (by assumption) (by assumption) (by assumption)); first | exact hq.1 | exact fun k=>(hq.2 k).1 | exact fun k=>(hq.2 k).2):∀ k:Nat,(n.Boxes.getD k default).Rows.length ≤ 1000000000)) ((by first | omega | (intro k; have := NetOk.rows (by assumption:NetOk n) k; have := NetOk.vias (by assumption:NetOk n) k; omega) | (have hq := LayP.bound (LayP.of_labs (by assumption) (by assumption) (by assumption)); first | exact hq.1 | exact fun k=>(hq.2 k).1 | exact fun k=>(hq.2 k).2):∀ k:Nat,(n.Boxes.getD k default).Guards.length ≤ 1000000000)))))) (ai ((Imps.refl (eLabNet n))) (ai (trivial) (ai ((Imps.refl (eLabNet n))) (ai ((Imp.refl (.l 1 eInt path))) (ai (fun h2:(!(pathB n path))=true=>(fun hF:(n,0,2)=(F13 n path)=>ai (Imp.of_eq (congrArg (fun r:LabNet × Int × Int=>Dat.l 2 eLabLink r.1.Links) hF)) (ai (Imp.of_eq (congrArg (fun r:LabNet × Int × Int=>Dat.l 2 eLabBox r.1.Boxes) hF)) (ai (congrArg (fun r:LabNet × Int × Int=>(.int .i64 r.2.1:Value)) hF) (ai (congrArg (fun r:LabNet × Int × Int=>(.int .i64 r.2.2:Value)) hF) (trivial))))) (condF h1 (condT h2 (rfl)))) (fun h2:(!(pathB n path))=false=>(fun _:path.length ≤ n.Boxes.length=>(fun _:PathOk n path=>ai ((ai ((by omega:PathOk n path)) ((by omega:path.length ≤ 8)))) (ai ((Imps.refl (eLabNet n))) (ai ((Imp.refl (.l 1 eInt path))) (ai (fun h3:(((labsR n path).length:Int) == 0)=true=>(fun _:((labsR n path).length:Int)=0=>(fun hF:(n,0,3)=(F13 n path)=>ai (Imp.of_eq (congrArg (fun r:LabNet × Int × Int=>Dat.l 2 eLabLink r.1.Links) hF)) (ai (Imp.of_eq (congrArg (fun r:LabNet × Int × Int=>Dat.l 2 eLabBox r.1.Boxes) hF)) (ai (congrArg (fun r:LabNet × Int × Int=>(.int .i64 r.2.1:Value)) hF) (ai (congrArg (fun r:LabNet × Int × Int=>(.int .i64 r.2.2:Value)) hF) (trivial))))) (condF h1 (condF h2 (condT h3 (rfl))))) (eq_of_beq h3)) (fun h3:(((labsR n path).length:Int) == 0)=false=>(fun _:¬ ((labsR n path).length:Int)=0=>ai ((ai ((by first | exact LayP.of_labs (by assumption) (by assumption) (by assumption) | exact (LayP.of_labs (by assumption) (by assumption) (by assumption)).len:LayP n path (labsR n path))) ((by first | exact LayP.of_labs (by assumption) (by assumption) (by assumption) | exact (LayP.of_labs (by assumption) (by assumption) (by assumption)).len:(labsR n path).length=path.length)))) (ai ((Imps.refl (eLabNet n))) (ai ((Imp.refl (.l 1 eInt path))) (ai ((Imp.refl (.l 1 eInt (labsR n path)))) (ai ((ai ((by first | omega | (intro k; have := NetOk.rows (by assumption:NetOk n) k; have := NetOk.vias (by assumption:NetOk n) k; omega) | (have hq := LayP.bound (LayP.of_labs (by assumption) (by assumption) (by assumption)); first | exact hq.1 | exact fun k=>(hq.2 k).1 | exact fun k=>(hq.2 k).2):n.Links.length ≤ 1000000000)) (ai ((by first | omega | (intro k; have := NetOk.rows (by assumption:NetOk n) k; have := NetOk.vias (by assumption:NetOk n) k; omega) | (have hq := LayP.bound (LayP.of_labs (by assumption) (by assumption) (by assumption)); first | exact hq.1 | exact fun k=>(hq.2 k).1 | exact fun k=>(hq.2 k).2):(layTo n path (labsR n path) path.length).length ≤ 1000000000)) (ai ((by first | omega | (intro k; have := NetOk.rows (by assumption:NetOk n) k; have := NetOk.vias (by assumption:NetOk n) k; omega) | (have hq := LayP.bound (LayP.of_labs (by assumption) (by assumption) (by assumption)); first | exact hq.1 | exact fun k=>(hq.2 k).1 | exact fun k=>(hq.2 k).2):∀ k:Nat,((layTo n path (labsR n path) path.length).getD k default).Rows.length ≤ 1000000000)) ((by first | omega | (intro k; have := NetOk.rows (by assumption:NetOk n) k; have := NetOk.vias (by assumption:NetOk n) k; omega) | (have hq := LayP.bound (LayP.of_labs (by assumption) (by assumption) (by assumption)); first | exact hq.1 | exact fun k=>(hq.2 k).1 | exact fun k=>(hq.2 k).2):∀ k:Nat,((layTo n path (labsR n path) path.length).getD k default).Guards.length ≤ 1000000000)))))) (ai ((Imps.refl (eLabNet (⟨n.Links,layTo n path (labsR n path) path.length⟩:LabNet)))) (ai ((by omega:0 ≤ (0:Int)∧(0:Int) < ((labsR n path).length:Int))) ((fun hF:((⟨n.Links,layTo n path (labsR n path) path.length⟩:LabNet),((labsR n path).getD (Int.toNat 0) default),0)=(F13 n path)=>ai (Imp.of_eq (congrArg (fun r:LabNet × Int × Int=>Dat.l 2 eLabLink r.1.Links) hF)) (ai (Imp.of_eq (congrArg (fun r:LabNet × Int × Int=>Dat.l 2 eLabBox r.1.Boxes) hF)) (ai (congrArg (fun r:LabNet × Int × Int=>(.int .i64 r.2.1:Value)) hF) (ai (congrArg (fun r:LabNet × Int × Int=>(.int .i64 r.2.2:Value)) hF) (trivial))))) (condF h1 (condF h2 (condF h3 (rfl)))))))))))) (beqF h3)))))) (pathB_T n path (notEF h2))) (pathB_len n path (notEF h2))))))))) (netB_T n (notEF h1))) (netB_8 n (notEF h1))) (netB_14 n (notEF h1)))))) (by kernel_rfl)
end Go.Proofs.YtmiolofjlfnohaaGreat
namespace Go.Proofs.YtmiolofjlfnohaaGreat
open Go.RowKit
set_option maxRecDepth 100000
set_option linter.unusedVariables false
set_option linter.unusedSimpArgs false
def labLay (n : LabNet) (path : List Int) : LabNet × Int × Int := bif netB n then ((layR n path).2.2, (layR n path).1, (layR n path).2.1) else (⟨[], []⟩, 0, 1)
theorem as11 (n : LabNet) (path : List Int) : F11 n path = labLay n path := by
 unfold F11 labLay
 cases netB n <;> rfl
theorem as13 (n : LabNet) (path : List Int) : F13 n path = labLay n path := by
 unfold F13 labLay layR
 cases hb : netB n
 ·rfl
 simp only [Bool.not_true, cond_false, cond_true]
 cases hp : pathB n path
 ·rfl
 simp only [Bool.not_true, cond_false, cond_true]
 unfold labsR
 cases hl : labsB n path
 ·rfl
 have h2 := (pathB_ok.1 hp).two
 have : (labsOf n path).length = path.length := List.length_map _
 simp only [cond_true]
 rw [beqD, decide_eq_false (show ¬ ((labsOf n path).length : Int) = 0 from by omega)]
 rfl
end Go.Proofs.YtmiolofjlfnohaaGreat
namespace Go.Proofs.YtmiolofjlfnohaaGreat
open Go.RowKit
set_option maxRecDepth 100000
set_option linter.unusedVariables false
set_option linter.unusedSimpArgs false
theorem oa11 (n:LabNet) (path:List Int):(S11 (labLay n path) n path).ok Tryz.prog 11 := by
 intro hp; have h := ok11 n path hp; rw [as11 n path] at h; exact h
theorem oa13 (n:LabNet) (path:List Int):(S13 (labLay n path) n path).ok Tryz.prog 13 := by
 intro hp; have h := ok13 n path hp; rw [as13 n path] at h; exact h
def F65 (x9:LabVia) (y1:LabVia):Int :=
 (IntKind.i64.wrap (x9.To - y1.To))
def S65 (x9:LabVia) (y1:LabVia):Spec := ⟨[.r (.g (eLabVia x9)),.r (.g (eLabVia y1))],.v (vI (F65 x9 y1)),True⟩
theorem ok65 (x9:LabVia) (y1:LabVia):(S65 x9 y1).ok Tryz.prog 65 :=
 fnG_ok mixed (fn := Tryz.f65) (ct := .seq (.no) (.seq (.no) (.no))) Tryz.func65 (fun (_:True)=>(fun hF:((IntKind.i64.wrap (x9.To - y1.To)):Int)=(F65 x9 y1)=>ai (congrArg (fun r:Int=>(.int .i64 r:Value)) hF) (trivial)) (rfl)) (by kernel_rfl)
def F47_s0 (list:List LabVia) (v1:LabVia):Int → Lp Int (List LabVia) := fun k400 =>
 bif (bif decide (k400 < (list.length:Int)) then decide ((list.getD k400.toNat default).To < v1.To) else false) then (.next (k400 + 1)) else (.done k400)
def F47_j0 (list:List LabVia) (v1:LabVia):Lp Int (List LabVia) :=
 (runL (F47_s0 list v1) (((list.length:Int) - 0).toNat + 1) 0).fin Lp.ret (fun k400=>.done k400)
def F47 (list:List LabVia) (v1:LabVia):List LabVia :=
 (F47_j0 list v1).fin (fun r=>r) (fun k=>(((([]:List LabVia) ++ (list.take k.toNat)) ++ [v1]) ++ (list.drop k.toNat)))
def S47 (R:List LabVia) (list:List LabVia) (v1:LabVia):Spec := ⟨[.r (.c (.l 3 eLabVia list)),.r (.g (eLabVia v1))],.ow (.l 3 eLabVia R),list.length ≤ 1000000000⟩
theorem ok47 (list:List LabVia) (v1:LabVia):(S47 (F47 list v1) list v1).ok Tryz.prog 47 :=
 fnG_ok mixed (fn := Tryz.f47) (ct := .seqk [(0,0)] (.no) (.seqk [(0,0)] (.no) (.cut (ι := Int) (fun j=>(fun (k:Int)=>(⟨[(0,some (.h 0 0)),(3,some (.p 1 0)),(5,some (.v (vI k)))],[(0,some (.shr none (.l 3 eLabVia list))),(1,some (.box 51 [.v (vI v1.To),.v (vI v1.Via),.v (vI v1.Push)]))],2⟩:St)) j) (fun j=>(fun (k:Int)=>((F47_j0 list v1)=Lp.done j∧0 ≤ k∧k ≤ (list.length:Int))) j) (.blk (.loop (ι := Nat × Int) (fun i=>(fun (k400:Int)=>(⟨[(0,some (.h 0 0)),(3,some (.p 1 0)),(5,some (.v (vI k400)))],[(0,some (.shr none (.l 3 eLabVia list))),(1,some (.box 51 [.v (vI v1.To),.v (vI v1.Via),.v (vI v1.Push)]))],2⟩:St)) i.2) (fun i=>runL (F47_s0 list v1) i.1 i.2=(runL (F47_s0 list v1) (((list.length:Int) - 0).toNat + 1) 0)∧(fun (k400:Int)=>(Int.toNat ((list.length:Int) - k400) < i.1∧k400 ≤ (list.length:Int)∧(0:Int) ≤ k400)) i.2) (fun i=>i.1) ((((list.length:Int) - 0).toNat + 1),0) (fun i=>(fun (k400:Int)=>(.seq (.seq (.no) (.cond (.no) (.no))) (.blk (.reg [(1,.bnd)])))) i.2))) (fun j=>(fun (k:Int)=>(.seq (.reg [(0,.dat (.l 3 eLabVia ([]:List LabVia))),(4,.dat (.l 3 eLabVia (([]:List LabVia) ++ (list.take k.toNat)))),(7,.dat (.l 3 eLabVia ((([]:List LabVia) ++ (list.take k.toNat)) ++ [v1]))),(11,.dat (.l 3 eLabVia (((([]:List LabVia) ++ (list.take k.toNat)) ++ [v1]) ++ (list.drop k.toNat))))]) (.no))) j)))) Tryz.func47 (fun (hpre0:list.length ≤ 1000000000)=>fun (_:list.length ≤ 9223372036854775807)=>fun (_:list.length ≤ 9223372036854775807)=>ai (ai (ai (rfl) (ai ((Imp.refl _)) (ai (rfl) (ai (rfl) (ai (rfl) ((ai (rfl:runL (F47_s0 list v1) (((list.length:Int) - 0).toNat + 1) 0=(runL (F47_s0 list v1) (((list.length:Int) - 0).toNat + 1) 0)) (ai ((Nat.lt_succ_self _:Int.toNat ((list.length:Int) - 0) < (((list.length:Int) - 0).toNat + 1))) (ai ((by first | omega | (simp only [lens] at * <;> omega):0 ≤ (list.length:Int))) ((by first | omega | (simp only [lens] at * <;> omega):(0:Int) ≤ 0)))))))))):((.int .i64 0:Value)=.int .i64 0)∧(Imp (.l 3 eLabVia list) (.l 3 eLabVia list))∧((.int .i64 v1.To:Value)=.int .i64 v1.To)∧((.int .i64 v1.Via:Value)=.int .i64 v1.Via)∧((.int .i64 v1.Push:Value)=.int .i64 v1.Push)∧(runL (F47_s0 list v1) (((list.length:Int) - 0).toNat + 1) 0=(runL (F47_s0 list v1) (((list.length:Int) - 0).toNat + 1) 0)∧Int.toNat ((list.length:Int) - 0) < (((list.length:Int) - 0).toNat + 1)∧0 ≤ (list.length:Int)∧(0:Int) ≤ 0)) (fun (i0:Nat × Int) (hi0:runL (F47_s0 list v1) i0.1 i0.2=(runL (F47_s0 list v1) (((list.length:Int) - 0).toNat + 1) 0)∧(fun (k400:Int)=>(Int.toNat ((list.length:Int) - k400) < i0.1∧k400 ≤ (list.length:Int)∧(0:Int) ≤ k400)) i0.2)=>(fun (m0:Nat) (k400:Int) (hI0:runL (F47_s0 list v1) (m0 + 1) k400=(runL (F47_s0 list v1) (((list.length:Int) - 0).toNat + 1) 0)) (_:Int.toNat ((list.length:Int) - k400) < m0 + 1) (hl0:m0 < i0.1) (_:k400 ≤ (list.length:Int)) (_:(0:Int) ≤ k400)=>ai ((fun k2:(decide (k400 < (list.length:Int)))=true=>(fun _:k400 < (list.length:Int)=>(by first | omega | (simp only [lens] at * <;> omega):0 ≤ k400∧k400 < (list.length:Int))) (of_decide_eq_true k2))) (ai (fun h3:(bif decide (k400 < (list.length:Int)) then decide ((list.getD k400.toNat default).To < v1.To) else false)=true=>(fun _:(list.getD k400.toNat default).To < v1.To=>(fun _:k400 < (list.length:Int)=>ai ((by unfold i64ok; first | omega | (simp only [lens] at * <;> omega):i64ok (k400 + 1))) (Exists.intro (p := fun j:Nat × Int=>(fun (k400_:Int)=>(((.int .i64 (k400 + 1):Value)=.int .i64 k400_)∧(Imp (.l 3 eLabVia list) (.l 3 eLabVia list))∧((.int .i64 v1.To:Value)=.int .i64 v1.To)∧((.int .i64 v1.Via:Value)=.int .i64 v1.Via)∧((.int .i64 v1.Push:Value)=.int .i64 v1.Push)∧((runL (F47_s0 list v1) j.1 j.2=(runL (F47_s0 list v1) (((list.length:Int) - 0).toNat + 1) 0)∧Int.toNat ((list.length:Int) - k400_) < j.1∧k400_ ≤ (list.length:Int)∧(0:Int) ≤ k400_)∧j.1 < i0.1))) j.2) (m0,(k400 + 1)) (ai (rfl) (ai ((Imp.refl _)) (ai (rfl) (ai (rfl) (ai (rfl) (ai (ai (runL_next hI0 (condT h3 (rfl))) (ai ((by first | omega | (simp only [lens] at * <;> omega):Int.toNat ((list.length:Int) - (k400 + 1)) < m0)) (ai ((by first | omega | (simp only [lens] at * <;> omega):(k400 + 1) ≤ (list.length:Int))) ((by first | omega | (simp only [lens] at * <;> omega):(0:Int) ≤ (k400 + 1)))))) hl0)))))))) (of_decide_eq_true (andT1 h3))) (of_decide_eq_true (andT2 h3))) (fun h3:(bif decide (k400 < (list.length:Int)) then decide ((list.getD k400.toNat default).To < v1.To) else false)=false=>(fun hD0_4:(runL (F47_s0 list v1) (((list.length:Int) - 0).toNat + 1) 0)=Lp.done k400=>Exists.intro (p := fun j:Int=>(fun (k_:Int)=>(((.int .i64 k400:Value)=.int .i64 k_)∧(Imp (.l 3 eLabVia list) (.l 3 eLabVia list))∧((.int .i64 v1.To:Value)=.int .i64 v1.To)∧((.int .i64 v1.Via:Value)=.int .i64 v1.Via)∧((.int .i64 v1.Push:Value)=.int .i64 v1.Push)∧(F47_j0 list v1)=Lp.done j∧0 ≤ k_∧k_ ≤ (list.length:Int))) j) (k400) (ai (rfl) (ai ((Imp.refl _)) (ai (rfl) (ai (rfl) (ai (rfl) (ai (Eq.symm (finD hD0_4 (rfl))) (ai ((by first | omega | (simp only [lens] at * <;> omega):0 ≤ k400)) ((by first | omega | (simp only [lens] at * <;> omega):k400 ≤ (list.length:Int))))))))))) (runL_done hI0 (condF h3 (rfl)))))) (i0.1 - 1) i0.2 (hd1 hi0.1 hi0.2.1) (hd2 hi0.2.1) (hd3 hi0.2.1) hi0.2.2.1 hi0.2.2.2)) (fun (j:Int) (hj:(fun (k:Int)=>((F47_j0 list v1)=Lp.done j∧0 ≤ k∧k ≤ (list.length:Int))) j)=>(fun (k:Int) (hJ0_5:(F47_j0 list v1)=Lp.done k) (_:0 ≤ k) (_:k ≤ (list.length:Int))=>ai ((BuildOK.mk eLabVia ([]:List LabVia) rfl (by exact trivial) (fun _=>rfl):BuildOK 0 3 [] (.l 3 eLabVia ([]:List LabVia)))) (ai ((by first | omega | (simp only [lens] at * <;> omega):0 ≤ (0:Int)∧(0:Int) ≤ k∧k ≤ (list.length:Int))) (ai ((AppL.mk eLabVia ([]:List LabVia) (list.take k.toNat) (Imp.refl (.l 3 eLabVia ([]:List LabVia))) (Imp.refl _) (fun y=>⟨rfl,fun e he=>by simp only [eLabVia,List.mem_cons,List.not_mem_nil,or_false] at he; rcases he with rfl | rfl | rfl <;> exact ⟨_,rfl⟩⟩):AppL (.l 3 eLabVia ([]:List LabVia)) (.l 3 eLabVia (list.take k.toNat)) 3 (.l 3 eLabVia (([]:List LabVia) ++ (list.take k.toNat))))) (ai ((by (try simp only [lens]); omega:((([]:List LabVia) ++ (list.take k.toNat))).length * 24 ≤ 140737488355328)) (ai ((AppA.mk eLabVia (([]:List LabVia) ++ (list.take k.toNat)) [v1] (Imp.refl (.l 3 eLabVia (([]:List LabVia) ++ (list.take k.toNat)))) rfl (by exact ai (Imp.refl _) (ai (Imp.refl _) (ai (Imp.refl _) (trivial)))) (fun _=>rfl):AppA (.l 3 eLabVia (([]:List LabVia) ++ (list.take k.toNat))) 1 3 [.v (vI v1.To),.v (vI v1.Via),.v (vI v1.Push)] (.l 3 eLabVia ((([]:List LabVia) ++ (list.take k.toNat)) ++ [v1])))) (ai ((by (try simp only [lens]); omega:(((([]:List LabVia) ++ (list.take k.toNat)) ++ [v1])).length * 24 ≤ 140737488355328)) (ai ((by first | omega | (simp only [lens] at * <;> omega):0 ≤ k∧k ≤ (list.length:Int)∧(list.length:Int) ≤ (list.length:Int))) (ai ((AppL.mk eLabVia ((([]:List LabVia) ++ (list.take k.toNat)) ++ [v1]) (list.drop k.toNat) (Imp.refl (.l 3 eLabVia ((([]:List LabVia) ++ (list.take k.toNat)) ++ [v1]))) (Imp.refl _) (fun y=>⟨rfl,fun e he=>by simp only [eLabVia,List.mem_cons,List.not_mem_nil,or_false] at he; rcases he with rfl | rfl | rfl <;> exact ⟨_,rfl⟩⟩):AppL (.l 3 eLabVia ((([]:List LabVia) ++ (list.take k.toNat)) ++ [v1])) (.l 3 eLabVia (list.drop k.toNat)) 3 (.l 3 eLabVia (((([]:List LabVia) ++ (list.take k.toNat)) ++ [v1]) ++ (list.drop k.toNat))))) (ai ((by (try simp only [lens]); omega:((((([]:List LabVia) ++ (list.take k.toNat)) ++ [v1]) ++ (list.drop k.toNat))).length * 24 ≤ 140737488355328)) ((fun hF:((((([]:List LabVia) ++ (list.take k.toNat)) ++ [v1]) ++ (list.drop k.toNat)):List LabVia)=(F47 list v1)=>ai (Imp.of_eq (congrArg (fun r:List LabVia=>Dat.l 3 eLabVia r) hF)) (trivial)) (finD hJ0_5 (rfl)))))))))))) j hj.1 hj.2.1 hj.2.2)) (by kernel_rfl)
end Go.Proofs.YtmiolofjlfnohaaGreat
