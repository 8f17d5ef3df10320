/- Plain laws: a table behind a change. -/
import Derived.Test.YtjcgnlpimefhpaaVH1
namespace Go.Proofs.Ytjcgnlpimefhpaa
open Go.RowKit
set_option maxRecDepth 100000
set_option linter.unusedVariables false
set_option linter.unusedSimpArgs false
theorem change_in (c : HelloChange) (h : F142 c = true) : EIn c.Entry := by
  unfold F142 at h
  have hz : ((c.Entry.Addr == 0) && ((c.Entry.Len == 0) && ((c.Entry.Cost == 0) && (c.Entry.Label == 0)))) = true → EIn c.Entry := fun h => by
    simp only [Bool.and_eq_true, beq_iff_eq] at h
    unfold EIn; omega
  have hg : (bif (bif (F202 c.Entry) then (c.Entry.Cost == 0) else false) then (c.Entry.Label == 0) else false) = true → EIn c.Entry := fun h => by
    simp only [Bool.cond_false_right, Bool.and_eq_true] at h
    exact prefix_in h.1.1
  cases h0 : (c.Kind == 0) with
  | true => rw [h0] at h; exact hz h
  | false =>
    rw [h0] at h
    cases h3 : (c.Kind == 3) with
    | true => rw [h3] at h; exact hz h
    | false =>
      rw [h3] at h
      cases h1 : (c.Kind == 1) with
      | true => rw [h1] at h; exact entry_in h
      | false =>
        rw [h1] at h
        cases h2 : (c.Kind == 2) with
        | true => rw [h2] at h; exact hg h
        | false => rw [h2] at h; cases h
theorem change_inI (c : HelloChange) (h : F141 c = true) : EIn c.Entry := change_in c (changeOk_eq c ▸ h)
theorem same_iff {x y : HelloEntry} : sameP x y = true ↔ x.Addr = y.Addr ∧ x.Len = y.Len := by
  unfold sameP
  simp only [Bool.cond_false_right, Bool.and_eq_true, beq_iff_eq]
theorem less_same {x y : HelloEntry} (h : F138 x y = true) : sameP x y = false := by
  cases e : sameP x y with
  | false => rfl
  | true =>
    have := same_iff.1 e
    unfold F138 at h
    simp only [Bool.cond_true_left, Bool.cond_false_right, Bool.or_eq_true, Bool.and_eq_true, decide_eq_true_eq, beq_iff_eq] at h
    omega
theorem same_less {x y z : HelloEntry} (h : sameP y z = true) : F138 x y = F138 x z := by
  obtain ⟨h1, h2⟩ := same_iff.1 h
  unfold F138
  rw [h1, h2]
theorem putK_eq (t : List HelloEntry) (e : HelloEntry) : F195_j0 t e = .done ((posE t e : Nat) : Int) := by
  have hle := posE_le t e
  have hr := runL_rule (step := F195_s0 t e) (fun (k : Nat) (_ : Unit) => ((k : Nat) : Int)) (posE t e) (fun _ _ => True) (fun _ => False)
    (fun k _ hk _ => .inl ⟨(), by
      simp only [F195_s0, ltD (show k < t.length by omega), cond_true, nn, posE_below hk]; rfl, trivial⟩)
    (fun _ _ => by
      simp only [F195_s0, nn]
      rcases Nat.lt_or_ge (posE t e) t.length with h | h
      · rw [ltD h, cond_true, posE_at h]; rfl
      · rw [decide_eq_false (by omega)]; rfl)
    (posE t e) 0 () (by omega) trivial (Int.toNat ((t.length : Int) - 0) + 1) (by omega)
  rcases hr with ⟨_, hr, _⟩ | ⟨_, _, hr⟩
  · have hr' : runL (F195_s0 t e) (Int.toNat ((t.length : Int) - 0) + 1) 0 = _ := hr
    unfold F195_j0
    rw [hr']; rfl
  · exact hr.elim
theorem put_eq (t : List HelloEntry) (e : HelloEntry) : F195 t e = bif fndE t e then t.set (posE t e) e else t.take (posE t e) ++ [e] ++ t.drop (posE t e) := by
  unfold F195
  rw [putK_eq]
  simp only [Lp.fin, nn]
  have e1 : decide (((posE t e : Nat) : Int) < (t.length : Int)) = decide (posE t e < t.length) := by rw [decide_eq_decide]; omega
  rw [e1]
  unfold fndE sameP
  cases decide (posE t e < t.length)
  · rfl
  · cases ((t.getD (posE t e) default).Addr == e.Addr) <;> rfl
theorem at_pos {t : List HelloEntry} {e : HelloEntry} (ht : TblOk t) : F213 t e = bif fndE t e then ((posE t e : Nat) : Int) else -1 := by
  rw [at_eq]
  cases h : fndE t e with
  | true =>
    have hl := fndE_lt h
    have hs : sameP (t.getD (posE t e) default) e = true := by
      unfold fndE at h
      simp only [Bool.cond_false_right, Bool.and_eq_true] at h
      exact h.2
    have : first (fun k => sameP (t.getD k default) e) t.length = some (posE t e) := first_some.2 ⟨hl, hs, fun j hj => less_same (posE_below hj)⟩
    rw [this]; rfl
  | false =>
    have : first (fun k => sameP (t.getD k default) e) t.length = none := first_none.2 fun k hk => by
      rcases Nat.lt_trichotomy k (posE t e) with h1 | h1 | h1
      · exact less_same (posE_below h1)
      · unfold fndE at h
        rw [← h1, decide_eq_true hk, cond_true] at h
        exact h
      · cases hs : sameP (t.getD k default) e with
        | false => rfl
        | true =>
          have a := ht.lt (k - posE t e - 1) (posE t e) (by omega)
          have e3 : posE t e + (k - posE t e - 1) + 1 = k := by omega
          rw [e3, same_less hs, posE_at (by omega)] at a
          cases a
    rw [this]; rfl
theorem as172 (table : List HelloEntry) (c : HelloChange) (h1 : TblOk table) (h2 : EIn c.Entry) : F172 table c = F170 table c := by
  have ep : posE table (atP (F136 c.Entry)) = posE table c.Entry := rfl
  have ef : fndE table (atP (F136 c.Entry)) = fndE table c.Entry := rfl
  unfold F172 F170 F205 F207 F208
  rw [ep, ef, put_eq, at_pos h1]
  cases h3 : (c.Kind == 1) with
  | true =>
    cases fndE table c.Entry
    · simp only [cond_true, cond_false, nn]
    · simp only [cond_true, nn]
  | false =>
    cases h4 : (c.Kind == 2) with
    | false => rfl
    | true =>
      cases fndE table c.Entry
      · rfl
      · simp only [cond_true, cond_false, nn]
        rw [decide_eq_false (by omega)]; rfl

end Go.Proofs.Ytjcgnlpimefhpaa
