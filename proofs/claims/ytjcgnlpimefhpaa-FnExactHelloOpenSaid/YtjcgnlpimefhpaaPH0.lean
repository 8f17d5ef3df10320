/- Plain laws: tables in order, keys, changes; where an entry stands. -/
import Derived.Test.YtjcgnlpimefhpaaVH0
namespace Go.Proofs.Ytjcgnlpimefhpaa
open Go.RowKit
set_option maxRecDepth 100000
set_option linter.unusedVariables false
set_option linter.unusedSimpArgs false
theorem first_congr' {p q : Nat → Bool} {n : Nat} (h : ∀ k, k < n → (∀ j, j < k → q j = false) → p k = q k) : first p n = first q n := by
  cases e : first q n with
  | none =>
    rw [first_none] at *
    exact fun k hk => (h k hk fun j hj => e j (by omega)).trans (e k hk)
  | some k =>
    rw [first_some] at *
    obtain ⟨h1, h2, h3⟩ := e
    exact ⟨h1, (h k h1 h3).trans h2, fun j hj => (h j (by omega) fun i hi => h3 i (by omega)).trans (h3 j hj)⟩
theorem entryOk_eq (e : HelloEntry) : F134 e = F137 e := rfl
theorem changeOk_eq (c : HelloChange) : F141 c = F142 c := rfl
/-- keys -/
def badKey (keys : List HelloKey) (k : Nat) : Bool :=
  bif (bif (!(decide (1 ≤ (keys.getD k default).Id ∧ (keys.getD k default).Id ≤ 9))) then true else (!(decide (1 ≤ (keys.getD k default).Secret ∧ (keys.getD k default).Secret ≤ 2147483646)))) then true else (bif decide (0 < k) then decide ((keys.getD (k - 1) default).Id ≥ (keys.getD k default).Id) else false)
theorem keysOkS_eq (keys : List HelloKey) : F61 keys = (decide (1 ≤ (keys.length : Int) ∧ (keys.length : Int) ≤ 3) && (first (badKey keys) keys.length).isNone) := by
  unfold F61
  rw [allB (badKey keys) keys.length _ (fun k hk => by simp only [F61_s0, ltD hk, cond_true, nn, toNat_pred, pos_cast]; rfl) (by simp [F61_s0])]
  cases decide (1 ≤ (keys.length : Int) ∧ (keys.length : Int) ≤ 3)
  · rfl
  · simp
theorem keysOk_eq (keys : List HelloKey) : F60 keys = F61 keys := by
  rw [keysOkS_eq]
  unfold F60
  rw [allB (badKey keys) keys.length _ (fun k hk => by simp only [F60_s0, ltD hk, cond_true, nn, toNat_pred, pos_cast]; rfl) (by simp [F60_s0])]
  exact Bool.and_comm _ _
theorem keysOkS_T (keys : List HelloKey) (h : F61 keys = true) : 1 ≤ keys.length ∧ keys.length ≤ 3 := by
  rw [keysOkS_eq] at h
  simp only [Bool.and_eq_true, decide_eq_true_eq] at h
  omega
theorem keysOk_T (keys : List HelloKey) (h : F60 keys = true) : 1 ≤ keys.length ∧ keys.length ≤ 3 := keysOkS_T keys (keysOk_eq keys ▸ h)

/-! ### Tables -/

/-- the prefix of an entry is in its bounds -/
def EIn (e : HelloEntry) : Prop := 0 ≤ e.Addr ∧ e.Addr ≤ 65535 ∧ 0 ≤ e.Len ∧ e.Len ≤ 16
theorem prefix_in {e : HelloEntry} (h : F202 e = true) : EIn e := by
  unfold F202 at h
  unfold EIn
  simp only [Bool.cond_false_right, Bool.and_eq_true, decide_eq_true_eq] at h
  omega
theorem entry_in {e : HelloEntry} (h : F137 e = true) : EIn e := by
  unfold F137 at h
  simp only [Bool.cond_false_right, Bool.and_eq_true] at h
  exact prefix_in h.1.1
theorem cmp_lt {x y : HelloEntry} (hx : EIn x) (hy : EIn y) : decide (F135 (F136 x) (F136 y) < 0) = F138 x y := by
  unfold EIn at hx hy
  unfold F135 F136 F138
  by_cases h : x.Addr = y.Addr
  · simp only [h, bne_self_eq_false, cond_false]
    rw [wrap_of (by omega) (by omega)]
    simp only [Int.lt_irrefl, decide_false, cond_false, beq_self_eq_true, cond_true]
    rw [decide_eq_decide]; omega
  · have h1 : (x.Addr != y.Addr) = true := by simpa using h
    have h2 : (x.Addr == y.Addr) = false := by simpa using h
    simp only [h1, h2, cond_true, cond_false]
    rw [wrap_of (by omega) (by omega)]
    have e : decide (x.Addr - y.Addr < 0) = decide (x.Addr < y.Addr) := by rw [decide_eq_decide]; omega
    rw [e]
    cases decide (x.Addr < y.Addr) <;> rfl
theorem cmp_ge {x y : HelloEntry} (hx : EIn x) (hy : EIn y) : decide (F135 (F136 x) (F136 y) ≥ 0) = !(F138 x y) := by
  rw [← cmp_lt hx hy, ← decide_not, decide_eq_decide]; omega
/-- the same prefix -/
def sameP (x y : HelloEntry) : Bool := bif (x.Addr == y.Addr) then (x.Len == y.Len) else false
theorem cmp_eq {x y : HelloEntry} (hx : EIn x) (hy : EIn y) : (F135 (F136 x) (F136 y) == 0) = sameP x y := by
  unfold EIn at hx hy
  unfold F135 F136 sameP
  by_cases h : x.Addr = y.Addr
  · simp only [h, bne_self_eq_false, cond_false, beq_self_eq_true, cond_true]
    rw [wrap_of (by omega) (by omega), beqD, beqD, decide_eq_decide]; omega
  · have h1 : (x.Addr != y.Addr) = true := by simpa using h
    have h2 : (x.Addr == y.Addr) = false := by simpa using h
    simp only [h1, h2, cond_true, cond_false]
    rw [wrap_of (by omega) (by omega), beqD, decide_eq_false_iff_not]; omega
/-- an entry is out of order -/
def badE (t : List HelloEntry) (k : Nat) : Bool :=
  bif !(F137 (t.getD k default)) then true else bif decide (0 < k) then !(F138 (t.getD (k - 1) default) (t.getD k default)) else false
theorem badE_ok {t : List HelloEntry} {k : Nat} (h : badE t k = false) : F137 (t.getD k default) = true := by
  unfold badE at h
  cases e : F137 (t.getD k default) with
  | true => rfl
  | false => rw [e] at h; cases h
theorem tableOkS_eq (t : List HelloEntry) : F59 t = (decide ((t.length : Int) ≤ 8) && (first (badE t) t.length).isNone) := by
  unfold F59
  rw [allB (badE t) t.length _ (fun k hk => by simp only [F59_s0, ltD hk, cond_true, nn, toNat_pred, pos_cast]; rfl) (by simp [F59_s0])]
  by_cases h : (t.length : Int) > 8
  · rw [decide_eq_true h, decide_eq_false (by omega)]; rfl
  · rw [decide_eq_false h, decide_eq_true (by omega)]; simp
theorem tableOk_eq (t : List HelloEntry) : F58 t = F59 t := by
  rw [tableOkS_eq]
  unfold F58
  rw [allB (fun k => bif !(F134 (t.getD k default)) then true else bif decide (0 < k) then decide (F135 (F136 (t.getD (k - 1) default)) (F136 (t.getD k default)) ≥ 0) else false) t.length _ (fun k hk => by simp only [F58_s0, ltD hk, cond_true, nn, toNat_pred, pos_cast]) (by simp [F58_s0])]
  rw [first_congr' (q := badE t) fun k hk hb => by
    unfold badE
    rw [entryOk_eq]
    cases e : F137 (t.getD k default) with
    | false => rfl
    | true =>
      cases k with
      | zero => rfl
      | succ k =>
        have h1 := entry_in (badE_ok (hb k (by omega)))
        simp only [Nat.add_sub_cancel]
        rw [cmp_ge h1 (entry_in e)]]
  exact Bool.and_comm _ _
/-- a table in order -/
structure TblOk (t : List HelloEntry) : Prop where
  len : t.length ≤ 8
  ok : ∀ k, k < t.length → F137 (t.getD k default) = true
  inc : ∀ k, k + 1 < t.length → F138 (t.getD k default) (t.getD (k + 1) default) = true
theorem tableOkS_T (t : List HelloEntry) (h : F59 t = true) : TblOk t := by
  rw [tableOkS_eq] at h
  simp only [Bool.and_eq_true, decide_eq_true_eq, allB_iff] at h
  refine ⟨by omega, fun k hk => badE_ok (h.2 k hk), fun k hk => ?_⟩
  have h1 := h.2 (k + 1) hk
  unfold badE at h1
  rw [badE_ok (h.2 (k + 1) hk)] at h1
  simpa using h1
theorem tableOk_T (t : List HelloEntry) (h : F58 t = true) : TblOk t := tableOkS_T t (tableOk_eq t ▸ h)
theorem tableOkS_len (t : List HelloEntry) (h : F59 t = true) : t.length ≤ 8 := (tableOkS_T t h).len
theorem tableOk_len (t : List HelloEntry) (h : F58 t = true) : t.length ≤ 8 := (tableOk_T t h).len

/-! ### Where an entry stands -/

theorem less_trans {x y z : HelloEntry} (h1 : F138 x y = true) (h2 : F138 y z = true) : F138 x z = true := by
  unfold F138 at *
  simp only [Bool.cond_true_left, Bool.cond_false_right, Bool.or_eq_true, Bool.and_eq_true, decide_eq_true_eq, beq_iff_eq] at *
  omega
theorem less_irr (x : HelloEntry) : F138 x x = false := by
  unfold F138
  simp
theorem TblOk.lt {t : List HelloEntry} (h : TblOk t) : ∀ (d j : Nat), j + d + 1 < t.length → F138 (t.getD j default) (t.getD (j + d + 1) default) = true
  | 0, j, hj => h.inc j hj
  | d + 1, j, hj => less_trans (TblOk.lt h d j (by omega)) (h.inc (j + d + 1) hj)
theorem TblOk.eIn {t : List HelloEntry} (h : TblOk t) {k : Nat} (hk : k < t.length) : EIn (t.getD k default) := entry_in (h.ok k hk)
/-- the place of an entry, or where it would stand -/
def posE (t : List HelloEntry) (e : HelloEntry) : Nat := (first (fun k => !(F138 (t.getD k default) e)) t.length).getD t.length
theorem posE_le (t : List HelloEntry) (e : HelloEntry) : posE t e ≤ t.length := by
  unfold posE
  cases h : first (fun k => !(F138 (t.getD k default) e)) t.length with
  | none => exact Nat.le_refl _
  | some k => exact Nat.le_of_lt (first_some.1 h).1
theorem posE_below {t : List HelloEntry} {e : HelloEntry} {k : Nat} (hk : k < posE t e) : F138 (t.getD k default) e = true := by
  unfold posE at hk
  cases h : first (fun k => !(F138 (t.getD k default) e)) t.length with
  | none => rw [h] at hk; simpa using first_none.1 h k hk
  | some j => rw [h] at hk; simpa using (first_some.1 h).2.2 k hk
theorem posE_at {t : List HelloEntry} {e : HelloEntry} (hk : posE t e < t.length) : F138 (t.getD (posE t e) default) e = false := by
  unfold posE at hk ⊢
  cases h : first (fun k => !(F138 (t.getD k default) e)) t.length with
  | none => rw [h] at hk; exact absurd hk (Nat.lt_irrefl _)
  | some j => simpa using (first_some.1 h).2.1
theorem posE_of {t : List HelloEntry} {e : HelloEntry} {i : Nat} (hi : i ≤ t.length) (h1 : ∀ k, k < i → F138 (t.getD k default) e = true) (h2 : i < t.length → F138 (t.getD i default) e = false) : posE t e = i := by
  rcases Nat.lt_trichotomy (posE t e) i with h | h | h
  · have a := posE_at (t := t) (e := e) (by omega)
    rw [h1 _ h] at a; cases a
  · exact h
  · have a := posE_below h
    have := posE_le t e
    rw [h2 (by omega)] at a; cases a
def fndE (t : List HelloEntry) (e : HelloEntry) : Bool := bif decide (posE t e < t.length) then sameP (t.getD (posE t e) default) e else false
theorem fndE_lt {t : List HelloEntry} {e : HelloEntry} (h : fndE t e = true) : posE t e < t.length := by
  unfold fndE at h
  simp only [Bool.cond_false_right, Bool.and_eq_true, decide_eq_true_eq] at h
  exact h.1
def atP (p : NetPrefix) : HelloEntry := ⟨p.Addr, p.Len, 0, 0⟩
theorem bs_run {t : List HelloEntry} {e : HelloEntry} (ht : TblOk t) (he : EIn e) : ∀ (m i j : Nat), j - i < m → i ≤ j → j ≤ t.length → (∀ k, k < i → F138 (t.getD k default) e = true) → (∀ k, j ≤ k → k < t.length → F138 (t.getD k default) e = false) →
    runL (F224_s0 t (F136 e) (fun x0 x1 => F225 x0 x1)) m ((i : Int), (j : Int)) = .done (((posE t e : Nat) : Int), ((posE t e : Nat) : Int))
  | 0, i, j, hm, _, _, _, _ => absurd hm (Nat.not_lt_zero _)
  | m + 1, i, j, hm, hij, hj, hl, hr => by
    have h8 := ht.len
    simp only [runL, F224_s0]
    by_cases h : i < j
    · rw [decide_eq_true (by omega : (i : Int) < (j : Int)), cond_true, half_eq (i : Int) (j : Int) (by omega) (by omega) (by omega)]
      have e1 : ((i : Int) + (j : Int)) / 2 = (((i + j) / 2 : Nat) : Int) := by omega
      obtain ⟨q, hq⟩ : ∃ q, q = (i + j) / 2 := ⟨_, rfl⟩
      rw [e1, nn, ← hq]
      have hc : decide (F225 (t.getD q default) (F136 e) < 0) = F138 (t.getD q default) e := cmp_lt (ht.eIn (by omega)) he
      rw [hc]
      cases hb : F138 (t.getD q default) e with
      | true =>
        rw [cond_true]
        have e2 : (q : Int) + 1 = ((q + 1 : Nat) : Int) := by omega
        rw [e2]
        refine bs_run ht he m (q + 1) j (by omega) (by omega) hj (fun k hk => ?_) hr
        rcases Nat.lt_or_ge k q with h1 | h1
        · have := ht.lt (q - k - 1) k (by omega)
          have e3 : k + (q - k - 1) + 1 = q := by omega
          rw [e3] at this
          exact less_trans this hb
        · have : k = q := by omega
          rw [this]; exact hb
      | false =>
        rw [cond_false]
        refine bs_run ht he m i q (by omega) (by omega) (by omega) hl fun k hk1 hk2 => ?_
        rcases Nat.lt_or_ge q k with h1 | h1
        · have := ht.lt (k - q - 1) q (by omega)
          have e3 : q + (k - q - 1) + 1 = k := by omega
          rw [e3] at this
          cases h2 : F138 (t.getD k default) e with
          | false => rfl
          | true => rw [less_trans this h2] at hb; cases hb
        · have : k = q := by omega
          rw [this]; exact hb
    · have : i = j := by omega
      subst this
      rw [decide_eq_false (by omega : ¬ (i : Int) < (i : Int)), cond_false]
      rw [posE_of hj hl (fun hi => hr i (Nat.le_refl _) hi)]
theorem find_eq {t : List HelloEntry} {e : HelloEntry} (ht : TblOk t) (he : EIn e) : F206 t (F136 e) = (((posE t e : Nat) : Int), fndE t e) := by
  have h8 := ht.len
  have hr := bs_run ht he (Int.toNat ((t.length : Int) - 0) + 1) 0 t.length (by omega) (by omega) (Nat.le_refl _) (fun k hk => absurd hk (Nat.not_lt_zero _)) (fun k h1 h2 => by omega)
  unfold F206 F224 F224_j0
  have hr' : runL (F224_s0 t (F136 e) (fun x0 x1 => F225 x0 x1)) (Int.toNat ((t.length : Int) - 0) + 1) (0, (t.length : Int)) = _ := hr
  rw [hr']
  simp only [Lp.fin, nn]
  have e1 : decide (((posE t e : Nat) : Int) < (t.length : Int)) = decide (posE t e < t.length) := by rw [decide_eq_decide]; omega
  rw [e1]
  unfold fndE
  by_cases h : posE t e < t.length
  · rw [decide_eq_true h, cond_true, cond_true]
    have hc : (F225 (t.getD (posE t e) default) (F136 e) == 0) = sameP (t.getD (posE t e) default) e := cmp_eq (ht.eIn h) he
    rw [hc]
  · rw [decide_eq_false h]; rfl
theorem as206 (table : List HelloEntry) (p : NetPrefix) (h1 : TblOk table) (h2 : EIn (atP p)) : F206 table p = (((posE table (atP p) : Nat) : Int), fndE table (atP p)) :=
  (congrArg (fun q => F206 table q) (show p = F136 (atP p) from rfl)).trans (find_eq h1 h2)
theorem find_le (table : List HelloEntry) (p : NetPrefix) : ((posE table (atP p) : Nat) : Int) ≤ (table.length : Int) := by
  have := posE_le table (atP p); omega
theorem at_eq (t : List HelloEntry) (e : HelloEntry) : F213 t e = match first (fun k => sameP (t.getD k default) e) t.length with | some k => (k : Int) | none => -1 := by
  unfold F213
  rw [search (fun k => sameP (t.getD k default) e) (fun k => (k : Int)) t.length _ (fun k hk => by simp only [F213_s0, ltD hk, cond_true, nn]; rfl) (by simp [F213_s0])]
  all_goals (cases first (fun k => sameP (t.getD k default) e) t.length <;> rfl)
theorem at_in (t : List HelloEntry) (e : HelloEntry) : -1 ≤ F213 t e ∧ F213 t e < (t.length : Int) := by
  rw [at_eq]
  cases h : first (fun k => sameP (t.getD k default) e) t.length with
  | none => simp only; omega
  | some k => have := (first_some.1 h).1; simp only; omega

end Go.Proofs.Ytjcgnlpimefhpaa
