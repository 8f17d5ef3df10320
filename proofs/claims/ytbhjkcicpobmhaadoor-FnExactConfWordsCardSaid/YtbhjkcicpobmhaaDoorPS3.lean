/- The words of a line, in plain words; both sides the same. -/
import Derived.Test.YtbhjkcicpobmhaaDoorVC2
namespace Go.Proofs.YtbhjkcicpobmhaaDoor
open Go.RowKit
set_option maxRecDepth 100000
set_option linter.unusedVariables false
set_option linter.unusedSimpArgs false
/-- the pieces that are not empty -/
def wordsL (l : List UInt8) : List (List UInt8) := (splitL 32 l).filter fun w => !w.isEmpty
def okB (b : UInt8) : Bool := decide (32 ≤ b.toNat ∧ b.toNat ≤ 126)
def mkB (l : List UInt8) : ByteArray := ⟨l.toArray⟩
theorem mkB_data (l : List UInt8) : (mkB l).data.toList = l := rfl
theorem mkB_self (s : ByteArray) : mkB s.data.toList = s := ba_ext rfl
def fitW (ws : List (List UInt8)) : Bool := decide (ws.length ≤ 8) && ws.all fun w => decide (w.length ≤ 24)
/-- what both give for the bytes of a line without what stands behind # -/
def wordsOf (l : List UInt8) : List ByteArray × Bool := bif l.all okB && fitW (wordsL l) then ((wordsL l).map mkB, true) else ([], false)

/-! ### the reference's loop -/
def intsB (w : List UInt8) : List Int := w.map fun b => (b.toNat : Int)
theorem intsB_len (w : List UInt8) : (intsB w).length = w.length := by simp [intsB]
theorem strOfB_ints (w : List UInt8) : strOfB (intsB w) = mkB w := by
  refine ba_ext ?_
  show ((List.map (fun x => x % 256) (intsB w)).map fun n => UInt8.ofNat n.toNat) = w
  rw [List.map_map, intsB, List.map_map]
  refine (List.map_congr_left (g := id) fun b _ => ?_).trans (List.map_id w)
  have h := b.toNat_lt
  have e : ((b.toNat : Int) % 256).toNat = b.toNat := by omega
  simp only [Function.comp_apply, e, id]
  exact UInt8.ofNat_toNat
def specW : List UInt8 → List ByteArray → List UInt8 → List ByteArray × Bool
  | [], out, w => if w = [] then (out, true) else if out.length + 1 > 8 then ([], false) else (out ++ [mkB w], true)
  | b :: l, out, w => if okB b = false then ([], false) else if b = 32 then (if w = [] then specW l out w else if out.length + 1 > 8 then ([], false) else specW l (out ++ [mkB w]) [])
    else if w.length + 1 > 24 then ([], false) else specW l out (w ++ [b])
theorem splitL_head (c : UInt8) : ∀ (l w : List UInt8), c ∉ w → ∃ p ps, splitL c (w ++ l) = (w ++ p) :: ps
  | [], w, h => ⟨[], [], by rw [List.append_nil, splitL_none h]⟩
  | b :: l, w, h => by
    by_cases hb : b = c
    · subst hb
      exact ⟨[], splitL b l, by rw [splitL_app l h, List.append_nil]⟩
    · obtain ⟨p, ps, e⟩ := splitL_head c l (w ++ [b]) (fun hm => by
        rcases List.mem_append.1 hm with h1 | h1
        · exact h h1
        · exact hb (List.mem_singleton.1 h1).symm)
      exact ⟨b :: p, ps, by rw [← List.singleton_append, ← List.append_assoc, e, List.append_assoc]; rfl⟩
theorem specW_eq : ∀ (l : List UInt8) (out : List ByteArray) (w : List UInt8), (32 : UInt8) ∉ w → w.length ≤ 24 → out.length ≤ 8 →
    specW l out w = bif l.all okB && (decide (out.length + (wordsL (w ++ l)).length ≤ 8) && (wordsL (w ++ l)).all fun x => decide (x.length ≤ 24)) then (out ++ (wordsL (w ++ l)).map mkB, true) else ([], false)
  | [], out, w, hw, h24, h8 => by
    have e : wordsL (w ++ []) = if w = [] then [] else [w] := by
      rw [List.append_nil, wordsL, splitL_none hw]
      cases w <;> rfl
    rw [e, specW]
    by_cases h : w = []
    · rw [if_pos h, if_pos h]
      have e2 : decide (out.length + ([] : List (List UInt8)).length ≤ 8) = true := decide_eq_true (by simpa using h8)
      rw [e2, List.map_nil, List.append_nil]; rfl
    · rw [if_neg h, if_neg h]
      by_cases h1 : out.length + 1 > 8
      · rw [if_pos h1]
        have : decide (out.length + [w].length ≤ 8) = false := decide_eq_false (by simp only [List.length_cons, List.length_nil]; omega)
        rw [this]; rfl
      · rw [if_neg h1]
        have : decide (out.length + [w].length ≤ 8) = true := decide_eq_true (by simp only [List.length_cons, List.length_nil]; omega)
        rw [this, List.all_cons, decide_eq_true h24]; rfl
  | b :: l, out, w, hw, h24, h8 => by
    rw [specW, List.all_cons]
    cases hb : okB b with
    | false => rw [if_pos rfl]; rfl
    | true =>
      rw [if_neg (by simp), Bool.true_and]
      by_cases h32 : b = 32
      · subst h32
        rw [if_pos rfl]
        have e : wordsL (w ++ 32 :: l) = if w = [] then wordsL l else w :: wordsL l := by
          rw [wordsL, splitL_app l hw, List.filter_cons]
          cases w <;> rfl
        rw [e]
        by_cases h : w = []
        · rw [if_pos h, if_pos h, h, specW_eq l out [] (by simp) (by simp) h8, List.nil_append]
        · rw [if_neg h, if_neg h]
          by_cases h1 : out.length + 1 > 8
          · rw [if_pos h1]
            have : decide (out.length + (w :: wordsL l).length ≤ 8) = false := decide_eq_false (by simp only [List.length_cons]; omega)
            rw [this, Bool.false_and, Bool.and_false]; rfl
          · rw [if_neg h1, specW_eq l (out ++ [mkB w]) [] (by simp) (by simp) (by simp only [List.length_append, List.length_cons, List.length_nil]; omega), List.nil_append]
            have e1 : (out ++ [mkB w]).length + (wordsL l).length = out.length + (w :: wordsL l).length := by simp only [List.length_append, List.length_cons, List.length_nil]; omega
            rw [e1, List.all_cons, decide_eq_true h24, Bool.true_and, List.map_cons, List.append_assoc]
            rfl
      · rw [if_neg h32]
        have hw' : (32 : UInt8) ∉ w ++ [b] := fun hm => by
          rcases List.mem_append.1 hm with h1 | h1
          · exact hw h1
          · exact h32 (List.mem_singleton.1 h1).symm
        have e2 : w ++ b :: l = (w ++ [b]) ++ l := by rw [List.append_assoc]; rfl
        by_cases h1 : w.length + 1 > 24
        · rw [if_pos h1]
          obtain ⟨p, ps, e⟩ := splitL_head 32 l (w ++ [b]) hw'
          have e3 : (wordsL (w ++ b :: l)).all (fun x => decide (x.length ≤ 24)) = false := by
            rw [e2, wordsL, e, List.filter_cons]
            have hne : (!((w ++ [b]) ++ p).isEmpty) = true := by cases w <;> rfl
            rw [if_pos hne, List.all_cons, decide_eq_false (by simp only [List.length_append, List.length_cons, List.length_nil]; omega)]
            rfl
          rw [e3, Bool.and_false, Bool.and_false]; rfl
        · rw [if_neg h1, specW_eq l out (w ++ [b]) hw' (by simp only [List.length_append, List.length_cons, List.length_nil]; omega) h8, e2]
theorem runL_n {σ ρ : Type} {step : σ → Lp σ ρ} {s s' : σ} (m : Nat) (h : step s = .next s') : runL step (m + 1) s = runL step m s' := by
  rw [runL, h]
theorem runL_d {σ ρ : Type} {step : σ → Lp σ ρ} {s s' : σ} (m : Nat) (h : step s = .done s') : runL step (m + 1) s = .done s' := by
  rw [runL, h]
theorem runL_r {σ ρ : Type} {step : σ → Lp σ ρ} {s : σ} {r : ρ} (m : Nat) (h : step s = .ret r) : runL step (m + 1) s = .ret r := by
  rw [runL, h]
theorem len_gt0 {w : List UInt8} (hw : ¬ w = []) : decide ((w.length : Int) > 0) = true := by
  cases w with
  | nil => exact absurd rfl hw
  | cons a w => exact decide_eq_true (by simp only [List.length_cons]; omega)
theorem spec_end (line s : ByteArray) (hs : (cut3 line (⟨#[35]⟩ : ByteArray)).1 = s) (out : List ByteArray) (w : List UInt8) : F4_s0 line (out, intsB w, (s.size : Int)) =
    if w = [] then .next (out, intsB [], (s.size : Int) + 1) else if out.length + 1 > 8 then .ret ([], false) else .next (out ++ [mkB w], intsB [], (s.size : Int) + 1) := by
  have h0 : decide ((s.size : Int) ≤ (s.size : Int)) = true := decide_eq_true (by omega)
  have h1 : decide ((s.size : Int) < (s.size : Int)) = false := decide_eq_false (by omega)
  simp only [F4_s0, hs, h0, h1, cond_true, cond_false, strOfB_ints, intsB_len, List.length_append, List.length_cons, List.length_nil]
  by_cases hw : w = []
  · subst hw; rfl
  · rw [len_gt0 hw, if_neg hw, cond_true]
    by_cases h8 : out.length + 1 > 8
    · have : decide (((out.length + (0 + 1) : Nat) : Int) > 8) = true := decide_eq_true (by omega)
      rw [this, if_pos h8]; rfl
    · have : decide (((out.length + (0 + 1) : Nat) : Int) > 8) = false := decide_eq_false (by omega)
      rw [this, if_neg h8]; rfl
theorem spec_out (line s : ByteArray) (hs : (cut3 line (⟨#[35]⟩ : ByteArray)).1 = s) (out : List ByteArray) (w : List Int) : F4_s0 line (out, w, (s.size : Int) + 1) = .done (out, w, (s.size : Int) + 1) := by
  have h0 : decide ((s.size : Int) + 1 ≤ (s.size : Int)) = false := decide_eq_false (by omega)
  simp only [F4_s0, hs, h0, cond_false]
theorem spec_mid (line s : ByteArray) (hs : (cut3 line (⟨#[35]⟩ : ByteArray)).1 = s) (out : List ByteArray) (w : List UInt8) (i : Nat) (hi : i < s.size) (b : UInt8) (hb : s.data.toList.getD i 0 = b) : F4_s0 line (out, intsB w, (i : Int)) =
    if okB b = false then .ret ([], false) else if b = 32 then (if w = [] then .next (out, intsB [], (i : Int) + 1) else if out.length + 1 > 8 then .ret ([], false) else .next (out ++ [mkB w], intsB [], (i : Int) + 1))
    else if w.length + 1 > 24 then .ret ([], false) else .next (out, intsB (w ++ [b]), (i : Int) + 1) := by
  have h0 : decide ((i : Int) ≤ (s.size : Int)) = true := decide_eq_true (by omega)
  have h1 : decide ((i : Int) < (s.size : Int)) = true := decide_eq_true (by omega)
  simp only [F4_s0, hs, h0, h1, cond_true, Int.toNat_natCast, getD_list, hb]
  have hok : (bif decide ((b.toNat : Int) < 32) then true else decide ((b.toNat : Int) > 126)) = !okB b := by
    unfold okB
    by_cases h3 : (b.toNat : Int) < 32
    · rw [decide_eq_true h3, cond_true, decide_eq_false (by omega)]; rfl
    · rw [decide_eq_false h3, cond_false]
      by_cases h4 : (b.toNat : Int) > 126
      · rw [decide_eq_true h4, decide_eq_false (by omega)]; rfl
      · rw [decide_eq_false h4, decide_eq_true (by omega)]; rfl
  rw [hok]
  cases okB b with
  | false => rfl
  | true =>
    have h32 := u8_eq b 32
    have h33 : ((32 : UInt8).toNat : Int) = 32 := rfl
    rw [h33] at h32
    have h34 : ((b.toNat : Int) != 32) = !decide (b = 32) := by rw [bne, h32]
    rw [h34]
    simp only [Bool.not_true, cond_false, Bool.true_eq_false, if_false]
    by_cases hc : b = 32
    · rw [decide_eq_true hc, if_pos hc]
      simp only [Bool.not_true, cond_false, strOfB_ints, intsB_len, List.length_append, List.length_cons, List.length_nil]
      by_cases hw : w = []
      · subst hw; rfl
      · rw [len_gt0 hw, if_neg hw, cond_true]
        by_cases h8 : out.length + 1 > 8
        · have : decide (((out.length + (0 + 1) : Nat) : Int) > 8) = true := decide_eq_true (by omega)
          rw [this, if_pos h8]; rfl
        · have : decide (((out.length + (0 + 1) : Nat) : Int) > 8) = false := decide_eq_false (by omega)
          rw [this, if_neg h8]; rfl
    · rw [decide_eq_false hc, if_neg hc]
      simp only [Bool.not_false, cond_true, intsB_len, List.length_append, List.length_cons, List.length_nil]
      by_cases h24 : w.length + 1 > 24
      · have : decide (((w.length + (0 + 1) : Nat) : Int) > 24) = true := decide_eq_true (by omega)
        rw [this, if_pos h24]; rfl
      · have : decide (((w.length + (0 + 1) : Nat) : Int) > 24) = false := decide_eq_false (by omega)
        rw [this, if_neg h24, cond_false]
        have e : intsB (w ++ [b]) = intsB w ++ [(b.toNat : Int)] := by simp [intsB]
        rw [e]
theorem spec_loop (line s : ByteArray) (hs : (cut3 line (⟨#[35]⟩ : ByteArray)).1 = s) : ∀ (m i : Nat) (out : List ByteArray) (w : List UInt8), i + m = s.size → ∀ fuel, m + 1 < fuel →
    (runL (F4_s0 line) fuel (out, intsB w, (i : Int))).fin (fun r => r) (fun (out, word, i40) => (out, true)) = specW (s.data.toList.drop i) out w
  | m, i, out, w, _, 0, hf => absurd hf (Nat.not_lt_zero _)
  | 0, i, out, w, h, fuel + 1, hf => by
    have hl : s.data.toList.length = s.size := Array.length_toList
    obtain rfl : i = s.size := by omega
    obtain ⟨fuel, rfl⟩ : ∃ f, fuel = f + 1 := ⟨fuel - 1, by omega⟩
    rw [List.drop_of_length_le (by omega), specW]
    have h1 := spec_end line s hs out w
    by_cases hw : w = []
    · rw [if_pos hw] at h1 ⊢
      rw [runL_n _ h1, runL_d _ (spec_out line s hs _ _)]; rfl
    · rw [if_neg hw] at h1 ⊢
      by_cases h8 : out.length + 1 > 8
      · rw [if_pos h8] at h1 ⊢
        rw [runL_r _ h1]; rfl
      · rw [if_neg h8] at h1 ⊢
        rw [runL_n _ h1, runL_d _ (spec_out line s hs _ _)]; rfl
  | m + 1, i, out, w, h, fuel + 1, hf => by
    have hl : s.data.toList.length = s.size := Array.length_toList
    have hb : s.data.toList.drop i = s.data.toList.getD i 0 :: s.data.toList.drop (i + 1) := by
      rw [List.drop_eq_getElem_cons (by omega), List.getD_eq_getElem?_getD, List.getElem?_eq_getElem (by omega)]; rfl
    rw [hb, specW]
    have h1 := spec_mid line s hs out w i (by omega) _ rfl
    generalize s.data.toList.getD i 0 = b at h1 ⊢
    have ei : ((i : Int) + 1) = ((i + 1 : Nat) : Int) := rfl
    rw [ei] at h1
    by_cases hok : okB b = false
    · rw [if_pos hok] at h1 ⊢
      rw [runL_r _ h1]; rfl
    · rw [if_neg hok] at h1 ⊢
      by_cases hc : b = 32
      · rw [if_pos hc] at h1 ⊢
        by_cases hw : w = []
        · rw [if_pos hw] at h1 ⊢
          rw [runL_n _ h1, hw]
          exact spec_loop line s hs m (i + 1) out [] (by omega) fuel (by omega)
        · rw [if_neg hw] at h1 ⊢
          by_cases h8 : out.length + 1 > 8
          · rw [if_pos h8] at h1 ⊢
            rw [runL_r _ h1]; rfl
          · rw [if_neg h8] at h1 ⊢
            rw [runL_n _ h1]
            exact spec_loop line s hs m (i + 1) (out ++ [mkB w]) [] (by omega) fuel (by omega)
      · rw [if_neg hc] at h1 ⊢
        by_cases h24 : w.length + 1 > 24
        · rw [if_pos h24] at h1 ⊢
          rw [runL_r _ h1]; rfl
        · rw [if_neg h24] at h1 ⊢
          rw [runL_n _ h1]
          exact spec_loop line s hs m (i + 1) out (w ++ [b]) (by omega) fuel (by omega)
/-- the reference's words -/
theorem spec_words (line : ByteArray) : F4 line = wordsOf (cut3 line (⟨#[35]⟩ : ByteArray)).1.data.toList := by
  unfold F4
  have := spec_loop line _ rfl (cut3 line (⟨#[35]⟩ : ByteArray)).1.size 0 [] [] (by omega) (Int.toNat (((cut3 line (⟨#[35]⟩ : ByteArray)).1.size : Int) - 0 + 1) + 1) (by omega)
  rw [List.drop_zero, specW_eq _ _ _ (by simp) (by simp) (by simp), List.nil_append, List.nil_append, List.length_nil, Nat.zero_add] at this
  exact this
end Go.Proofs.YtbhjkcicpobmhaaDoor
