/- The words of a line: the code's own function. -/
import Derived.Test.YtbhjkcicpobmhaaDoorPS3
namespace Go.Proofs.YtbhjkcicpobmhaaDoor
open Go.RowKit
set_option maxRecDepth 100000
set_option linter.unusedVariables false
set_option linter.unusedSimpArgs false
theorem wrap_u8 (b : UInt8) : IntKind.i64.wrap ((b.toNat : Int)) = (b.toNat : Int) := by
  have h := b.toNat_lt
  exact wrap_of (by omega) (by omega)
theorem impl_loop (line s : ByteArray) (hs : (cut3 line (⟨#[35]⟩ : ByteArray)).1 = s) {τ : Type} (f : List ByteArray × Bool → τ) (g : Int → τ) (y : τ) (hg : ∀ i, g i = y) : ∀ (m i : Nat), i + m = s.size → ∀ fuel, m < fuel →
    (runL (F5_s0 line) fuel (i : Int)).fin f g = bif (s.data.toList.drop i).all okB then y else f ([], false)
  | m, i, _, 0, hf => absurd hf (Nat.not_lt_zero _)
  | 0, i, h, fuel + 1, hf => by
    have hl : s.data.toList.length = s.size := Array.length_toList
    have h1 : decide ((i : Int) < (s.size : Int)) = false := decide_eq_false (by omega)
    have hst : F5_s0 line (i : Int) = .done (i : Int) := by
      simp only [F5_s0, F10, hs, h1, cond_false]
    rw [List.drop_of_length_le (by omega), runL_d _ hst]
    exact hg _
  | m + 1, i, h, fuel + 1, hf => by
    have hl : s.data.toList.length = s.size := Array.length_toList
    have h1 : decide ((i : Int) < (s.size : Int)) = true := decide_eq_true (by omega)
    have hb : s.data.toList.drop i = s.data.toList.getD i 0 :: s.data.toList.drop (i + 1) := by
      rw [List.drop_eq_getElem_cons (by omega), List.getD_eq_getElem?_getD, List.getElem?_eq_getElem (by omega)]; rfl
    have hst : F5_s0 line (i : Int) = if okB (s.data.toList.getD i 0) = false then .ret ([], false) else .next ((i + 1 : Nat) : Int) := by
      simp only [F5_s0, F10, hs, h1, cond_true, Int.toNat_natCast, getD_list, wrap_u8]
      generalize s.data.toList.getD i 0 = b
      have e : decide ((32 : Int) ≤ (b.toNat : Int) ∧ (b.toNat : Int) ≤ 126) = okB b := by
        unfold okB
        congr 1
        exact propext ⟨fun h => by omega, fun h => by omega⟩
      rw [e]
      cases okB b <;> rfl
    rw [hb, List.all_cons]
    generalize s.data.toList.getD i 0 = b at hst ⊢
    by_cases hok : okB b = false
    · rw [if_pos hok] at hst
      rw [runL_r _ hst, hok]; rfl
    · rw [if_neg hok] at hst
      rw [runL_n _ hst, impl_loop line s hs f g y hg m (i + 1) (by omega) fuel (by omega)]
      cases ho : okB b with
      | false => exact absurd ho hok
      | true => rw [Bool.true_and]
theorem isE (x : ByteArray) : (x.toList == (⟨#[]⟩ : ByteArray).toList) = x.data.toList.isEmpty := by
  rw [byteToList, byteToList]
  cases x.data.toList <;> rfl
theorem words_filter (s : ByteArray) : (splitS s (⟨#[32]⟩ : ByteArray)).filter (fun x => !(x.toList == (⟨#[]⟩ : ByteArray).toList)) = (wordsL s.data.toList).map mkB := by
  rw [wordsL, ← splitS_one, List.filter_map, List.map_map]
  have e : (fun x : ByteArray => !(x.toList == (⟨#[]⟩ : ByteArray).toList)) = ((fun w : List UInt8 => !w.isEmpty) ∘ fun x : ByteArray => x.data.toList) := by
    funext x
    rw [isE]; rfl
  rw [e]
  exact ((List.map_congr_left fun x _ => mkB_self x).trans (List.map_id _)).symm
theorem any_long : ∀ ws : List (List UInt8), ws.any ((fun x : ByteArray => decide ((x.size : Int) > 24)) ∘ mkB) = !ws.all fun w => decide (w.length ≤ 24)
  | [] => rfl
  | w :: ws => by
    rw [List.any_cons, List.all_cons, any_long ws, Bool.not_and]
    congr 1
    have : (mkB w).size = w.length := rfl
    show decide (((mkB w).size : Int) > 24) = _
    rw [this]
    by_cases h : w.length ≤ 24
    · rw [decide_eq_true h, decide_eq_false (by omega)]; rfl
    · rw [decide_eq_false h, decide_eq_true (by omega)]; rfl
/-- the code's words -/
theorem impl_words (line : ByteArray) : F5 line = wordsOf (cut3 line (⟨#[35]⟩ : ByteArray)).1.data.toList := by
  generalize hs : (cut3 line (⟨#[35]⟩ : ByteArray)).1 = s
  unfold F5
  have h1 := impl_loop line s hs (fun r => r) (fun _ => bif (bif decide ((((wordsL s.data.toList).map mkB).length : Int) > 8) then true else ((wordsL s.data.toList).map mkB).any fun x => decide ((x.size : Int) > 24)) then (([] : List ByteArray), false) else ((wordsL s.data.toList).map mkB, true)) _ (fun _ => rfl) s.size 0 (by omega) (Int.toNat ((s.size : Int) - 0) + 1) (by omega)
  have hf : (splitS s (⟨#[32]⟩ : ByteArray)).filter (fun x => !F14 x) = (wordsL s.data.toList).map mkB := words_filter s
  simp only [F10, F13, hs, hf]
  refine h1.trans ?_
  rw [List.drop_zero, wordsOf, fitW, List.length_map, List.any_map]
  have e1 : decide (((wordsL s.data.toList).length : Int) > 8) = !decide ((wordsL s.data.toList).length ≤ 8) := by
    by_cases h : (wordsL s.data.toList).length ≤ 8
    · rw [decide_eq_true h, decide_eq_false (by omega)]; rfl
    · rw [decide_eq_false h, decide_eq_true (by omega)]; rfl
  rw [e1, any_long]
  cases (s.data.toList.all okB) <;> cases decide ((wordsL s.data.toList).length ≤ 8) <;> cases ((wordsL s.data.toList).all fun w => decide (w.length ≤ 24)) <;> rfl
theorem words_same (line : ByteArray) : F5 line = F4 line := (impl_words line).trans (spec_words line).symm
theorem wordsOf_len (l : List UInt8) : (wordsOf l).1.length ≤ 8 := by
  unfold wordsOf fitW
  by_cases h : (wordsL l).length ≤ 8
  · cases l.all okB <;> cases ((wordsL l).all fun w => decide (w.length ≤ 24)) <;> simp [h]
  · rw [decide_eq_false h, Bool.false_and, Bool.and_false]
    exact Nat.zero_le _
theorem words_len (line : ByteArray) : (F5 line).1.length ≤ 8 := by
  rw [impl_words]; exact wordsOf_len _
end Go.Proofs.YtbhjkcicpobmhaaDoor
