/- A line without what stands behind its first #. -/
import Derived.Test.YtbhjkcicpobmhaaDoorVC1
namespace Go.Proofs.YtbhjkcicpobmhaaDoor
open Go.RowKit
set_option maxRecDepth 100000
set_option linter.unusedVariables false
set_option linter.unusedSimpArgs false
theorem getD_list (s : ByteArray) (i : Nat) : s.data.getD i 0 = s.data.toList.getD i 0 := by
  simp [Array.getD, List.getD_eq_getElem?_getD]
  split <;> simp_all
theorem cut_at {s : ByteArray} {c : UInt8} {i : Nat} (hi : i < s.size) (h : s.data.toList.getD i 0 = c) (hn : ∀ j, j < i → s.data.toList.getD j 0 ≠ c) : (cut3 s ⟨#[c]⟩).1 = s.extract 0 i := by
  have hl : s.data.toList.length = s.size := Array.length_toList
  rcases cut_cases s c with ⟨h1, _⟩ | ⟨a, b, h1, h2, h3⟩
  · exact absurd (by rw [← h, List.getD_eq_getElem?_getD, List.getElem?_eq_getElem (by omega)]; exact List.getElem_mem _) h1
  · rw [h3]
    have hai : a.length = i := by
      rcases Nat.lt_trichotomy a.length i with hlt | heq | hgt
      · refine absurd ?_ (hn a.length hlt)
        rw [h1, List.getD_eq_getElem?_getD, List.getElem?_append_right (Nat.le_refl _)]
        simp
      · exact heq
      · rw [h1, List.getD_eq_getElem?_getD, List.getElem?_append_left hgt, List.getElem?_eq_getElem hgt] at h
        exact absurd (h ▸ List.getElem_mem hgt) h2
    refine ba_ext ?_
    rw [ByteArray.data_extract, Array.toList_extract, List.extract_eq_take_drop, h1, List.drop_zero, Nat.sub_zero, ← hai, List.take_append_of_le_length (Nat.le_refl _), List.take_length]
theorem cut_not {s : ByteArray} {c : UInt8} (hn : ∀ j, j < s.size → s.data.toList.getD j 0 ≠ c) : (cut3 s ⟨#[c]⟩).1 = s := by
  have hl : s.data.toList.length = s.size := Array.length_toList
  rcases cut_cases s c with ⟨_, h1⟩ | ⟨a, b, h1, h2, h3⟩
  · rw [h1]
  · refine absurd ?_ (hn a.length (by rw [← hl, h1]; simp))
    rw [h1, List.getD_eq_getElem?_getD, List.getElem?_append_right (Nat.le_refl _)]
    simp
theorem u8_eq (b : UInt8) (k : UInt8) : ((b.toNat : Int) == (k.toNat : Int)) = decide (b = k) := by
  rw [beqD]
  congr 1
  refine propext ⟨fun h => ?_, fun h => by rw [h]⟩
  exact UInt8.toNat_inj.1 (by omega)
theorem strip_aux (s : ByteArray) : ∀ (m i : Nat), i + m = s.size → (∀ j, j < i → s.data.toList.getD j 0 ≠ 35) → ∀ fuel, m < fuel →
    (runL (F9_s0 s) fuel (i : Int)).fin (fun r => r) (fun _ => s) = (cut3 s ⟨#[35]⟩).1
  | m, i, _, _, 0, hf => absurd hf (Nat.not_lt_zero _)
  | 0, i, h, hn, fuel + 1, _ => by
    have h1 : decide ((i : Int) < (s.size : Int)) = false := decide_eq_false (by omega)
    simp only [runL, F9_s0, h1, cond_false]
    rw [cut_not (fun j hj => hn j (by omega))]
    rfl
  | m + 1, i, h, hn, fuel + 1, hf => by
    have h1 : decide ((i : Int) < (s.size : Int)) = true := decide_eq_true (by omega)
    have h2 := u8_eq (s.data.toList.getD i 0) 35
    have h3 : ((35 : UInt8).toNat : Int) = 35 := rfl
    rw [h3] at h2
    simp only [runL, F9_s0, h1, cond_true, Int.toNat_natCast, getD_list, h2]
    by_cases hc : s.data.toList.getD i 0 = 35
    · rw [decide_eq_true hc, cond_true, cut_at (by omega) hc hn]
      rfl
    · rw [decide_eq_false hc, cond_false]
      have := strip_aux s m (i + 1) (by omega) (fun j hj => by
        rcases Nat.lt_or_ge j i with h4 | h4
        · exact hn j h4
        · obtain rfl : j = i := by omega
          exact hc) fuel (by omega)
      simpa using this
theorem as9 (line : ByteArray) : F9 line = ((cut3 line (⟨#[35]⟩ : ByteArray)).1) := by
  unfold F9
  exact strip_aux line line.size 0 (by omega) (fun j hj => absurd hj (Nat.not_lt_zero _)) _ (by omega)
theorem cutA_le (line : ByteArray) : ((cut3 line (⟨#[35]⟩ : ByteArray)).1.size : Int) ≤ line.size := cut3_le1 _ _
theorem cutA_le2 (line : ByteArray) (h : line.size ≤ 1048576) : (cut3 line (⟨#[35]⟩ : ByteArray)).1.size ≤ 1048576 := by
  have := cut3_le1 line ⟨#[35]⟩
  omega
end Go.Proofs.YtbhjkcicpobmhaaDoor
