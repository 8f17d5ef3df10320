/- Texts cut at one byte. -/
import Derived.Test.YtbhjkcicpobmhaaDoorVC0
import Derived.Lib.IndexBytes
import Derived.Lib.SplitLaws
import Derived.Lib.CutLaws
namespace Go.Proofs.YtbhjkcicpobmhaaDoor
open Go.RowKit
set_option maxRecDepth 100000
set_option linter.unusedVariables false
set_option linter.unusedSimpArgs false

/-- the pieces between the bytes c -/
def splitL (c : UInt8) : List UInt8 → List (List UInt8)
  | [] => [[]]
  | b :: l => if b = c then [] :: splitL c l else (match splitL c l with | [] => [[b]] | w :: ws => (b :: w) :: ws)
theorem splitL_none {c : UInt8} : ∀ {l : List UInt8}, c ∉ l → splitL c l = [l]
  | [], _ => rfl
  | b :: l, h => by
    have hb : b ≠ c := fun e => h (by rw [e]; exact List.mem_cons_self)
    rw [splitL, if_neg hb, splitL_none (fun hm => h (List.mem_cons_of_mem _ hm))]
theorem splitL_app {c : UInt8} (b : List UInt8) : ∀ {a : List UInt8}, c ∉ a → splitL c (a ++ c :: b) = a :: splitL c b
  | [], _ => by rw [List.nil_append, splitL, if_pos rfl]
  | x :: a, h => by
    have hb : x ≠ c := fun e => h (by rw [e]; exact List.mem_cons_self)
    rw [List.cons_append, splitL, if_neg hb, splitL_app b (fun hm => h (List.mem_cons_of_mem _ hm))]
theorem index_split (c : UInt8) : ∀ l : List UInt8, (Lib.index l [c] = -1 ∧ c ∉ l) ∨ ∃ a b, l = a ++ c :: b ∧ c ∉ a ∧ Lib.index l [c] = (a.length : Int)
  | [] => .inl ⟨rfl, by simp⟩
  | x :: l => by
    rw [Lib.index_one, Lib.indexByte]
    by_cases hx : x = c
    · subst hx
      exact .inr ⟨[], l, rfl, by simp, by simp⟩
    · have hx' : (x == c) = false := by simpa using hx
      rw [hx']
      rcases index_split c l with ⟨h1, h2⟩ | ⟨a, b, h1, h2, h3⟩
      · rw [Lib.index_one] at h1
        refine .inl ⟨by rw [h1]; rfl, fun hm => ?_⟩
        rcases List.mem_cons.1 hm with h | h
        · exact hx h.symm
        · exact h2 h
      · rw [Lib.index_one] at h3
        refine .inr ⟨x :: a, b, by rw [h1]; rfl, fun hm => ?_, ?_⟩
        · rcases List.mem_cons.1 hm with h | h
          · exact hx h.symm
          · exact h2 h
        · rw [h3]
          have : ((a.length : Int) == -1) = false := by
            rw [beq_eq_false_iff_ne]; omega
          simp only [this, Bool.false_eq_true, if_false, List.length_cons]
          omega
theorem ba_ext {a b : ByteArray} (h : a.data.toList = b.data.toList) : a = b := by
  cases a; cases b
  simp only at h
  congr
  exact Array.ext' h
theorem cut_cases (s : ByteArray) (c : UInt8) : (c ∉ s.data.toList ∧ cut3 s ⟨#[c]⟩ = (s, ⟨#[]⟩, false)) ∨ ∃ a b, s.data.toList = a ++ c :: b ∧ c ∉ a ∧ cut3 s ⟨#[c]⟩ = (⟨a.toArray⟩, ⟨b.toArray⟩, true) := by
  rcases index_split c s.data.toList with ⟨h1, h2⟩ | ⟨a, b, h1, h2, h3⟩
  · refine .inl ⟨h2, ?_⟩
    unfold cut3 Lib.cut
    rw [h1]
    rfl
  · refine .inr ⟨a, b, h1, h2, ?_⟩
    unfold cut3 Lib.cut
    rw [h3, if_pos (by omega), h1]
    simp
theorem splitS_aux (c : UInt8) : ∀ (k : Nat) (s : ByteArray), s.data.toList.count c = k → (Lib.splitB ⟨#[c]⟩ 0 k s).map (·.data.toList) = splitL c s.data.toList
  | 0, s, hk => by
    rw [splitL_none (List.count_eq_zero.1 hk)]
    rfl
  | k + 1, s, hk => by
    rcases index_split c s.data.toList with ⟨h1, h2⟩ | ⟨a, b, h1, h2, h3⟩
    · rw [List.count_eq_zero.2 h2] at hk; omega
    · have hi : Lib.indexB s ⟨#[c]⟩ = (a.length : Int) := h3
      unfold Lib.splitB
      rw [hi, if_neg (by rw [beq_iff_eq]; omega), List.map_cons, h1, splitL_app b h2]
      have hsz : s.size = a.length + (b.length + 1) := by
        have := congrArg List.length h1
        rw [List.length_append, List.length_cons, Array.length_toList] at this
        exact this
      have e1 : (s.extract 0 (((a.length : Int)).toNat + 0)).data.toList = a := by
        rw [ByteArray.data_extract, Array.toList_extract, List.extract_eq_take_drop, h1, Int.toNat_natCast, Nat.add_zero, Nat.sub_zero, List.drop_zero]
        rw [List.take_append_of_le_length (Nat.le_refl _), List.take_length]
      have e2 : (s.extract (((a.length : Int)).toNat + (⟨#[c]⟩ : ByteArray).size) s.size).data.toList = b := by
        have hc1 : (⟨#[c]⟩ : ByteArray).size = 1 := rfl
        rw [hc1]
        simp only [ByteArray.data_extract, Array.toList_extract, List.extract_eq_take_drop, h1, Int.toNat_natCast, hsz]
        rw [List.drop_append, List.drop_of_length_le (by omega), List.nil_append]
        have e3 : a.length + 1 - a.length = 1 := by omega
        rw [e3, List.drop_succ_cons, List.drop_zero, List.take_of_length_le (by omega)]
      rw [e1, splitS_aux c k _ (by rw [e2]; rw [h1] at hk; simp [List.count_eq_zero.2 h2] at hk; omega), e2]
theorem splitS_one (s : ByteArray) (c : UInt8) : (splitS s ⟨#[c]⟩).map (·.data.toList) = splitL c s.data.toList := by
  have : Lib.countB s ⟨#[c]⟩ = s.data.toList.count c := Lib.count_one c s.data.toList
  unfold splitS
  rw [this]
  exact splitS_aux c _ s rfl
end Go.Proofs.YtbhjkcicpobmhaaDoor
