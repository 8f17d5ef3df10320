/- Plain law of LabOpen. -/
import Derived.Test.YtjefeigdapcleaaV2
namespace Go.Proofs.Ytjefeigdapcleaa
open Go.RowKit
set_option maxRecDepth 100000
set_option linter.unusedVariables false
set_option linter.unusedSimpArgs false
theorem open_eq (b : Int) (l : List LabLink) : F19 b l = F21 b l := by
  unfold F19 F21
  have e : netB (⟨l, List.replicate (Int.toNat b) ⟨[], []⟩⟩ : LabNet) = F67 ⟨l, List.replicate (Int.toNat b) ⟨[], []⟩⟩ := by
    unfold netB
    have : (first (fun i => !boxB ⟨l, List.replicate (Int.toNat b) ⟨[], []⟩⟩ i) (List.replicate (Int.toNat b) (⟨[], []⟩ : LabBox)).length) = none := first_none.2 fun k hk => by
      have h1 : (List.replicate (Int.toNat b) (⟨[], []⟩ : LabBox)).getD k default = ⟨[], []⟩ := getD_rep _ _ rfl k
      simp only [boxB, h1]
      rfl
    rw [this]
    exact Bool.and_true _
  rw [e]
theorem open_small (b : Int) (l : List LabLink) : lwLabNet (F21 b l).1 ≤ 10000 := by
  unfold F21
  cases decide (1 ≤ b ∧ b ≤ 8)
  · exact Nat.zero_le _
  · cases h : netB (⟨l, List.replicate (Int.toNat b) ⟨[], []⟩⟩ : LabNet)
    · exact Nat.zero_le _
    · exact lwNet_le (netB_T _ h)
theorem plain_3 (b : Int) (l : List LabLink) : F3 b l = true := by
  unfold F3
  by_cases hs : F18 l 1048576 < 0
  · rw [decide_eq_true hs]; rfl
  · have hl := (gb18 l 1048576 (by omega) (by omega) (by omega)).2
    obtain ⟨m1, m2⟩ := marks (n := (F21 b l).1) (by have := open_small b l; omega)
    have m3 := marksL (l := l) (by omega)
    rw [open_eq, m1, m2, decide_eq_false hs]
    have d1 : ¬ (1 + (lwLabNet (F21 b l).1 : Int) < 0) := by omega
    have d2 : ¬ ((F24 l 1).1 < 0) := by omega
    simp [d1, d2]
end Go.Proofs.Ytjefeigdapcleaa
