/- Plain law of the row of LabLay. -/
import Derived.Test.YtjefeigdapcleaaVLL
namespace Go.Proofs.Ytjefeigdapcleaa
open Go.RowKit
set_option maxRecDepth 100000
set_option linter.unusedVariables false
set_option linter.unusedSimpArgs false
theorem labLay_small (n : LabNet) (path : List Int) : lwLabNet (labLay n path).1 ≤ 10000 := by
  unfold labLay
  cases hb : netB n with
  | false => exact Nat.zero_le _
  | true => exact lwNet_le (layR_net (netB_T n hb) path)
theorem plain_16 (n : LabNet) (path : List Int) : F16 n path = true := by
  unfold F16
  by_cases hp : (path.length : Int) > 1048576
  · rw [decide_eq_true hp]; rfl
  · by_cases hs : F27 n 1048576 < 0
    · rw [decide_eq_true hs, decide_eq_false hp]; rfl
    · have hl := szNet hs
      have ht := labLay_small n path
      obtain ⟨m1, m2⟩ := mk25 (labLay n path).1 1 (by omega) (by omega)
      have m3 := (mk25 n 1 (by omega) (by omega)).1
      have h1 := sumOne path
      have m4 := (mk36 path (1 + (lwLabNet n : Int)) (by omega) (by omega)).1
      rw [m1, m2, m3, m4, decide_eq_false hs, decide_eq_false hp]
      have d1 : ¬ (1 + (lwLabNet (labLay n path).1 : Int) < 0) := by omega
      have d2 : ¬ (1 + (lwLabNet n : Int) + (sumL (fun _ => 1) path : Int) < 0) := by omega
      simp [d1, d2]
end Go.Proofs.Ytjefeigdapcleaa
