/- Plain law of the row of LabGuard. -/
import Derived.Test.YtjefeigdapcleaaGreatVGL
namespace Go.Proofs.YtjefeigdapcleaaGreat
open Go.RowKit
set_option maxRecDepth 100000
set_option linter.unusedVariables false
set_option linter.unusedSimpArgs false
theorem labGuard_small (n : LabNet) (a b : Int) : lwLabNet (labGuard n a b).1 ≤ 10000 := by
  unfold labGuard
  cases hb : netB n with
  | false => exact Nat.zero_le _
  | true => exact lwNet_le (guardR_net (netB_T n hb) a b)
theorem plain_6 (n : LabNet) (a b : Int) : F6 n a b = true := by
  unfold F6
  by_cases hs : F24 n 1048576 < 0
  · rw [decide_eq_true hs]; rfl
  · have hl := szNet hs
    have ht := labGuard_small n a b
    obtain ⟨m1, m2⟩ := mk27 (labGuard n a b).1 1 (by omega) (by omega)
    have m3 := (mk27 n 1 (by omega) (by omega)).1
    rw [m1, m2, m3, decide_eq_false hs]
    have d1 : ¬ (1 + (lwLabNet (labGuard n a b).1 : Int) < 0) := by omega
    have d2 : ¬ (1 + (lwLabNet n : Int) < 0) := by omega
    simp [d1, d2]
end Go.Proofs.YtjefeigdapcleaaGreat
