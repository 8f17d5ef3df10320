/- Plain law of the row of LabWay. -/
import Derived.Test.YtjefeigdapcleaaVWL
namespace Go.Proofs.Ytjefeigdapcleaa
open Go.RowKit
set_option maxRecDepth 100000
set_option linter.unusedVariables false
set_option linter.unusedSimpArgs false
theorem plain_7 (n : LabNet) (a b w : Int) : F7 n a b w = true := by
  unfold F7
  by_cases hs : F27 n 1048576 < 0
  · rw [decide_eq_true hs]; rfl
  · have hl := szNet hs
    have hp := labWay_len n a b w
    obtain ⟨m1, m2⟩ := marksI (l := labWay n a b w) (by omega)
    have m3 := (mk25 n 1 (by omega) (by omega)).1
    rw [m1, m2, m3, decide_eq_false hs]
    have d1 : ¬ (1 + ((labWay n a b w).length : Int) < 0) := by omega
    have d2 : ¬ (1 + (lwLabNet n : Int) < 0) := by omega
    simp [d1, d2]
end Go.Proofs.Ytjefeigdapcleaa
