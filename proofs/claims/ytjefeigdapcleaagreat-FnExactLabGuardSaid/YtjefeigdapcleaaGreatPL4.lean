/- LabLay, in plain. -/
import Derived.Test.YtjefeigdapcleaaGreatVL3
namespace Go.Proofs.YtjefeigdapcleaaGreat
open Go.RowKit
set_option maxRecDepth 100000
set_option linter.unusedVariables false
set_option linter.unusedSimpArgs false
def labLay (n : LabNet) (path : List Int) : LabNet × Int × Int := bif netB n then ((layR n path).2.2, (layR n path).1, (layR n path).2.1) else (⟨[], []⟩, 0, 1)
theorem as13 (n : LabNet) (path : List Int) : F13 n path = labLay n path := by
  unfold F13 labLay
  cases netB n <;> rfl
theorem as15 (n : LabNet) (path : List Int) : F15 n path = labLay n path := by
  unfold F15 labLay layR
  cases hb : netB n
  · rfl
  simp only [Bool.not_true, cond_false, cond_true]
  cases hp : pathB n path
  · rfl
  simp only [Bool.not_true, cond_false, cond_true]
  unfold labsR
  cases hl : labsB n path
  · rfl
  have h2 := (pathB_ok.1 hp).two
  have : (labsOf n path).length = path.length := List.length_map _
  simp only [cond_true]
  rw [beqD, decide_eq_false (show ¬ ((labsOf n path).length : Int) = 0 from by omega)]
  rfl
end Go.Proofs.YtjefeigdapcleaaGreat
