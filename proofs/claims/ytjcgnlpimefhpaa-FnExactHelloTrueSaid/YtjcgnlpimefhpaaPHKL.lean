/- Plain laws of the rows of HelloKnow and HelloTrue. -/
import Derived.Test.YtjcgnlpimefhpaaVHKL
namespace Go.Proofs.Ytjcgnlpimefhpaa
open Go.RowKit
set_option maxRecDepth 100000
set_option linter.unusedVariables false
set_option linter.unusedSimpArgs false
theorem plain_7 (w : HelloWorld) : F7 w = true := by
  unfold F7
  rw [know_eq]
  cases decide (F43 w 1048576 < 0) <;> simp
theorem plain_8 (w : HelloWorld) : F8 w = true := by
  unfold F8
  rw [true_eq]
  cases decide (F43 w 1048576 < 0) <;> simp

end Go.Proofs.Ytjcgnlpimefhpaa
