/- Plain law of the row of HelloWorldOk. -/
import Derived.Test.YtjcgnlpimefhpaaVHX
namespace Go.Proofs.Ytjcgnlpimefhpaa
open Go.RowKit
set_option maxRecDepth 100000
set_option linter.unusedVariables false
set_option linter.unusedSimpArgs false
theorem plain_6 (w : HelloWorld) : F6 w = true := by
  unfold F6
  rw [worldOk_eq]
  cases decide (F43 w 1048576 < 0) <;> simp

end Go.Proofs.Ytjcgnlpimefhpaa
