/- Plain law: what is laid. -/
import Derived.Test.YtjcgnlpimefhpaaVT2
namespace Go.Proofs.Ytjcgnlpimefhpaa
open Go.RowKit
set_option maxRecDepth 100000
set_option linter.unusedVariables false
set_option linter.unusedSimpArgs false
theorem lay_eq (n : Int) (hops : List FibHop) (flow : Int) (p : FragPacket) : F17 n hops flow p = F14 n hops flow p := by
  unfold F17 F14
  rw [fragOk_eq, hopsOk_eq, cut_eq, pick_eq]

end Go.Proofs.Ytjcgnlpimefhpaa
