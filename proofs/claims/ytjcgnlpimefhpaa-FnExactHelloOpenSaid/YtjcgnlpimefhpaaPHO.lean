/- Plain laws: a world that is opened. -/
import Derived.Test.YtjcgnlpimefhpaaVHO
namespace Go.Proofs.Ytjcgnlpimefhpaa
open Go.RowKit
set_option maxRecDepth 100000
set_option linter.unusedVariables false
set_option linter.unusedSimpArgs false
theorem open_eq (a b : Int) (keys : List HelloKey) (wantA wantB : List HelloEntry) : F69 a b keys wantA wantB = F68 a b keys wantA wantB := by
  unfold F69 F68
  rw [worldOk_eq, new_eq, new_eq]

/-- n more, wrapped each time -/
def scn : Nat → Int → Int
  | 0, k => k
  | n + 1, k => IntKind.i64.wrap (scn n k + 1)
theorem scn_of : ∀ {n : Nat} {k : Int}, 0 ≤ k → k + (n : Int) < 9223372036854775807 → scn n k = k + (n : Int)
  | 0, k, _, _ => by simp [scn]
  | n + 1, k, h0, h1 => by
    simp only [scn]
    rw [scn_of h0 (by omega), wrap_of (by omega) (by omega)]
    omega

end Go.Proofs.Ytjcgnlpimefhpaa
