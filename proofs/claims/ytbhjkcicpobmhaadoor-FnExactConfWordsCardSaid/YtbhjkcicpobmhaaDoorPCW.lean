/- Plain law of the row of ConfWords. -/
import Derived.Test.YtbhjkcicpobmhaaDoorVCW
namespace Go.Proofs.YtbhjkcicpobmhaaDoor
open Go.RowKit
set_option maxRecDepth 100000
set_option linter.unusedVariables false
set_option linter.unusedSimpArgs false
theorem sumL_one {α : Type} : ∀ l : List α, sumL (fun _ => 1) l = l.length
  | [] => rfl
  | a :: l => by
    rw [sumL_cons, sumL_one l, List.length_cons]
    omega
theorem plain_3 (line : ByteArray) : F3 line = true := by
  unfold F3
  have hl := words_len line
  rw [← words_same line]
  have h1 := mk7a (F5 line).1 1 (by omega) (by rw [sumL_one]; omega)
  have h2 := mk7b (F5 line).1 1 (by omega) (by rw [sumL_one]; omega)
  rw [sumL_one] at h1 h2
  rw [h2, h1]
  generalize (F5 line).1.length = n at hl
  have h3 : decide ((1 : Int) + (n : Int) < 0) = false := decide_eq_false (by omega)
  rw [h3]
  simp
end Go.Proofs.YtbhjkcicpobmhaaDoor
