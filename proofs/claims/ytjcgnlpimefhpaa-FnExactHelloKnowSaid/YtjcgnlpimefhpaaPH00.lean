/- Plain laws: the size of a prefix. -/
import Derived.Test.YtjcgnlpimefhpaaVH00
namespace Go.Proofs.Ytjcgnlpimefhpaa
open Go.RowKit
set_option maxRecDepth 100000
set_option linter.unusedVariables false
set_option linter.unusedSimpArgs false
def szP (n : Int) : Int := 2 ^ (16 - n).toNat
theorem szP_pos (n : Int) : 1 ≤ szP n := by
  unfold szP
  have := Int.pow_pos (n := 2) (m := (16 - n).toNat) (by decide)
  omega
theorem szP_pos' (p : NetPrefix) : 1 ≤ szP p.Len := szP_pos _
theorem as216 (n : Int) (h0 : 0 ≤ n) (h1 : n ≤ 16) : F216 n = szP n := by
  have hd : ∀ k, k < 16 → IntKind.i64.wrap ((2 : Int) ^ k * 2) = 2 ^ (k + 1) := by decide
  unfold F216
  have hr := runL_rule (step := F216_s0 n) (fun (k : Nat) (_ : Unit) => ((2 : Int) ^ k, n + (k : Int))) (16 - n).toNat (fun _ _ => True) (fun _ => False)
    (fun k _ hk _ => .inl ⟨(), by
      simp only [F216_s0]
      rw [decide_eq_true (by omega), cond_true, hd k (by omega)]
      have : n + (k : Int) + 1 = n + ((k + 1 : Nat) : Int) := by omega
      rw [this], trivial⟩)
    (fun _ _ => by
      simp only [F216_s0]
      rw [decide_eq_false (by omega), cond_false])
    (16 - n).toNat 0 () (by omega) trivial ((16 - n).toNat + 1) (by omega)
  rcases hr with ⟨_, hr, _⟩ | ⟨_, _, hr⟩
  · have hr' : runL (F216_s0 n) ((16 - n).toNat + 1) (1, n + ((0 : Nat) : Int)) = _ := hr
    rw [Int.natCast_zero, Int.add_zero] at hr'
    rw [hr']; rfl
  · exact hr.elim
theorem as223 (p : NetPrefix) (h0 : 0 ≤ p.Len) (h1 : p.Len ≤ 16) : F223 p = szP p.Len := by
  have hd : ∀ q, q < 17 → IntKind.i64.wrap (1 * (2 : Int) ^ (min q IntKind.i64.bits)) = 2 ^ q := by decide
  unfold F223 szP
  exact hd _ (by omega)
/-- the middle of two places -/
theorem half_eq (a b : Int) (h0 : 0 ≤ a) (h1 : a < b) (h2 : b ≤ 1000000000) : IntKind.i64.wrap ((IntKind.u64.wrap (a + b)).fdiv (2 ^ (min (1 : Int).toNat IntKind.u64.bits))) = (a + b) / 2 := by
  have e1 : IntKind.u64.wrap (a + b) = a + b := IntWalk.u64_in _ (by omega)
  have e2 : (2 : Int) ^ (min (1 : Int).toNat IntKind.u64.bits) = 2 := by decide
  rw [e1, e2, Int.fdiv_eq_ediv_of_nonneg _ (by decide), wrap_of (by omega) (by omega)]
theorem half_in (a b : Int) (h0 : 0 ≤ a) (h1 : a < b) (h2 : b ≤ 1000000000) : a ≤ IntKind.i64.wrap ((IntKind.u64.wrap (a + b)).fdiv (2 ^ (min (1 : Int).toNat IntKind.u64.bits))) ∧ IntKind.i64.wrap ((IntKind.u64.wrap (a + b)).fdiv (2 ^ (min (1 : Int).toNat IntKind.u64.bits))) < b := by
  rw [half_eq a b h0 h1 h2]; omega

end Go.Proofs.Ytjcgnlpimefhpaa
