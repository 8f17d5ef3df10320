/- Plain laws: what is known, and what is true. -/
import Derived.Test.YtjcgnlpimefhpaaVHK
namespace Go.Proofs.Ytjcgnlpimefhpaa
open Go.RowKit
set_option maxRecDepth 100000
set_option linter.unusedVariables false
set_option linter.unusedSimpArgs false
theorem knows_b (x y : HelloSide) : (!(bif (bif (bif (bif (!(x.Up)) then true else (!(x.End.Up))) then true else (!(x.End.Full))) then true else (F116 x.End.Heard)) then true else (!(decide (F106 x.End.Heard = y.End.Want))))) = F115 x y := by
  unfold F115
  have ha : F116 x.End.Heard = anySt x.End.Heard := rfl
  rw [ents_eq, fst_lt, ha]
  cases x.Up <;> cases x.End.Up <;> cases x.End.Full <;> cases anySt x.End.Heard <;> simp
theorem know_eq (w : HelloWorld) : F49 w = F48 w := by
  unfold F49 F48
  rw [worldOk_eq]
  cases h : F44 w with
  | false => rfl
  | true =>
    have h2 := worldS_two w h
    rw [allB (fun k => bif (bif (bif (bif (!((w.Sides.getD k default).Up)) then true else (!((w.Sides.getD k default).End.Up))) then true else (!((w.Sides.getD k default).End.Full))) then true else (F116 (w.Sides.getD k default).End.Heard)) then true else (!(decide (F106 (w.Sides.getD k default).End.Heard = (w.Sides.getD (1 - k) default).End.Want)))) w.Sides.length _ (fun k hk => by
      have e1 : Int.toNat (1 - (k : Int)) = 1 - k := by omega
      simp only [F49_s0, ltD hk, cond_true, nn, e1]) (by simp [F49_s0])]
    rw [h2, first2, knows_b, knows_b]
    have hz : Int.toNat 0 = 0 := rfl
    have ho : Int.toNat 1 = 1 := rfl
    rw [hz, ho]
    simp only [Nat.sub_zero, Nat.sub_self, Bool.not_true, cond_false, cond_true, Bool.and_true, Bool.cond_false_right]
theorem tells_eq (x y : HelloEnd) (h : F90 x = true) : F119 x y = F118 x y := by
  have hk := change_kind (endOk_facts h).2.2.2.1
  unfold F119 F118
  have ha : F116 y.Heard = anySt y.Heard := rfl
  have hn : (x.Under.Kind != 0) = decide (x.Under.Kind > 0) := by
    rw [bne, beqD, ← decide_not, decide_eq_decide]; omega
  rw [ha, fst_ge, hn]
  generalize decide ((y.Heard.filter (fun r => !r.Stale)).map (fun r => r.Entry) = x.Told) = d1
  generalize decide ((y.Heard.filter (fun r => !r.Stale)).map (fun r => r.Entry) = F170 x.Told x.Under) = d2
  generalize (y.Full == (bif x.All then true else (x.Under.Kind == 3))) = d3
  generalize (y.Full == x.All) = d4
  cases d1 <;> cases d2 <;> cases d3 <;> cases d4 <;> cases (y.Got == x.Num) <;> simp
theorem true_eq (w : HelloWorld) : F51 w = F50 w := by
  unfold F51 F50
  rw [worldOk_eq]
  cases h : F44 w with
  | false => rfl
  | true =>
    obtain ⟨_, h0, h1⟩ := worldS_facts h
    have hz : Int.toNat 0 = 0 := rfl
    have ho : Int.toNat 1 = 1 := rfl
    rw [hz, ho, tells_eq _ _ h0, tells_eq _ _ h1]

end Go.Proofs.Ytjcgnlpimefhpaa
