/- Plain law of the row of HelloOpen. -/
import Derived.Test.YtjcgnlpimefhpaaVHOL
namespace Go.Proofs.Ytjcgnlpimefhpaa
open Go.RowKit
set_option maxRecDepth 100000
set_option linter.unusedVariables false
set_option linter.unusedSimpArgs false
theorem new_len (name peer : Int) (keys : List HelloKey) (boot : Int) (want : List HelloEntry) (h1 : keys.length ≤ 1000000000) (h2 : want.length ≤ 1000000000) : lwHelloEnd (F27 name peer keys boot want) ≤ 7000000000 := by
  have h := lwEnd_le (F27 name peer keys boot want)
  refine Nat.le_trans h ?_
  unfold F27
  cases (!(F90 (⟨name, peer, keys, boot, want, 0, 0, 0, false, 0, 0, (⟨0, (⟨0, 0, 0, 0⟩ : HelloEntry)⟩ : HelloChange), [], false, 0, false, [], 0⟩ : HelloEnd)))
  · simp only [cond_false, List.length_nil]; omega
  · simp only [cond_true, List.length_nil]; omega
theorem lvSide (s : HelloSide) : lvHelloSide s = 19 + lwHelloEnd s.End := by
  unfold lvHelloSide lwHelloEnd; omega
theorem open_small (a b : Int) (keys : List HelloKey) (wantA wantB : List HelloEntry) (h1 : keys.length ≤ 1000000000) (h2 : wantA.length ≤ 1000000000) (h3 : wantB.length ≤ 1000000000) : lwHelloWorld (F68 a b keys wantA wantB).1 ≤ 15000000000 := by
  have e1 := new_len a b keys 1 wantA h1 h2
  have e2 := new_len b a keys 1 wantB h1 h3
  have s1 := lvSide (⟨true, (F27 a b keys 1 wantA)⟩ : HelloSide)
  have s2 := lvSide (⟨true, (F27 b a keys 1 wantB)⟩ : HelloSide)
  simp only at s1 s2
  unfold F68
  cases (!(F44 (⟨([(⟨true, (F27 a b keys 1 wantA)⟩ : HelloSide), (⟨true, (F27 b a keys 1 wantB)⟩ : HelloSide)] : List HelloSide), ([] : List HelloWord)⟩ : HelloWorld)))
  · simp only [cond_false, lwHelloWorld, sumL_nil, sumL_cons]; omega
  · simp only [cond_true, lwHelloWorld, sumL_nil, sumL_cons]; omega
theorem plain_11 (a b : Int) (keys : List HelloKey) (wantA wantB : List HelloEntry) : F11 a b keys wantA wantB = true := by
  unfold F11
  by_cases hs : F25 keys 1048576 < 0
  · rw [decide_eq_true hs]; rfl
  · have hl := (gb25 keys 1048576 (by omega) (by omega) (by omega))
    generalize hL : F25 keys 1048576 = L at *
    by_cases hs2 : F26 wantA L < 0
    · rw [decide_eq_false hs, decide_eq_true hs2]; rfl
    · have hl2 := (gb26 wantA _ (by omega) (by omega) (by omega : 0 ≤ F26 wantA L))
      generalize hM : F26 wantA L = M at *
      by_cases hs3 : F26 wantB M < 0
      · rw [decide_eq_false hs, decide_eq_false hs2, decide_eq_true hs3]; rfl
      · have hl3 := (gb26 wantB _ (by omega) (by omega) (by omega : 0 ≤ F26 wantB M))
        have hn := open_small a b keys wantA wantB hl.2 hl2.2 hl3.2
        have hk := sumK keys
        have hw := sumE wantA
        have hv := sumE wantB
        obtain ⟨m1, m2⟩ := mk70 (F68 a b keys wantA wantB).1 1 (by omega) (by omega)
        have m3 := (mk34 keys 1 (by omega) (by omega)).1
        have m4 := (mk35 wantA (1 + (sumL lvHelloKey keys : Int)) (by omega) (by omega)).1
        have m5 := (mk35 wantB (1 + (sumL lvHelloKey keys : Int) + (sumL lvHelloEntry wantA : Int)) (by omega) (by omega)).1
        rw [open_eq]
        generalize F68 a b keys wantA wantB = N at *
        rw [m3, m4, m5, m1, m2, decide_eq_false hs, decide_eq_false hs2, decide_eq_false hs3]
        have d1 : ¬ (1 + (sumL lvHelloKey keys : Int) + (sumL lvHelloEntry wantA : Int) + (sumL lvHelloEntry wantB : Int) < 0) := by omega
        have d2 : ¬ (1 + (lwHelloWorld N.1 : Int) < 0) := by omega
        simp [d1, d2]

end Go.Proofs.Ytjcgnlpimefhpaa
