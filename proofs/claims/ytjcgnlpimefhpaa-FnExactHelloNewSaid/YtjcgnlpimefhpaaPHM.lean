/- Plain law of the row of HelloNew. -/
import Derived.Test.YtjcgnlpimefhpaaVHM
namespace Go.Proofs.Ytjcgnlpimefhpaa
open Go.RowKit
set_option maxRecDepth 100000
set_option linter.unusedVariables false
set_option linter.unusedSimpArgs false
theorem new_small (name peer : Int) (keys : List HelloKey) (boot : Int) (want : List HelloEntry) (h1 : keys.length ≤ 1000000000) (h2 : want.length ≤ 1000000000) : lwHelloEnd (F27 name peer keys boot want) ≤ 7000000000 := by
  have h := lwEnd_le (F27 name peer keys boot want)
  refine Nat.le_trans h ?_
  unfold F27
  cases (!(F90 (⟨name, peer, keys, boot, want, 0, 0, 0, false, 0, 0, (⟨0, (⟨0, 0, 0, 0⟩ : HelloEntry)⟩ : HelloChange), [], false, 0, false, [], 0⟩ : HelloEnd)))
  · simp only [cond_false, List.length_nil]; omega
  · simp only [cond_true, List.length_nil]; omega
theorem plain_4 (name peer : Int) (keys : List HelloKey) (boot : Int) (want : List HelloEntry) : F4 name peer keys boot want = true := by
  unfold F4
  by_cases hs : F25 keys 1048576 < 0
  · rw [decide_eq_true hs]; rfl
  · have hl := (gb25 keys 1048576 (by omega) (by omega) (by omega))
    by_cases hs2 : F26 want (F25 keys 1048576) < 0
    · rw [decide_eq_false hs, decide_eq_true hs2]; rfl
    · have hl2 := (gb26 want _ (by omega) (by omega) (by omega : 0 ≤ F26 want (F25 keys 1048576)))
      have hn := new_small name peer keys boot want hl.2 hl2.2
      have hk := sumK keys
      have hw := sumE want
      obtain ⟨m1, m2⟩ := mk36 (F27 name peer keys boot want) 1 (by omega) (by omega)
      have m3 := (mk34 keys 1 (by omega) (by omega)).1
      have m4 := (mk35 want (1 + (sumL lvHelloKey keys : Int)) (by omega) (by omega)).1
      generalize hN : F27 name peer keys boot want = N at *
      have m2' : F37 (⟨N.Name, N.Peer, (F36 N 1).2.Keys, N.Boot, (F36 N 1).2.Want, N.Turn, N.PeerBoot, N.PeerTurn, N.Up, N.Left, N.Num, N.Under, (F36 N 1).2.Told, N.All, N.Got, N.Full, (F36 N 1).2.Heard, N.Keep⟩ : HelloEnd) 1 = 1 + lwHelloEnd N := m2
      rw [new_eq, hN, m3, m4, m1, m2', decide_eq_false hs, decide_eq_false hs2]
      have d1 : ¬ (1 + (sumL lvHelloKey keys : Int) + (sumL lvHelloEntry want : Int) < 0) := by omega
      have d2 : ¬ (1 + (lwHelloEnd N : Int) < 0) := by omega
      simp [d1, d2]

end Go.Proofs.Ytjcgnlpimefhpaa
