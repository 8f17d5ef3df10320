/- Plain law of the row of HelloUse. -/
import Derived.Test.YtjcgnlpimefhpaaVHN
namespace Go.Proofs.Ytjcgnlpimefhpaa
open Go.RowKit
set_option maxRecDepth 100000
set_option linter.unusedVariables false
set_option linter.unusedSimpArgs false
theorem new_eq (name peer : Int) (keys : List HelloKey) (boot : Int) (want : List HelloEntry) : F30 name peer keys boot want = F27 name peer keys boot want := by
  unfold F30 F27
  rw [endOk_eq]
theorem entries_loop {ρ : Type} (a : List HelloRoute) (step : List HelloEntry × Int → Lp (List HelloEntry × Int) ρ)
    (hs : ∀ (k : Nat) xs, k < a.length → step (xs, (k : Int)) = .next (xs ++ [(a.getD k default).Entry], (k : Int) + 1)) (he : ∀ xs, step (xs, (a.length : Int)) = .done (xs, (a.length : Int))) :
    runL step ((Int.toNat ((a.length : Int) - 0)) + 1) ([], 0) = .done (a.map (fun r => r.Entry), (a.length : Int)) := by
  have h := runL_rule (step := step) (fun (k : Nat) (s : List HelloEntry) => (s, (k : Int))) a.length (fun k s => s = (a.take k).map (fun r => r.Entry)) (fun _ => False)
    (fun k s hk hI => .inl ⟨s ++ [(a.getD k default).Entry], by rw [hs k s hk]; rfl, by rw [hI, take_next hk, List.map_append]; rfl⟩)
    (fun s _ => he s) a.length 0 [] (by omega) rfl (Int.toNat ((a.length : Int) - 0) + 1) (by omega)
  rcases h with ⟨s, h, hI⟩ | ⟨_, _, h⟩
  · have h' : runL step (Int.toNat ((a.length : Int) - 0) + 1) ([], 0) = _ := h
    rw [h', hI, List.take_length]
  · exact h.elim
theorem useS_eq (e : HelloEnd) : F39 e = bif F90 e then e.Heard.map (fun r => r.Entry) else [] := by
  unfold F39
  rw [entries_loop e.Heard _ (fun k xs hk => by simp only [F39_s0, ltD hk, cond_true, nn]) (fun xs => by simp [F39_s0])]
  cases F90 e <;> rfl
theorem use_eq (e : HelloEnd) : F41 e = F39 e := by
  rw [useS_eq]
  unfold F41 F106
  rw [entries_loop e.Heard _ (fun k xs hk => by simp only [F106_s0, ltD hk, cond_true, nn]) (fun xs => by simp [F106_s0]), endOk_eq]
  cases F90 e <;> rfl
theorem use_len (e : HelloEnd) : (F39 e).length ≤ 16 := by
  rw [useS_eq]
  cases h : F90 e with
  | false => exact Nat.zero_le _
  | true =>
    have := endOkS_T e h
    simp only [cond_true, List.length_map]; omega
theorem sumE (l : List HelloEntry) : sumL lvHelloEntry l ≤ l.length * 4 := sumL_le _ _ _ fun _ _ => Nat.le_refl _
theorem sumK (l : List HelloKey) : sumL lvHelloKey l ≤ l.length * 2 := sumL_le _ _ _ fun _ _ => Nat.le_refl _
theorem sumR (l : List HelloRoute) : sumL lvHelloRoute l ≤ l.length * 5 := sumL_le _ _ _ fun _ _ => Nat.le_refl _
theorem lwEnd_le (e : HelloEnd) : lwHelloEnd e ≤ e.Keys.length * 2 + e.Want.length * 4 + e.Told.length * 4 + e.Heard.length * 5 := by
  have h1 := sumK e.Keys; have h2 := sumE e.Want; have h3 := sumE e.Told; have h4 := sumR e.Heard
  unfold lwHelloEnd
  omega
theorem plain_5 (e : HelloEnd) : F5 e = true := by
  unfold F5
  by_cases hs : F38 e 1048576 < 0
  · rw [decide_eq_true hs]; rfl
  · have hl := (gb38 e 1048576 (by omega) (by omega) (by omega))
    have hw := lwEnd_le e
    have hu := use_len e
    have hz := sumE (F39 e)
    obtain ⟨m1, m2⟩ := mk35 (F39 e) 1 (by omega) (by omega)
    have m3 := (mk36 e 1 (by omega) (by omega)).1
    rw [use_eq, m1, m2, m3, decide_eq_false hs]
    have d1 : ¬ (1 + (sumL lvHelloEntry (F39 e) : Int) < 0) := by omega
    have d2 : ¬ (1 + (lwHelloEnd e : Int) < 0) := by omega
    simp [d1, d2]

end Go.Proofs.Ytjcgnlpimefhpaa
