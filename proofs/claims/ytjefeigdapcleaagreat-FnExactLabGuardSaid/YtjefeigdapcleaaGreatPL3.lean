/- Plain laws of laying: what the loops come to. -/
import Derived.Test.YtjefeigdapcleaaGreatVL2
namespace Go.Proofs.YtjefeigdapcleaaGreat
open Go.RowKit
set_option maxRecDepth 100000
set_option linter.unusedVariables false
set_option linter.unusedSimpArgs false
def labsOf (n : LabNet) (path : List Int) : List Int := path.map (freeOn n)
def labsB (n : LabNet) (path : List Int) : Bool := (labsOf n path).all (fun x => !decide (x = 0))
def labsR (n : LabNet) (path : List Int) : List Int := bif labsB n path then labsOf n path else []
theorem labs_loop {ρ : Type} (n : LabNet) (path : List Int) (r0 : ρ) (step : List Int × Int → Lp (List Int × Int) ρ)
    (hs : ∀ (k : Nat) xs, k < path.length → step (xs, (k : Int)) = bif (freeOn n (path.getD k default) == 0) then .ret r0 else .next (xs ++ [freeOn n (path.getD k default)], (k : Int) + 1)) (he : ∀ xs, step (xs, (path.length : Int)) = .done (xs, (path.length : Int))) :
    runL step ((Int.toNat ((path.length : Int) - 0)) + 1) ([], 0) = bif labsB n path then .done (labsOf n path, (path.length : Int)) else .ret r0 := by
  have h := runL_rule (step := step) (fun (k : Nat) (xs : List Int) => (xs, (k : Int))) path.length (fun k xs => xs = (path.take k).map (freeOn n) ∧ ∀ x ∈ xs, x ≠ 0) (fun r => r = r0 ∧ labsB n path = false)
    (fun k xs hk ⟨h1, h2⟩ => by
      rw [hs k xs hk, beqD]
      by_cases hz : freeOn n (path.getD k default) = 0
      · refine .inr ⟨r0, by rw [decide_eq_true hz]; rfl, rfl, ?_⟩
        unfold labsB
        rw [List.all_eq_false]
        refine ⟨freeOn n (path.getD k default), List.mem_map_of_mem (getD_mem _ hk), by rw [hz]; decide⟩
      · refine .inl ⟨_, by rw [decide_eq_false hz]; rfl, by rw [h1, take_next hk, List.map_append]; rfl, fun x hx => ?_⟩
        rcases List.mem_append.1 hx with hx | hx
        · exact h2 x hx
        · rw [List.mem_singleton.1 hx]; exact hz)
    (fun xs _ => he xs) path.length 0 [] (by omega) ⟨rfl, fun x hx => by cases hx⟩ (path.length + 1) (Nat.lt_succ_self _)
  rw [n0]
  rcases h with ⟨xs, h, h1, h2⟩ | ⟨r, h, rfl, h1⟩
  · rw [List.take_length] at h1
    have hb : labsB n path = true := by
      unfold labsB
      rw [List.all_eq_true]
      intro x hx
      have : x ∈ xs := by rw [h1]; exact hx
      simpa using h2 x this
    rw [hb, cond_true]
    rw [h1] at h
    exact h
  · rw [h1, cond_false]; exact h
theorem as46 (n : LabNet) (path : List Int) : F46 n path = labsR n path := by
  unfold F46 labsR
  rw [labs_loop n path ([] : List Int) _ (fun k xs hk => by simp only [F46_s0, ltD hk, cond_true, nn]; rfl) (fun xs => by simp [F46_s0])]
  cases labsB n path <;> rfl
theorem LayP.of_labs {n : LabNet} {path : List Int} (h : NetOk n) (hp : PathOk n path) (hz : ¬ ((labsR n path).length : Int) = 0) : LayP n path (labsR n path) := by
  unfold labsR at hz ⊢
  cases e : labsB n path with
  | false => rw [e] at hz; exact absurd rfl hz
  | true =>
    refine ⟨h, hp, rfl, fun x hx => ?_⟩
    unfold labsB at e
    have := List.all_eq_true.1 e x hx
    simpa using this
theorem lay_loop {ρ : Type} {n : LabNet} {path labels : List Int} (hp : LayP n path labels) (step : Int × List LabBox → Lp (Int × List LabBox) ρ)
    (hs : ∀ (k : Nat) xs, k < path.length → LayS n path labels (k : Int) xs → step ((k : Int), xs) = .next ((k : Int) + 1, xs.set (Int.toNat (path.getD k default)) ⟨putK (fun x : LabRow => x.In) (xs.getD (Int.toNat (path.getD k default)) default).Rows (rowAt path labels k), (xs.getD (Int.toNat (path.getD k default)) default).Guards⟩))
    (he : ∀ xs, step ((path.length : Int), xs) = .done ((path.length : Int), xs)) :
    runL step ((Int.toNat ((path.length : Int) - 0)) + 1) (0, n.Boxes) = .done ((path.length : Int), layTo n path labels path.length) := by
  have h := runL_rule (step := step) (fun (k : Nat) (xs : List LabBox) => ((k : Int), xs)) path.length (fun k xs => LayS n path labels (k : Int) xs) (fun _ => False)
    (fun k xs hk hI => .inl ⟨_, hs k xs hk hI, by
      have := hI.next (r := rowAt path labels k) (by omega) (by rw [nn])
      rw [nn] at this
      exact this⟩)
    (fun xs _ => he xs) path.length 0 n.Boxes (by omega) (LayS.zero hp) (path.length + 1) (Nat.lt_succ_self _)
  rw [n0]
  rcases h with ⟨xs, h, h1⟩ | ⟨_, _, h⟩
  · have := h1.xs
    rw [nn] at this
    rw [← this]; exact h
  · exact h.elim
theorem as47 (n : LabNet) (path labels : List Int) (hp : LayP n path labels) : F47 n path labels = (⟨n.Links, layTo n path labels path.length⟩ : LabNet) := by
  unfold F47
  rw [lay_loop hp _ (fun k xs hk hI => by
    simp only [F47_s0, ltD hk, cond_true, nn]
    unfold F47_j2 rowAt
    by_cases hx : (k : Int) + 1 < (path.length : Int)
    · rw [decide_eq_true hx]; rfl
    · rw [decide_eq_false hx]; rfl) (fun xs => by simp [F47_s0])]
  rfl
/-- laying a tunnel in a net in order -/
def layR (n : LabNet) (path : List Int) : Int × Int × LabNet :=
  bif pathB n path then (bif labsB n path then ((labsOf n path).getD 0 default, 0, ⟨n.Links, layTo n path (labsOf n path) path.length⟩) else (0, 3, n)) else (0, 2, n)
theorem layP_of {n : LabNet} {path : List Int} (h : NetOk n) (hp : pathB n path = true) (hb : labsB n path = true) : LayP n path (labsOf n path) := by
  refine ⟨h, pathB_ok.1 hp, rfl, fun x hx => ?_⟩
  have := List.all_eq_true.1 hb x hx
  simpa using this
theorem as41 (n : LabNet) (path : List Int) (h : NetOk n) : F41 n path = layR n path := by
  unfold F41 layR
  cases hp : pathB n path
  · rfl
  simp only [Bool.not_true, cond_false, cond_true]
  unfold F41_j0
  rw [labs_loop n path (((0 : Int), (3 : Int), n) : Int × Int × LabNet) _ (fun k xs hk => by simp only [F41_s0, ltD hk, cond_true, nn]; rfl) (fun xs => by simp [F41_s0])]
  cases hb : labsB n path
  · rfl
  simp only [cond_true, Lp.fin]
  have hL := layP_of h hp hb
  rw [lay_loop hL _ (fun k xs hk hI => by
    simp only [F41_s1, ltD hk, cond_true, nn]
    unfold F41_j3
    by_cases hx : (k : Int) + 1 < (path.length : Int)
    · rw [decide_eq_true hx]
      simp only [cond_true, Lp.fin]
      have hr := rowAt_T (path := path) (labels := labsOf n path) (i := (k : Int)) (by omega) hx
      have := (hI.sort (by omega) hr).2
      simp only [nn] at this hr
      unfold F87
      rw [this, hr]
    · rw [decide_eq_false hx]
      simp only [cond_false, Lp.fin]
      have hr := rowAt_F (path := path) (labels := labsOf n path) (i := (k : Int)) (by omega) hx
      have := (hI.sort (by omega) hr).2
      simp only [nn] at this hr
      unfold F87
      rw [this, hr]) (fun xs => by simp [F41_s1])]
  rfl
theorem layR_net {n : LabNet} (h : NetOk n) (path : List Int) : NetOk (layR n path).2.2 := by
  unfold layR
  cases hp : pathB n path
  · exact h
  cases hb : labsB n path
  · exact h
  exact (layP_of h hp hb).netTo _ (Nat.le_refl _)
theorem LayP.bound {n : LabNet} {path labels : List Int} (h : LayP n path labels) : (layTo n path labels path.length).length ≤ 1000000000 ∧ ∀ k : Nat, ((layTo n path labels path.length).getD k default).Rows.length ≤ 1000000000 ∧ ((layTo n path labels path.length).getD k default).Guards.length ≤ 1000000000 := by
  have hn := h.netTo _ (Nat.le_refl _)
  have h8 := hn.frame.b8
  refine ⟨by have : (layTo n path labels path.length).length ≤ 8 := h8; omega, fun k => ?_⟩
  have h1 := NetOk.rows hn k
  have h2 := NetOk.vias hn k
  exact ⟨by have : ((layTo n path labels path.length).getD k default).Rows.length ≤ 60 := h1; omega, by have : ((layTo n path labels path.length).getD k default).Guards.length ≤ 8 := h2; omega⟩
end Go.Proofs.YtjefeigdapcleaaGreat
