/- Plain law of LabTear. -/
import Derived.Test.YtjefeigdapcleaaVTL
namespace Go.Proofs.Ytjefeigdapcleaa
open Go.RowKit
set_option maxRecDepth 100000
set_option linter.unusedVariables false
set_option linter.unusedSimpArgs false
/-- a search that says yes -/
theorem anyLoop {α τ : Type} [Inhabited α] (p : α → Bool) (xs : List α) (step : Int → Lp Int Bool) (hs : ∀ k : Nat, k < xs.length → step (k : Int) = bif p (xs.getD k default) then .ret true else .next ((k : Int) + 1)) (he : step (xs.length : Int) = .done (xs.length : Int)) (f : Bool → τ) (g : Int → τ) :
    (runL step ((Int.toNat ((xs.length : Int) - 0)) + 1) 0).fin f g = bif xs.any p then f true else g xs.length := by
  rw [search (fun k => p (xs.getD k default)) (fun _ => true) xs.length step hs he, ← any_idx]
  unfold idxI
  cases first (fun k => p (xs.getD k default)) xs.length with
  | none => rfl
  | some k => rw [show decide (oix (some k) ≥ 0) = true from decide_eq_true (by simp only [oix]; omega)]; rfl
theorem comes_eq (n : LabNet) (box label : Int) : F98 n box label = F101 n box label := by
  unfold F98 F101
  rw [anyLoop (fun x0 => F145 x0 box label) n.Boxes _ (fun k hk => by
    simp only [F98_s0, ltD hk, cond_true, nn]
    rw [anyLoop (fun x0 => F147 x0 box label) _ _ (fun j hj => by
      simp only [F98_s1, nn, ltD hj, cond_true]; rfl) (by simp [F98_s1])]
    rfl) (by simp [F98_s0])]
  cases List.any _ _ <;> rfl
theorem guarding_eq (n : LabNet) (box label : Int) : F99 n box label = F102 n box label := by
  unfold F99 F102
  rw [anyLoop (fun x0 => F148 x0 box label) n.Boxes _ (fun k hk => by
    simp only [F99_s0, ltD hk, cond_true, nn]
    rw [anyLoop (fun x0 => F150 x0 box label) _ _ (fun j hj => by
      simp only [F99_s1, nn, ltD hj, cond_true]; rfl) (by simp [F99_s1])]
    rfl) (by simp [F99_s0])]
  cases List.any _ _ <;> rfl
theorem tear_eq (n : LabNet) (box label : Int) : F51 n box label = F52 n box label ∧ ((F52 n box label).1 = ⟨[], []⟩ ∨ (F52 n box label).1 = n ∨ ∃ l xs, TearI n l xs ∧ (F52 n box label).1 = ⟨n.Links, xs⟩) := by
  unfold F51 F52
  cases hb : netB n
  · exact ⟨rfl, .inl rfl⟩
  simp only [Bool.not_true, cond_false]
  by_cases hr : 0 ≤ box ∧ box ≤ (n.Boxes.length : Int) - 1
  rotate_left
  · have : labPath n box label = [] := by unfold labPath; rw [decide_eq_false hr, Bool.and_false]; rfl
    rw [this, decide_eq_false hr]; exact ⟨rfl, .inr (.inl rfl)⟩
  rw [decide_eq_true hr]
  have hN := netB_T n hb
  have hlp : labPath n box label = (pathRes (pathFrom n n.Boxes.length box label)).1 := by unfold labPath; rw [hb, decide_eq_true hr]; rfl
  cases e : pathFrom n n.Boxes.length box label with
  | none => rw [hlp, e]; exact ⟨rfl, .inr (.inl rfl)⟩
  | some l =>
    have hl : labPath n box label = l.map (·.1) := by rw [hlp, e]; rfl
    have hne := (path_step _ _ _ _ e).1
    have h0 : ¬ ((labPath n box label).length : Int) = 0 := by rw [hl, List.length_map]; omega
    rw [show (((labPath n box label).length : Int) == 0) = false from by simpa using h0, comes_eq]
    simp only [pathRes, Bool.not_true, cond_false]
    cases F101 n box label
    rotate_left
    · exact ⟨rfl, .inr (.inl rfl)⟩
    simp only [cond_false]
    let Gd : Nat → Bool := fun k => F102 n (l.getD k default).1 (l.getD k default).2
    have hlen : (l.map (·.1)).length = l.length := List.length_map _
    have hi0 := fun (g : Int → LabNet × Int) => search (τ := LabNet × Int) Gd (fun _ => ((n, 5) : LabNet × Int)) (l.map (·.1)).length (F52_s0 n box label) (fun k hk => by
      have hk' : k < l.length := by rw [← hlen]; exact hk
      simp only [F52_s0, e, pathRes, ltD hk, cond_true, nn, Gd, getD_map1 _ _ hk']) (by simp [F52_s0, e, pathRes]) (fun r => r) g
    have hi1 := runL_rule (step := F52_s1 n box label) (fun (k : Nat) (s : List LabBox) => ((k : Int), s)) l.length (fun k s => TearI n (l.take k) s) (fun _ => False)
      (fun k s hk hI => by
        refine .inl ⟨_, by simp only [F52_s1, e, pathRes, hlen, ltD hk, cond_true, nn, getD_map1 _ _ hk]; rfl, ?_⟩
        have hx := pathFrom_all hN _ _ _ _ hr.1 (by omega) e _ (getD_mem l hk)
        rw [show l.take (k + 1) = l.take k ++ [l.getD k default] from by rw [List.take_add_one, List.getElem?_eq_getElem hk, getD_lt l hk]; rfl]
        refine hI.next _ _ (by omega) ?_
        rw [hI.2 _ (by omega)]
        congr 1
        refine List.filter_congr fun r _ => ?_
        simp only [F104, nn, getD_map1 _ _ hk, beqD])
      (fun s _ => by simp [F52_s1, e, pathRes]) l.length 0 n.Boxes (by omega) ⟨rfl, fun k _ => (tearBox_nil n k).symm⟩ (l.length + 1) (Nat.lt_succ_self _)
    have hs := runL_rule (step := F51_s0 n box label) (fun (k : Nat) (s : Int × List LabBox) => (s.1, (k : Int), s.2)) l.length (fun k s => TearS n box label s.1 (k : Int) s.2 ∧ ∀ j, j < k → Gd j = false) (fun r => r = (n, 5) ∧ ∃ j, j < l.length ∧ Gd j = true)
      (fun k s hk ⟨hI, hG⟩ => by
        have hkl : (k : Int) < ((labPath n box label).length : Int) := by rw [hl, hlen]; omega
        obtain ⟨net, _, _, _, l', e1, e2, e3, e4⟩ := id hI
        have el : l' = l := by rw [e] at e2; exact (Option.some.inj e2).symm
        subst el
        have ea := e4 (by omega)
        simp only [nn] at ea
        have ep : (labPath n box label).getD k default = (l'.getD k default).1 := by rw [hl]; exact getD_map1 _ _ hk
        cases hg : Gd k with
        | true => exact .inr ⟨(n, 5), by simp only [F51_s0, decide_eq_true hkl, cond_true, nn, guarding_eq, ep, ea]; rw [show F102 n (l'.getD k default).1 (l'.getD k default).2 = true from hg]; rfl, rfl, k, hk, hg⟩
        | false =>
          refine .inl ⟨(_, _), ?_, ⟨TearS.next hI hkl, fun j hj => ?_⟩⟩
          · simp only [F51_s0, decide_eq_true hkl, cond_true, nn, guarding_eq, ep]
            rw [show F102 n (l'.getD k default).1 s.1 = false from by rw [ea]; exact hg]
            rfl
          · by_cases hjk : j < k
            · exact hG j hjk
            · have : j = k := by omega
              rw [this]; exact hg)
      (fun s _ => by simp [F51_s0, hl]) l.length 0 (label, n.Boxes) (by omega) ⟨TearS.zero h0, fun j hj => by omega⟩ (l.length + 1) (Nat.lt_succ_self _)
    rw [hi0, hlen]
    have hn : Int.toNat (((labPath n box label).length : Int) - 0) + 1 = l.length + 1 := by rw [hl, hlen]; omega
    have hn2 : Int.toNat ((l.length : Int) - 0) + 1 = l.length + 1 := by omega
    unfold F51_j0
    rw [hn]
    rcases hs with ⟨⟨a, xs⟩, h1, h2, h3⟩ | ⟨r, h1, hr', j, hj, hg⟩
    · rw [first_none.2 h3]
      rw [show ((label, (0 : Int), n.Boxes) : Int × Int × List LabBox) = (label, ((0 : Nat) : Int), n.Boxes) from rfl, h1]
      rcases hi1 with ⟨ys, g1, g2⟩ | ⟨_, _, hf⟩
      · simp only [hn2]
        rw [show ((0 : Int), n.Boxes) = (((0 : Nat) : Int), n.Boxes) from rfl, g1]
        obtain ⟨net, _, _, _, l', e1, e2, e3, e4⟩ := h2
        have el : l' = l := by rw [e] at e2; exact (Option.some.inj e2).symm
        subst el
        have := TearI.uniq e3 g2
        simp only at this
        subst this
        exact ⟨rfl, .inr (.inr ⟨_, _, g2, rfl⟩)⟩
      · exact hf.elim
    · rw [show ((label, (0 : Int), n.Boxes) : Int × Int × List LabBox) = (label, ((0 : Nat) : Int), n.Boxes) from rfl, h1, hr']
      cases e3 : first Gd l.length with
      | none => rw [first_none.1 e3 j hj] at hg; cases hg
      | some k => exact ⟨rfl, .inr (.inl rfl)⟩
theorem lwNet_small {n : LabNet} (h1 : n.Links.length ≤ 14) (h2 : n.Boxes.length ≤ 8) (h3 : ∀ k : Nat, (n.Boxes.getD k default).Rows.length ≤ 60 ∧ (n.Boxes.getD k default).Guards.length ≤ 60) : lwLabNet n ≤ 10000 := by
  unfold lwLabNet
  have h1 : sumL lvLabLink n.Links ≤ n.Links.length * 2 := sumL_le _ _ _ fun x _ => Nat.le_refl _
  have h2 : sumL lvLabBox n.Boxes ≤ n.Boxes.length * 1000 := sumL_le _ _ _ fun x hx => by
    obtain ⟨i, hi, rfl⟩ := mem_getD hx
    have a := h3 i
    have c : sumL lvLabRow (n.Boxes.getD i default).Rows ≤ (n.Boxes.getD i default).Rows.length * 3 := sumL_le _ _ _ fun x _ => Nat.le_refl _
    have d : sumL lvLabVia (n.Boxes.getD i default).Guards ≤ (n.Boxes.getD i default).Guards.length * 3 := sumL_le _ _ _ fun x _ => Nat.le_refl _
    unfold lvLabBox
    omega
  omega
theorem tear_small (n : LabNet) (box label : Int) (hn : lwLabNet n ≤ 7000000000000000000) : lwLabNet (F52 n box label).1 ≤ 7000000000000000000 := by
  cases hb : netB n with
  | false => unfold F52; rw [hb]; exact Nat.zero_le _
  | true =>
    have hN := netB_T n hb
    rcases (tear_eq n box label).2 with h | h | ⟨l, xs, h1, h⟩
    · rw [h]; exact Nat.zero_le _
    · rw [h]; exact hn
    · rw [h]
      have h8 := hN.frame.b8
      have hx := h1.1
      have := lwNet_small (n := ⟨n.Links, xs⟩) hN.frame.l14 (by show xs.length ≤ 8; omega) (h1.bound hN)
      omega
theorem plain_10 (n : LabNet) (b l : Int) : F10 n b l = true := by
  unfold F10
  by_cases hs : F27 n 1048576 < 0
  · rw [decide_eq_true hs]; rfl
  · have hl := szNet hs
    have ht := tear_small n b l (by omega)
    obtain ⟨m1, m2⟩ := mk25 (F52 n b l).1 1 (by omega) (by omega)
    have m3 := (mk25 n 1 (by omega) (by omega)).1
    rw [(tear_eq n b l).1, m1, m2, m3, decide_eq_false hs]
    have d1 : ¬ (1 + (lwLabNet (F52 n b l).1 : Int) < 0) := by omega
    have d2 : ¬ (1 + (lwLabNet n : Int) < 0) := by omega
    simp [d1, d2]
end Go.Proofs.Ytjefeigdapcleaa
