/- Plain laws of LabPath, LabStep, LabWalk. -/
import Derived.Test.YtjefeigdapcleaaV3
namespace Go.Proofs.Ytjefeigdapcleaa
open Go.RowKit
set_option maxRecDepth 100000
set_option linter.unusedVariables false
set_option linter.unusedSimpArgs false
/-- what the size of a net tells of its leaves -/
theorem szNet {n : LabNet} (h : ¬ F27 n 1048576 < 0) : lwLabNet n ≤ 6000000000000000000 + 2000000000 := by
  obtain ⟨_, h1, h2, h3, h4⟩ := gb27 n 1048576 (by omega) (by omega) (by omega)
  unfold lwLabNet
  have a : sumL lvLabLink n.Links ≤ n.Links.length * 2 := sumL_le _ _ _ fun x _ => Nat.le_refl _
  have b : sumL lvLabBox n.Boxes ≤ n.Boxes.length * 6000000000 := sumL_le _ _ _ fun x hx => by
    obtain ⟨k, hk, rfl⟩ := mem_getD hx
    have c : sumL lvLabRow (n.Boxes.getD k default).Rows ≤ (n.Boxes.getD k default).Rows.length * 3 := sumL_le _ _ _ fun x _ => Nat.le_refl _
    have d : sumL lvLabVia (n.Boxes.getD k default).Guards ≤ (n.Boxes.getD k default).Guards.length * 3 := sumL_le _ _ _ fun x _ => Nat.le_refl _
    have := h3 k; have := h4 k
    unfold lvLabBox
    omega
  omega
theorem sumOne (l : List Int) : sumL (fun _ => 1) l = l.length := by
  induction l with
  | nil => rfl
  | cons x l ih => rw [sumL_cons, ih, List.length_cons]; omega
theorem marksI {l : List Int} (h : l.length ≤ 1000000000000) : (F36 l 1).1 = 1 + (l.length : Int) ∧ F37 (F36 l 1).2 1 = 1 + (l.length : Int) := by
  have := mk36 l 1 (by omega) (by rw [sumOne]; omega)
  rw [sumOne] at this
  exact this
theorem implPath_eq (n : LabNet) (b l : Int) : F34 n b l = labPath n b l := by
  unfold F34 labPath
  cases netB n
  · rfl
  · cases decide (0 ≤ b ∧ b ≤ (n.Boxes.length : Int) - 1) <;> rfl
theorem labPath_len (n : LabNet) (b l : Int) : (labPath n b l).length ≤ 8 := by
  unfold labPath
  cases h : netB n
  · exact Nat.zero_le _
  · cases decide (0 ≤ b ∧ b ≤ (n.Boxes.length : Int) - 1)
    · exact Nat.zero_le _
    · have := (pathRes_len n n.Boxes.length b l).1
      have := netB_8 n h
      simp only [Bool.and_self, cond_true]; omega
theorem plain_6 (n : LabNet) (b l : Int) : F6 n b l = true := by
  unfold F6
  by_cases hs : F27 n 1048576 < 0
  · rw [decide_eq_true hs]; rfl
  · have hl := szNet hs
    have hp := labPath_len n b l
    obtain ⟨m1, m2⟩ := marksI (l := labPath n b l) (by omega)
    have m3 := (mk25 n 1 (by omega) (by omega)).1
    rw [implPath_eq, m1, m2, m3, decide_eq_false hs]
    have d1 : ¬ (1 + ((labPath n b l).length : Int) < 0) := by omega
    have d2 : ¬ (1 + (lwLabNet n : Int) < 0) := by omega
    simp [d1, d2]

/-! ### Steps and walks -/

theorem lwPacket (p : LabPacket) : lwLabPacket p = p.Stack.length := by unfold lwLabPacket; rw [sumOne]; omega
theorem marksP {p : LabPacket} (h : p.Stack.length ≤ 1000000000000) : (F46 p 1).1 = 1 + (p.Stack.length : Int) ∧ F47 (F46 p 1).2 1 = 1 + (p.Stack.length : Int) := by
  have := mk46 p 1 (by omega) (by rw [lwPacket]; omega)
  rw [lwPacket] at this
  exact this
theorem marksIn {n : LabNet} {down : List Int} {p : LabPacket} (h1 : lwLabNet n ≤ 6000000000000000000 + 2000000000) (h2 : down.length ≤ 1000000000000) (h3 : p.Stack.length ≤ 1000000000000) :
    0 ≤ (F46 p (F36 down (F25 n 1).1).1).1 := by
  rw [(mk25 n 1 (by omega) (by omega)).1, (mk36 down _ (by omega) (by rw [sumOne]; omega)).1, sumOne, (mk46 p _ (by omega) (by rw [lwPacket]; omega)).1]
  omega
theorem labStep_eq (n : LabNet) (down : List Int) (p : LabPacket) : F44 n down p = F41 n down p := by
  unfold F44 F41 stepB
  cases netB n
  · rfl
  · cases packB n p <;> rfl
theorem labStep_len (n : LabNet) (down : List Int) (p : LabPacket) : (F41 n down p).1.Stack.length ≤ 8 := by
  unfold F41
  cases h : netB n
  · exact Nat.zero_le _
  · exact stepB_len n down p (netB_T n h)
theorem heldP (p : LabPacket) : (⟨p.Box, (F46 p 1).2.Stack⟩ : LabPacket) = (F46 p 1).2 := rfl
theorem plain_8 (n : LabNet) (down : List Int) (p : LabPacket) : F8 n down p = true := by
  unfold F8
  by_cases hd : (down.length : Int) > 1048576
  · rw [decide_eq_true hd]; rfl
  by_cases hs : F27 n 1048576 < 0
  · rw [decide_eq_false hd, decide_eq_true hs]; rfl
  by_cases hq : F40 p (F27 n 1048576) < 0
  · rw [decide_eq_false hd, decide_eq_false hs, decide_eq_true hq]; rfl
  have hl := szNet hs
  have h0 := (gb27 n 1048576 (by omega) (by omega) (by omega)).1
  have hk := (gb40 p _ (by omega) (by omega) (by omega : 0 ≤ F40 p (F27 n 1048576))).2
  have hp := labStep_len n down p
  obtain ⟨m1, m2⟩ := marksP (p := (F41 n down p).1) (by omega)
  have m3 := marksIn (n := n) (down := down) (p := p) hl (by omega) (by omega)
  rw [labStep_eq, heldP, m1, m2, decide_eq_false hd, decide_eq_false hs, decide_eq_false hq]
  have d1 : ¬ (1 + ((F41 n down p).1.Stack.length : Int) < 0) := by omega
  have d2 : ¬ ((F46 p (F36 down (F25 n 1).1).1).1 < 0) := by omega
  simp [d1, d2]
theorem walkGo {n : LabNet} (h : NetOk n) (down : List Int) (p0 : LabPacket) : ∀ (m : Nat) (i : Int) (p : LabPacket), packB n p = true →
    runL (F54_s0 n down p0) m (i, p.Box, p.Stack) = runL (F53_s0 n down p0) m (i, p.Box, p.Stack) ∧
    (runL (F53_s0 n down p0) m (i, p.Box, p.Stack)).all (fun s => s.2.2.length ≤ 8) (fun r => r.1.Stack.length ≤ 8)
  | 0, i, p, hp => ⟨rfl, by have := (packB_T n p hp).2.2; simp only [runL, Lp.all]; omega⟩
  | m + 1, i, p, hp => by
    have e : stepB n down (⟨p.Box, p.Stack⟩ : LabPacket) = F93 n down p := by unfold stepB; rw [hp]; rfl
    have hl := (packB_T n p hp).2.2
    have e1 : F54_s0 n down p0 (i, p.Box, p.Stack) = F53_s0 n down p0 (i, p.Box, p.Stack) := by
      simp only [F54_s0, F53_s0, e]
      show (bif decide (i < 200) then (bif (F93 n down p).2 == 0 then _ else _) else _) = _
      generalize F93 n down p = q
      cases decide (i < 200)
      · rfl
      · cases h1 : (q.2 == 0)
        · cases h2 : (q.2 == 3)
          · have : (q.2 != 0) = true := by simp [bne, h1]
            simp only [cond_true, cond_false, this]
          · simp only [cond_true, cond_false]
        · have h3 : (q.2 == 3) = false := by have := eq_of_beq h1; simp [this]
          have : (q.2 != 0) = false := by simp [bne, h1]
          simp only [cond_true, cond_false, this, h3]
    simp only [runL]
    rw [e1]
    cases hx : F53_s0 n down p0 (i, p.Box, p.Stack) with
    | done s =>
      refine ⟨rfl, ?_⟩
      simp only [F53_s0, e] at hx
      cases decide (i < 200)
      · revert hx
        cases decide (i < 200) <;> cases ((F93 n down p).2 == 3) <;> cases ((F93 n down p).2 != 0) <;> intro hx <;> cases hx
        all_goals (simp only [Lp.all]; omega)
      · revert hx
        cases decide (i < 200) <;> cases ((F93 n down p).2 == 3) <;> cases ((F93 n down p).2 != 0) <;> intro hx <;> cases hx
        all_goals (simp only [Lp.all]; omega)
    | ret r =>
      refine ⟨rfl, ?_⟩
      simp only [F53_s0, e] at hx
      revert hx
      cases decide (i < 200) <;> cases ((F93 n down p).2 == 3) <;> cases ((F93 n down p).2 != 0) <;> intro hx <;> cases hx
      all_goals (simp only [Lp.all]; omega)
    | next s =>
      have : s = (i + 1, (F93 n down p).1.Box, (F93 n down p).1.Stack) := by
        simp only [F53_s0, e] at hx
        revert hx
        cases decide (i < 200) <;> cases ((F93 n down p).2 == 3) <;> cases ((F93 n down p).2 != 0) <;> intro hx <;> cases hx
        rfl
      subst this
      exact walkGo h down p0 m (i + 1) (F93 n down p).1 (step_pack h down p hp)
theorem labWalk_eq (n : LabNet) (down : List Int) (p : LabPacket) : F54 n down p = F53 n down p ∧ (F53 n down p).1.Stack.length ≤ 8 := by
  unfold F54 F53
  cases hn : netB n
  · exact ⟨rfl, Nat.zero_le _⟩
  · cases hp : packB n p
    · exact ⟨rfl, Nat.zero_le _⟩
    · obtain ⟨h1, h2⟩ := walkGo (netB_T n hn) down p ((Int.toNat (200 - 0)) + 1) 0 p hp
      simp only [Bool.not_true, cond_false]
      rw [h1]
      refine ⟨rfl, ?_⟩
      refine fin_inv (K := fun x : LabPacket × Int × Int => x.1.Stack.length ≤ 8) h2 (fun r hr => hr) (fun s hs => ?_)
      obtain ⟨i, b, st⟩ := s
      simp only
      cases ((st.length : Int) == 0) <;> exact hs
theorem plain_11 (n : LabNet) (down : List Int) (p : LabPacket) : F11 n down p = true := by
  unfold F11
  by_cases hd : (down.length : Int) > 1048576
  · rw [decide_eq_true hd]; rfl
  by_cases hs : F27 n 1048576 < 0
  · rw [decide_eq_false hd, decide_eq_true hs]; rfl
  by_cases hq : F40 p (F27 n 1048576) < 0
  · rw [decide_eq_false hd, decide_eq_false hs, decide_eq_true hq]; rfl
  have hl := szNet hs
  have h0 := (gb27 n 1048576 (by omega) (by omega) (by omega)).1
  have hk := (gb40 p _ (by omega) (by omega) (by omega : 0 ≤ F40 p (F27 n 1048576))).2
  obtain ⟨he, hp⟩ := labWalk_eq n down p
  obtain ⟨m1, m2⟩ := marksP (p := (F53 n down p).1) (by omega)
  have m3 := marksIn (n := n) (down := down) (p := p) hl (by omega) (by omega)
  rw [he, heldP, m1, m2, decide_eq_false hd, decide_eq_false hs, decide_eq_false hq]
  have d1 : ¬ (1 + ((F53 n down p).1.Stack.length : Int) < 0) := by omega
  have d2 : ¬ ((F46 p (F36 down (F25 n 1).1).1).1 < 0) := by omega
  simp [d1, d2]
end Go.Proofs.Ytjefeigdapcleaa
