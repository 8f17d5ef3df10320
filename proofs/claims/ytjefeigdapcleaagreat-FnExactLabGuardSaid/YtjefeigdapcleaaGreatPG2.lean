/- LabGuard, in plain. -/
import Derived.Test.YtjefeigdapcleaaGreatVG
namespace Go.Proofs.YtjefeigdapcleaaGreat
open Go.RowKit
set_option maxRecDepth 100000
set_option linter.unusedVariables false
set_option linter.unusedSimpArgs false
theorem as38 (n : LabNet) (a b : Int) (h : NetOk n) : F38 n a b = guardR n a b := by
  unfold F38 guardR
  by_cases hl : linkOf n a b < 0
  · rw [decide_eq_true hl]; rfl
  rw [decide_eq_false hl]
  simp only [cond_false]
  cases hg : guardIx (n.Boxes.getD (Int.toNat a) default) b with
  | some k =>
    have : (guardP (n.Boxes.getD (Int.toNat a) default) b).2 = true := by unfold guardP; rw [hg]
    rw [this]; rfl
  | none =>
    have hg2 : (guardP (n.Boxes.getD (Int.toNat a) default) b).2 = false := guardP_none.2 hg
    rw [hg2, beqD]
    simp only [cond_false, Option.isSome_none]
    by_cases hw : (wayP n a b).length = 0
    · have : ((labWay n a b (linkOf n a b)).length : Int) = 0 := by rw [labWay_way h hl]; omega
      rw [decide_eq_true this, decide_eq_true hw]; rfl
    have hw2 : ¬ ((labWay n a b (linkOf n a b)).length : Int) = 0 := by rw [labWay_way h hl]; omega
    rw [decide_eq_false hw2, decide_eq_false hw]
    simp only [cond_false]
    cases hb : labsB n (wayP n a b) with
    | false =>
      have e : layR n (labWay n a b (linkOf n a b)) = (0, 3, n) := by rw [labWay_way h hl, layR_way h hl hw, hb]; rfl
      rw [e]; rfl
    | true =>
      have h4 : (layR n (labWay n a b (linkOf n a b))).2.1 = 0 := by rw [labWay_way h hl, layR_way h hl hw, hb]; rfl
      obtain ⟨hP, e, ev⟩ := guard_vc h hl hg2 hw2 h4
      rw [ev]
      have hs := hP.sort.2
      unfold F81
      rw [e]
      simp only
      rw [hs]
      rfl
def labGuard (n : LabNet) (a b : Int) : LabNet × Int := bif netB n then ((guardR n a b).2, (guardR n a b).1) else (⟨[], []⟩, 1)
theorem as18 (n : LabNet) (a b : Int) : F18 n a b = labGuard n a b := by
  unfold F18 labGuard
  cases hb : netB n
  · rfl
  · simp only [Bool.not_true, cond_false, cond_true, as38 n a b (netB_T n hb)]
theorem as19 (n : LabNet) (a b : Int) : F19 n a b = labGuard n a b := by
  unfold F19 labGuard guardR
  cases hn : netB n
  · rfl
  have h := netB_T n hn
  simp only [Bool.not_true, cond_false, cond_true]
  by_cases hl : linkOf n a b < 0
  · rw [decide_eq_true hl]; rfl
  rw [decide_eq_false hl]
  simp only [cond_false]
  cases hg : guardIx (n.Boxes.getD (Int.toNat a) default) b with
  | some k =>
    rw [show decide (oix (some k) ≥ 0) = true from decide_eq_true (by simp only [oix]; omega)]; rfl
  | none =>
    rw [show decide (oix (none : Option Nat) ≥ 0) = false from rfl, beqD]
    simp only [cond_false, Option.isSome_none]
    by_cases hw : (wayP n a b).length = 0
    · have : ((wayOf n a b (linkOf n a b)).length : Int) = 0 := by unfold wayP at hw; omega
      rw [decide_eq_true this, decide_eq_true hw]; rfl
    have hw2 : ¬ ((wayOf n a b (linkOf n a b)).length : Int) = 0 := by unfold wayP at hw; omega
    rw [decide_eq_false hw2, decide_eq_false hw]
    simp only [cond_false]
    cases hb : labsB n (wayP n a b) with
    | false =>
      have e : labLay n (wayOf n a b (linkOf n a b)) = (n, 0, 3) := by
        rw [labLay_way h]
        have e2 : layR n (wayOf n a b (linkOf n a b)) = _ := layR_way h hl hw
        rw [e2, hb]; rfl
      rw [e]; rfl
    | true =>
      have h4 : (labLay n (wayOf n a b (linkOf n a b))).2.2 = 0 := by
        rw [labLay_way h]
        have e2 : layR n (wayOf n a b (linkOf n a b)) = _ := layR_way h hl hw
        rw [e2, hb]; rfl
      have hg2 : ¬ oix (guardIx (n.Boxes.getD (Int.toNat a) default) b) ≥ 0 := by rw [hg]; decide
      have e := guard_vcn h hl hg2 hw2 h4
      rw [h4, labLay_links h, e]
      rfl
theorem labGuard_way {n : LabNet} (h : NetOk n) (a b : Int) : labGuard n a b = ((guardR n a b).2, (guardR n a b).1) := by
  unfold labGuard; rw [netB_ok.2 h]; rfl
theorem labGuard_net {n : LabNet} (h : NetOk n) (a b : Int) : NetOk (labGuard n a b).1 := by
  rw [labGuard_way h]; exact guardR_net h a b
theorem NetOk.bounds {n : LabNet} (h : NetOk n) : n.Links.length ≤ 1000000000 ∧ n.Boxes.length ≤ 1000000000 ∧ ∀ k : Nat, (n.Boxes.getD k default).Rows.length ≤ 1000000000 ∧ (n.Boxes.getD k default).Guards.length ≤ 1000000000 := by
  have h14 := h.frame.l14
  obtain ⟨h1, h2⟩ := net_bounds h rfl
  exact ⟨by omega, h1, h2⟩
end Go.Proofs.YtjefeigdapcleaaGreat
