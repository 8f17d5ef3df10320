/- Plain laws of packets and hops: what is in order. -/
import Derived.Test.YtjcgnlpimefhpaaVT0
namespace Go.Proofs.Ytjcgnlpimefhpaa
open Go.RowKit
set_option maxRecDepth 100000
set_option linter.unusedVariables false
set_option linter.unusedSimpArgs false
theorem fragOk_eq (p : FragPacket) : F79 p = F73 p := by
  unfold F79 F73 F159
  have e : decide (p.Off + (p.Data.length : Int) > 128) = decide ((p.Data.length : Int) > 128 - p.Off) := by
    rw [decide_eq_decide]; omega
  rw [e]
  generalize decide (0 ≤ p.Src ∧ p.Src ≤ 65535) = b1
  generalize decide (0 ≤ p.Dst ∧ p.Dst ≤ 65535) = b2
  generalize decide (1 ≤ p.Kind ∧ p.Kind ≤ 7) = b3
  generalize decide (0 ≤ p.Id ∧ p.Id ≤ 255) = b4
  generalize decide (1 ≤ p.Hops ∧ p.Hops ≤ 64) = b5
  generalize decide (0 ≤ p.Off ∧ p.Off ≤ 128) = b6
  generalize decide ((p.Data.length : Int) > 128 - p.Off) = b7
  cases b1
  · rfl
  cases b2
  · rfl
  cases b3
  · rfl
  cases b4
  · rfl
  cases b5
  · rfl
  cases b6
  · rfl
  cases (p.Off.tmod 4 != 0)
  · cases b7
    · rfl
    · rfl
  · rfl
theorem fragOkS_T (p : FragPacket) (h : F73 p = true) : 0 ≤ p.Off ∧ p.Off ≤ 128 ∧ p.Data.length ≤ 128 := by
  unfold F73 at h
  simp only [Bool.cond_true_left, Bool.cond_false_left, Bool.cond_true_right, Bool.cond_false_right, Bool.and_eq_true, Bool.not_or, Bool.not_not, decide_eq_true_eq, Bool.not_eq_true', decide_eq_false_iff_not] at h
  omega
theorem fragOk_T (p : FragPacket) (h : F79 p = true) : 0 ≤ p.Off ∧ p.Off ≤ 128 ∧ p.Data.length ≤ 128 := fragOkS_T p (fragOk_eq p ▸ h)
/-- a hop is out of order -/
def badHop (hops : List FibHop) (k : Nat) : Bool :=
  bif !(F153 (hops.getD k default)) then true else bif decide (0 < k) then !(F154 (hops.getD (k - 1) default) (hops.getD k default)) else false
theorem hopsOkS_eq (hops : List FibHop) : F74 hops = (decide (1 ≤ (hops.length : Int) ∧ (hops.length : Int) ≤ 4) && (first (badHop hops) hops.length).isNone) := by
  unfold F74
  rw [allB (badHop hops) hops.length _ (fun k hk => by simp only [F74_s0, ltD hk, cond_true, nn, toNat_pred, pos_cast]; rfl) (by simp [F74_s0])]
  cases decide (1 ≤ (hops.length : Int) ∧ (hops.length : Int) ≤ 4)
  · rfl
  · simp
theorem hopsOk_eq (hops : List FibHop) : F80 hops = F74 hops := by
  rw [hopsOkS_eq]
  unfold F80
  rw [allB (badHop hops) hops.length _ (fun k hk => by simp only [F80_s0, ltD hk, cond_true, nn, toNat_pred, pos_cast]; rfl) (by simp [F80_s0])]
  exact Bool.and_comm _ _
theorem hopsOkS_T (hops : List FibHop) (h : F74 hops = true) : 1 ≤ hops.length ∧ hops.length ≤ 4 := by
  rw [hopsOkS_eq] at h
  simp only [Bool.and_eq_true, decide_eq_true_eq] at h
  omega
theorem hopsOk_T (hops : List FibHop) (h : F80 hops = true) : 1 ≤ hops.length ∧ hops.length ≤ 4 := hopsOkS_T hops (hopsOk_eq hops ▸ h)
theorem hops_id (hops : List FibHop) (h : F80 hops = true) : F80 hops = true := h
theorem hopsS_id (hops : List FibHop) (h : F74 hops = true) : F74 hops = true := h

end Go.Proofs.Ytjcgnlpimefhpaa
