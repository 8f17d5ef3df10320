/- Plain laws of LabWay. -/
import Derived.Test.YtjefeigdapcleaaGreatVW2
namespace Go.Proofs.YtjefeigdapcleaaGreat
open Go.RowKit
set_option maxRecDepth 100000
set_option linter.unusedVariables false
set_option linter.unusedSimpArgs false
theorem search_break {τ ρ : Type} {step : τ → Lp τ ρ} (emb : Nat → τ) (p : Nat → Bool) {n k0 : Nat} (h : first p n = some k0) (hs : ∀ k, k < n → p k = false → step (emb k) = .next (emb (k + 1))) (x : τ) (hd : step (emb k0) = .done x) : ∀ (m k : Nat), k + m = k0 → ∀ M, m < M → runL step M (emb k) = .done x
  | 0, k, hk, M, hM => by
    obtain ⟨M, rfl⟩ : ∃ M', M = M' + 1 := ⟨M - 1, by omega⟩
    obtain rfl : k = k0 := by omega
    simp only [runL, hd]
  | m + 1, k, hk, M, hM => by
    obtain ⟨M, rfl⟩ : ∃ M', M = M' + 1 := ⟨M - 1, by omega⟩
    obtain ⟨h1, h2, h3⟩ := first_some.1 h
    simp only [runL, hs k (by omega) (h3 k (by omega))]
    exact search_break emb p h hs x hd m (k + 1) (by omega) M (by omega)
/-- the boxes behind one, on a way of so many steps -/
def wayGo (n : LabNet) (f : List Int) (w : Int) : Nat → Int → List Int
  | 0, _ => []
  | m + 1, x => nextOf n f x w :: wayGo n f w m (nextOf n f x w)
theorem wayGo_len (n : LabNet) (f : List Int) (w : Int) : ∀ (m : Nat) (x : Int), (wayGo n f w m x).length = m
  | 0, _ => rfl
  | m + 1, x => by simp only [wayGo, List.length_cons, wayGo_len n f w m]
/-- what LabWay answers in a net in order, of boxes that are -/
def wayOf (n : LabNet) (a b w : Int) : List Int := bif decide ((F71 n b w).getD (Int.toNat a) default < 0) then [] else a :: wayGo n (F71 n b w) w (Int.toNat ((F71 n b w).getD (Int.toNat a) default)) a
theorem specWay_go (n : LabNet) (a b w : Int) : ∀ (m : Nat) (out : List Int) (x : Int), (runL (F32_s0 n a b w) (m + 1) (out, x, (m : Int))).fin (fun r => r) (fun s => s.1) = out ++ wayGo n (F71 n b w) w m x
  | 0, out, x => by simp [runL, F32_s0, Lp.fin, wayGo]
  | m + 1, out, x => by
    have hc : decide (((m + 1 : Nat) : Int) > 0) = true := decide_eq_true (by omega)
    rw [runL]
    simp only [F32_s0, hc, cond_true]
    have e : ((m + 1 : Nat) : Int) - 1 = (m : Int) := by omega
    rw [e]
    refine (specWay_go n a b w m _ _).trans ?_
    simp [wayGo]
theorem specWay_eq (n : LabNet) (a b w : Int) : F32 n a b w = wayOf n a b w := by
  unfold F32 wayOf
  by_cases h : (F71 n b w).getD (Int.toNat a) default < 0
  · rw [decide_eq_true h]; rfl
  · rw [decide_eq_false h]
    simp only [cond_false]
    have e : (F71 n b w).getD (Int.toNat a) default = ((Int.toNat ((F71 n b w).getD (Int.toNat a) default) : Nat) : Int) := by omega
    have h2 := specWay_go n a b w (Int.toNat ((F71 n b w).getD (Int.toNat a) default)) [a] a
    rw [← e] at h2
    exact h2
theorem implWay_next {n : LabNet} (hf : FrameOk n) (a b w : Int) (hb0 : 0 ≤ b) (hb1 : b < (n.Boxes.length : Int)) (way : List Int) {x : Int} (h0 : 0 ≤ x) (h1 : x < (n.Boxes.length : Int)) (hd : 0 < (F71 n b w).getD (Int.toNat x) default) :
    F79_j2 n a b w way x = .done (nextOf n (F71 n b w) x w) := by
  have hD := far_isDist n b w hf hb0 hb1
  obtain ⟨n1, n2, n3, n4, n5⟩ := nextOf_ok hD hf.b8 h0 h1 hd
  unfold F79_j2
  rw [n0, hD.ln]
  have hfirst : first (fun k => nextB n (F71 n b w) w x (k : Int)) n.Boxes.length = some (Int.toNat (nextOf n (F71 n b w) x w)) :=
    first_some.2 ⟨by omega, by show nextB _ _ _ _ _ = true; rw [Int.toNat_of_nonneg n1]; exact n4, fun j hj => n5 j (by omega)⟩
  have := search_break (step := F79_s1 n a b w way x) (fun k => (x, (k : Int))) _ hfirst (fun k hk hp => by
      unfold nextB at hp
      simp only [F79_s1, hD.ln, ltD hk, cond_true, hp, cond_false]
      rfl) (nextOf n (F71 n b w) x w, nextOf n (F71 n b w) x w) (by
      have hp := n4
      unfold nextB at hp
      have hc : decide (nextOf n (F71 n b w) x w < ((F71 n b w).length : Int)) = true := decide_eq_true (by rw [hD.ln]; omega)
      simp only [F79_s1, Int.toNat_of_nonneg n1, hc, cond_true, hp]) (Int.toNat (nextOf n (F71 n b w) x w)) 0 (by omega) (n.Boxes.length + 1) (by omega)
  have this : runL (F79_s1 n a b w way x) (n.Boxes.length + 1) (x, 0) = _ := this
  rw [this]; rfl
theorem implWay_go {n : LabNet} (hf : FrameOk n) (a b w : Int) (hb0 : 0 ≤ b) (hb1 : b < (n.Boxes.length : Int)) : ∀ (m : Nat) (way : List Int) (x : Int), 0 ≤ x → x < (n.Boxes.length : Int) → (F71 n b w).getD (Int.toNat x) default = (m : Int) →
    (runL (F79_s0 n a b w) (m + 1) (way, x)).fin (fun r => r) (fun s => s.1) = way ++ wayGo n (F71 n b w) w m x
  | 0, way, x, h0, h1, hd => by
    have hD := far_isDist n b w hf hb0 hb1
    have := hD.zero (Int.toNat x) (by omega) hd
    have hx : (x != b) = false := by
      have : x = b := by omega
      simp [this]
    simp [runL, F79_s0, hx, Lp.fin, wayGo]
  | m + 1, way, x, h0, h1, hd => by
    have hD := far_isDist n b w hf hb0 hb1
    have hx : (x != b) = true := by
      have : x ≠ b := fun e => by rw [e, hD.b0] at hd; omega
      simp [this]
    obtain ⟨n1, n2, n3, _⟩ := nextOf_ok hD hf.b8 h0 h1 (by omega)
    rw [runL]
    simp only [F79_s0, hx, cond_true, implWay_next hf a b w hb0 hb1 way h0 h1 (by omega), Lp.fin]
    refine (implWay_go hf a b w hb0 hb1 m _ _ n1 n2 (by rw [n3, hd]; omega)).trans ?_
    simp [wayGo]
def labWay (n : LabNet) (a b w : Int) : List Int := bif netB n && (decide (0 ≤ a ∧ a ≤ (n.Boxes.length : Int) - 1) && decide (0 ≤ b ∧ b ≤ (n.Boxes.length : Int) - 1)) then wayOf n a b w else []
theorem as95 (n : LabNet) (a b w : Int) : F95 n a b w = labWay n a b w := by
  unfold F95 labWay
  rw [specWay_eq]
  cases netB n
  · rfl
  · cases decide (0 ≤ a ∧ a ≤ (n.Boxes.length : Int) - 1)
    · rfl
    · cases decide (0 ≤ b ∧ b ≤ (n.Boxes.length : Int) - 1) <;> rfl
theorem as79 (n : LabNet) (a b w : Int) : F79 n a b w = labWay n a b w := by
  unfold F79 labWay
  cases hn : netB n
  · rfl
  · have hf := (netB_T n hn).frame
    by_cases ha : 0 ≤ a ∧ a ≤ (n.Boxes.length : Int) - 1
    · by_cases hb : 0 ≤ b ∧ b ≤ (n.Boxes.length : Int) - 1
      · rw [decide_eq_true ha, decide_eq_true hb]
        simp only [Bool.not_true, cond_false, Bool.and_self, cond_true]
        unfold wayOf
        by_cases h : (F71 n b w).getD (Int.toNat a) default < 0
        · rw [decide_eq_true h]; rfl
        · rw [decide_eq_false h]
          simp only [cond_false]
          exact implWay_go hf a b w hb.1 (by omega) _ [a] a ha.1 (by omega) (by omega)
      · rw [decide_eq_true ha, decide_eq_false hb]; rfl
    · rw [decide_eq_false ha]; rfl
theorem as32 (n : LabNet) (a b w : Int) : F32 n a b w = wayOf n a b w := specWay_eq n a b w
theorem wayOf_len {n : LabNet} (hf : FrameOk n) {a b : Int} (w : Int) (ha0 : 0 ≤ a) (ha1 : a < (n.Boxes.length : Int)) (hb0 : 0 ≤ b) (hb1 : b < (n.Boxes.length : Int)) : (wayOf n a b w).length ≤ n.Boxes.length := by
  have hD := far_isDist n b w hf hb0 hb1
  unfold wayOf
  by_cases h : (F71 n b w).getD (Int.toNat a) default < 0
  · rw [decide_eq_true h]; exact Nat.zero_le _
  · rw [decide_eq_false h]
    simp only [cond_false, List.length_cons, wayGo_len]
    have := (hD.lt ha0 ha1).2
    omega
theorem labWay_len (n : LabNet) (a b w : Int) : (labWay n a b w).length ≤ 8 := by
  unfold labWay
  cases hn : netB n
  · exact Nat.zero_le _
  · have hf := (netB_T n hn).frame
    by_cases ha : 0 ≤ a ∧ a ≤ (n.Boxes.length : Int) - 1
    · by_cases hb : 0 ≤ b ∧ b ≤ (n.Boxes.length : Int) - 1
      · rw [decide_eq_true ha, decide_eq_true hb]
        have := wayOf_len hf w ha.1 (by omega : a < _) hb.1 (by omega : b < _)
        have := hf.b8
        simp only [Bool.and_self, cond_true]; omega
      · rw [decide_eq_true ha, decide_eq_false hb]; exact Nat.zero_le _
    · rw [decide_eq_false ha]; exact Nat.zero_le _
end Go.Proofs.YtjefeigdapcleaaGreat
