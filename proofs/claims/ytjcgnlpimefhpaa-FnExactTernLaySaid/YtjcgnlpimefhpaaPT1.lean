/- Plain laws: the score, the pick, the pieces. -/
import Derived.Test.YtjcgnlpimefhpaaVT1
namespace Go.Proofs.Ytjcgnlpimefhpaa
open Go.RowKit
set_option maxRecDepth 100000
set_option linter.unusedVariables false
set_option linter.unusedSimpArgs false
theorem score_f (flow : Int) : (bif decide (flow.tmod 65536 < 0) then IntKind.i64.wrap (IntKind.i64.wrap (flow.tmod 65536 + 65535) + 1) else flow.tmod 65536) = (IntKind.i64.wrap (flow.tmod 65536 + 65536)).tmod 65536 := by
  have h1 := Int.lt_tmod_of_pos flow (b := 65536) (by decide)
  have h2 := Int.tmod_lt_of_pos flow (b := 65536) (by decide)
  generalize flow.tmod 65536 = m at *
  rw [wrap_of (n := m + 65536) (by omega) (by omega), Int.tmod_eq_emod_of_nonneg (by omega)]
  by_cases h : m < 0
  · rw [decide_eq_true h, cond_true, wrap_of (n := m + 65535) (by omega) (by omega), wrap_of (by omega) (by omega)]; omega
  · rw [decide_eq_false h, cond_false]; omega
theorem score_eq (flow : Int) (hop : FibHop) : F165 flow hop = F155 flow hop := by
  have e : ∀ f, F165_s0 flow hop = F155_s0 flow hop f := fun f => funext fun ⟨x9, i⟩ => by simp only [F165_s0, F155_s0, Int.mul_comm]
  have hf := score_f flow
  have he : F160 hop = F153 hop := rfl
  unfold F165 F155 F155_j0
  rw [← hf, he]
  cases decide (flow.tmod 65536 < 0)
  · simp only [cond_false, Lp.fin]; rw [e]
  · simp only [cond_true, Lp.fin]; rw [e]
/-- the first of the greatest -/
def pk (s : Nat → Int) : Nat → Nat
  | 0 => 0
  | k + 1 => if s (k + 1) > s (pk s k) then k + 1 else pk s k
theorem pk_le (s : Nat → Int) : ∀ k, pk s k ≤ k
  | 0 => Nat.le_refl _
  | k + 1 => by
    have := pk_le s k
    simp only [pk]; split <;> omega
def sc (hops : List FibHop) (flow : Int) (k : Nat) : Int := F155 flow (hops.getD k default)
theorem pickS_eq (hops : List FibHop) (flow : Int) (h : F74 hops = true) : F75 hops flow = (pk (sc hops flow) (hops.length - 1) : Nat) := by
  have hl := hopsOkS_T hops h
  unfold F75
  rw [h]
  have hr := runL_rule (step := F75_s0 hops flow) (fun (k : Nat) (_ : Unit) => (((pk (sc hops flow) k : Nat) : Int), ((k + 1 : Nat) : Int))) (hops.length - 1) (fun _ _ => True) (fun _ => False)
    (fun k _ hk _ => .inl ⟨(), by
      have hb := pk_le (sc hops flow) k
      simp only [F75_s0, ltD (show k + 1 < hops.length by omega), cond_true, nn, pk]
      by_cases hc : sc hops flow (k + 1) > sc hops flow (pk (sc hops flow) k)
      · rw [if_pos hc]
        have hc' : F155 flow (hops.getD (k + 1) default) > F155 flow (hops.getD (pk (sc hops flow) k) default) := hc
        rw [decide_eq_true hc', cond_true]; rfl
      · rw [if_neg hc]
        have hc' : ¬ F155 flow (hops.getD (k + 1) default) > F155 flow (hops.getD (pk (sc hops flow) k) default) := hc
        rw [decide_eq_false hc', cond_false]; rfl, trivial⟩)
    (fun _ _ => by
      have e : ((hops.length - 1 + 1 : Nat) : Int) = (hops.length : Int) := by omega
      simp [F75_s0, e])
    (hops.length - 1) 0 () (by omega) trivial (Int.toNat ((hops.length : Int) - 1) + 1) (by omega)
  rcases hr with ⟨_, hr, _⟩ | ⟨_, _, hr⟩
  · have hr' : runL (F75_s0 hops flow) (Int.toNat ((hops.length : Int) - 1) + 1) (0, 1) = _ := hr
    rw [hr']; rfl
  · exact hr.elim
theorem pick_eq' (hops : List FibHop) (flow : Int) (h : F80 hops = true) : F82 hops flow = (pk (sc hops flow) (hops.length - 1) : Nat) := by
  have hl := hopsOk_T hops h
  unfold F82
  rw [h]
  have hr := runL_rule (step := F82_s0 hops flow) (fun (k : Nat) (_ : Unit) => (((pk (sc hops flow) (k - 1) : Nat) : Int), ((k : Nat) : Int))) hops.length (fun _ _ => True) (fun _ => False)
    (fun k _ hk _ => .inl ⟨(), by
      simp only [F82_s0, ltD hk, cond_true, nn, score_eq]
      cases k with
      | zero =>
        have hc : ¬ F155 flow (hops.getD 0 default) > F155 flow (hops.getD (pk (sc hops flow) (0 - 1)) default) := by simp [pk]
        rw [decide_eq_false hc, cond_false]; rfl
      | succ k =>
        simp only [Nat.add_sub_cancel, pk]
        by_cases hc : sc hops flow (k + 1) > sc hops flow (pk (sc hops flow) k)
        · rw [if_pos hc]
          have hc' : F155 flow (hops.getD (k + 1) default) > F155 flow (hops.getD (pk (sc hops flow) k) default) := hc
          rw [decide_eq_true hc', cond_true]; rfl
        · rw [if_neg hc]
          have hc' : ¬ F155 flow (hops.getD (k + 1) default) > F155 flow (hops.getD (pk (sc hops flow) k) default) := hc
          rw [decide_eq_false hc', cond_false]; rfl, trivial⟩)
    (fun _ _ => by simp [F82_s0])
    hops.length 0 () (by omega) trivial (Int.toNat ((hops.length : Int) - 0) + 1) (by omega)
  rcases hr with ⟨_, hr, _⟩ | ⟨_, _, hr⟩
  · have hr' : runL (F82_s0 hops flow) (Int.toNat ((hops.length : Int) - 0) + 1) (0, 0) = _ := hr
    rw [hr']; rfl
  · exact hr.elim
theorem pick_in (hops : List FibHop) (flow : Int) (h : F80 hops = true) : 0 ≤ F82 hops flow ∧ F82 hops flow < (hops.length : Int) := by
  have hl := hopsOk_T hops h
  rw [pick_eq' hops flow h]
  have := pk_le (sc hops flow) (hops.length - 1)
  omega
theorem pickS_in (hops : List FibHop) (flow : Int) (h : F74 hops = true) : 0 ≤ F75 hops flow ∧ F75 hops flow < (hops.length : Int) := by
  have hl := hopsOkS_T hops h
  rw [pickS_eq hops flow h]
  have := pk_le (sc hops flow) (hops.length - 1)
  omega
theorem pick_eq (hops : List FibHop) (flow : Int) : F82 hops flow = F75 hops flow := by
  cases h : F74 hops with
  | true => rw [pick_eq' hops flow (hopsOk_eq hops ▸ h), pickS_eq hops flow h]
  | false => unfold F82 F75; rw [hopsOk_eq, h]; rfl
theorem piece_eq (p : FragPacket) (a n : Int) (h0 : 0 ≤ a) (ha : a < (p.Data.length : Int)) (hn : 0 ≤ n) :
    (⟨p.Src, p.Dst, p.Kind, p.Id, p.Hops, p.Whole, (p.Off + a), (bif p.More then true else decide ((if (p.Data.length : Int) < (a + n) then (p.Data.length : Int) else (a + n)) < (p.Data.length : Int))), (F164 ((p.Data.take (Int.toNat (if (p.Data.length : Int) < (a + n) then (p.Data.length : Int) else (a + n)))).drop (Int.toNat a)))⟩ : FragPacket) = F158 p a n := by
  unfold F158 F164
  by_cases h : a + n < (p.Data.length : Int)
  · rw [if_neg (by omega), decide_eq_true h, cond_true]
    cases p.More <;> rfl
  · rw [decide_eq_false h, cond_false]
    have e : (if (p.Data.length : Int) < (a + n) then (p.Data.length : Int) else (a + n)) = (p.Data.length : Int) := by split <;> omega
    rw [e, nn, List.take_length, decide_eq_false (by omega)]
    cases p.More <;> rfl
theorem cut_eq (p : FragPacket) : F81 p 48 = F76 p 48 := by
  have e := fragOk_eq p
  have e2 : F162 p = F156 p := by unfold F162 F156; rw [e]
  have e3 : F163 p = F157 p := rfl
  have hr := runL_congr (step := F81_s0 p 48) (step' := F76_s0 p 48) (fun s => 0 ≤ s.2) (fun ⟨out, a⟩ ha => by
      have ha : 0 ≤ a := ha
      simp only [F81_s0, F76_s0]
      by_cases h : a < (p.Data.length : Int)
      · rw [decide_eq_true h, cond_true, cond_true, piece_eq p a _ ha h (by decide)]
      · rw [decide_eq_false h]; rfl)
    (fun ⟨out, a⟩ s' ha hs => by
      have ha : 0 ≤ a := ha
      simp only [F81_s0] at hs
      have hst : ((48 : Int) - 8).tdiv 4 * 4 = 40 := by decide
      cases hd : decide (a < (p.Data.length : Int)) with
      | true =>
        rw [hd, cond_true] at hs
        cases hs
        show 0 ≤ a + ((48 : Int) - 8).tdiv 4 * 4
        omega
      | false => rw [hd] at hs; cases hs)
  unfold F81 F76
  rw [e, e2, e3, hr _ _ (by show (0 : Int) ≤ 0; omega)]

end Go.Proofs.Ytjcgnlpimefhpaa
