/- Plain law of the row of TernLay. -/
import Derived.Test.YtjcgnlpimefhpaaVTL
namespace Go.Proofs.Ytjcgnlpimefhpaa
open Go.RowKit
set_option maxRecDepth 100000
set_option linter.unusedVariables false
set_option linter.unusedSimpArgs false
theorem sum1 (l : List Int) : sumL (fun _ => 1) l ≤ l.length := by
  have := sumL_le (fun _ : Int => 1) 1 l fun _ _ => Nat.le_refl _
  omega
theorem sumL_append {α : Type} (L : α → Nat) : ∀ (a b : List α), sumL L (a ++ b) = sumL L a + sumL L b
  | [], b => by rw [List.nil_append, sumL_nil]; omega
  | x :: a, b => by rw [List.cons_append, sumL_cons, sumL_cons, sumL_append L a b]; omega
theorem hops_mark (a : List FibHop) (hl : a.length ≤ 1000000000) : (F21 a 1).1 = 1 + 2 * (a.length : Int) := by
  unfold F21
  have hr := runL_rule (step := F21_s0 a 1) (fun (k : Nat) (xs : List FibHop) => ((1 + 2 * (k : Int), (k : Int), xs) : Int × Int × List FibHop)) a.length (fun _ xs => xs.length = a.length) (fun _ => False)
    (fun k xs hk hI => .inl ⟨xs.set k ⟨1 + 2 * (k : Int), 1 + 2 * (k : Int) + 1⟩, by
      simp only [F21_s0, hI, ltD hk, cond_true, nn]
      rw [wrap_of (n := 1 + 2 * (k : Int) + 1) (by omega) (by omega), wrap_of (n := 1 + 2 * (k : Int) + 1 + 1) (by omega) (by omega)]
      have e : 1 + 2 * (k : Int) + 1 + 1 = 1 + 2 * ((k + 1 : Nat) : Int) := by omega
      rw [e]; rfl, by rw [List.length_set]; exact hI⟩)
    (fun xs hI => by simp [F21_s0, hI])
    a.length 0 a (by omega) rfl (Int.toNat ((a.length : Int) - 0) + 1) (by omega)
  rcases hr with ⟨xs, hr, _⟩ | ⟨_, _, hr⟩
  · have hr' : runL (F21_s0 a 1) (Int.toNat ((a.length : Int) - 0) + 1) (1, 0, a) = _ := hr
    rw [hr']; rfl
  · exact hr.elim
theorem lv_piece (p : FragPacket) (a n : Int) (hl : p.Data.length ≤ 128) : lvFragPacket (F158 p a n) ≤ 136 := by
  have hd : (F158 p a n).Data.length ≤ 128 := by
    unfold F158
    cases decide (a + n < (p.Data.length : Int))
    · show (([] : List Int) ++ (p.Data.drop (Int.toNat a))).length ≤ 128
      simp only [List.nil_append, List.length_drop]; omega
    · show (([] : List Int) ++ ((p.Data.take (Int.toNat (a + n))).drop (Int.toNat a))).length ≤ 128
      simp only [List.nil_append, List.length_drop, List.length_take]; omega
  have := sum1 (F158 p a n).Data
  unfold lvFragPacket
  omega
theorem cut_small (p : FragPacket) : sumL lvFragPacket (F76 p 48).1 ≤ 100000 := by
  unfold F76
  cases hok : F73 p with
  | false => exact Nat.zero_le _
  | true =>
    have hf := fragOkS_T p hok
    have h12 : decide ((48 : Int) < 12) = false := by decide
    rw [h12]
    cases decide (F156 p ≤ 48) with
    | true =>
      show sumL lvFragPacket [F157 p] ≤ 100000
      have := sum1 p.Data
      rw [sumL_cons, sumL_nil]
      show 8 + sumL (fun _ => 1) (([] : List Int) ++ p.Data) + 0 ≤ 100000
      rw [List.nil_append]; omega
    | false =>
      cases p.Whole with
      | true => exact Nat.zero_le _
      | false =>
        have hst : ((48 : Int) - 8).tdiv 4 * 4 = 40 := by decide
        have hr := runL_rule (step := F76_s0 p 48) (fun (k : Nat) (out : List FragPacket) => ((out, 40 * (k : Int)) : List FragPacket × Int)) ((p.Data.length + 39) / 40) (fun k out => sumL lvFragPacket out ≤ 200 * k) (fun _ => False)
          (fun k out hk hI => .inl ⟨out ++ [F158 p (40 * (k : Int)) 40], by
            simp only [F76_s0, hst]
            rw [decide_eq_true (by omega), cond_true]
            have e : 40 * (k : Int) + 40 = 40 * ((k + 1 : Nat) : Int) := by omega
            rw [e], by
            have := lv_piece p (40 * (k : Int)) 40 hf.2.2
            rw [sumL_append, sumL_cons, sumL_nil]; omega⟩)
          (fun out _ => by
            simp only [F76_s0]
            rw [decide_eq_false (by omega), cond_false])
          ((p.Data.length + 39) / 40) 0 [] (by omega) (by rw [sumL_nil]; omega) (Int.toNat ((p.Data.length : Int) - 0) + 1) (by omega)
        rcases hr with ⟨out, hr, hI⟩ | ⟨_, _, hr⟩
        · have hr' : runL (F76_s0 p 48) (Int.toNat ((p.Data.length : Int) - 0) + 1) ([], 0) = _ := hr
          rw [hr']
          show sumL lvFragPacket out ≤ 100000
          omega
        · exact hr.elim
theorem lay_small (n : Int) (hops : List FibHop) (flow : Int) (p : FragPacket) : lwTernSend (F14 n hops flow p).1 ≤ 100000 := by
  have h := cut_small p
  unfold F14 lwTernSend
  cases F73 p
  · exact Nat.zero_le _
  · cases (bif decide (n < 0) then true else (!(F74 hops)))
    · cases ((F76 p 48).2 != 0)
      · cases ((hops.getD (Int.toNat (F75 hops flow)) default).Next == 0)
        · show 0 + sumL lvFragPacket (F76 p 48).1 ≤ 100000; omega
        · show 0 + sumL lvFragPacket (F76 p 48).1 ≤ 100000; omega
      · exact Nat.zero_le _
    · exact Nat.zero_le _
theorem plain_3 (n : Int) (hops : List FibHop) (flow : Int) (p : FragPacket) : F3 n hops flow p = true := by
  unfold F3
  by_cases hs : F12 hops 1048576 < 0
  · rw [decide_eq_true hs]; rfl
  · have hl := (gb12 hops 1048576 (by omega) (by omega) (by omega))
    by_cases hs2 : F13 p (F12 hops 1048576) < 0
    · rw [decide_eq_false hs, decide_eq_true hs2]; rfl
    · have hl2 := (gb13 p _ (by omega) (by omega) (by omega : 0 ≤ F13 p (F12 hops 1048576)))
      have ht := lay_small n hops flow p
      obtain ⟨m1, m2⟩ := mk23 (F14 n hops flow p).1 1 (by omega) (by omega)
      have m3 : (F22 p (F21 hops 1).1).1 = (F21 hops 1).1 + sumL (fun _ => 1) p.Data := by
        have := sum1 p.Data
        rw [hops_mark hops hl.2]
        exact (mk86 p.Data _ (by omega) (by omega)).1
      have m4 : F24 (⟨((F14 n hops flow p).1).Port, ((F14 n hops flow p).1).Next, ((F23 ((F14 n hops flow p).1) 1).2).Pieces⟩ : TernSend) 1 = 1 + lwTernSend (F14 n hops flow p).1 := m2
      have s2 := hops_mark hops hl.2
      rw [lay_eq, m1, m4, m3, decide_eq_false hs, decide_eq_false hs2]
      have d1 : ¬ (1 + (lwTernSend (F14 n hops flow p).1 : Int) < 0) := by omega
      have d2 : ¬ ((F21 hops 1).1 + (sumL (fun _ => 1) p.Data : Int) < 0) := by omega
      simp [d1, d2]

end Go.Proofs.Ytjcgnlpimefhpaa
