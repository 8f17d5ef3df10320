/- Plain laws of paths. -/
import Derived.Test.YtjefeigdapcleaaVA
namespace Go.Proofs.Ytjefeigdapcleaa
open Go.RowKit
set_option maxRecDepth 100000
set_option linter.unusedVariables false
set_option linter.unusedSimpArgs false
/-! ### Paths -/

/-- the boxes and labels that rows lead to, in at most so many boxes -/
def pathFrom (n : LabNet) : Nat → Int → Int → Option (List (Int × Int))
  | 0, _, _ => none
  | m + 1, box, label => match rowIx (n.Boxes.getD (Int.toNat box) default) label with
    | none => none
    | some k => if ((n.Boxes.getD (Int.toNat box) default).Rows.getD k default).Next < 0 then some [(box, label)]
      else (pathFrom n m ((n.Boxes.getD (Int.toNat box) default).Rows.getD k default).Next ((n.Boxes.getD (Int.toNat box) default).Rows.getD k default).Out).map ((box, label) :: ·)
def pathRes : Option (List (Int × Int)) → List Int × List Int × Bool
  | some l => (l.map (·.1), l.map (·.2), true)
  | none => ([], [], false)
theorem rowsFrom_go {n : LabNet} (h : NetOk n) (b0 l0 : Int) : ∀ (m : Nat) (box label : Int) (bs ls : List Int), 0 ≤ box → box < (n.Boxes.length : Int) → bs.length + m = n.Boxes.length →
    (runL (F86_s0 n b0 l0) (m + 1) (box, label, bs, ls)).fin (fun r => r) (fun s => (s.2.2.1, s.2.2.2, true)) = match pathFrom n m box label with
      | some l => (bs ++ l.map (·.1), ls ++ l.map (·.2), true)
      | none => ([], [], false)
  | m, box, label, bs, ls, h0, h1, hm => by
    have hne : (box != (-1)) = true := by simp; omega
    cases e : rowIx (n.Boxes.getD (Int.toNat box) default) label with
    | none =>
      have e1 : F86_s0 n b0 l0 (box, label, bs, ls) = .ret ([], [], false) := by
        simp only [F86_s0, hne, cond_true, rowP, e, Bool.not_false]
      simp only [runL, e1, Lp.fin]
      cases m <;> simp only [pathFrom, e]
    | some k =>
      have hk := (first_some.1 e).1
      have e2 : rowP (n.Boxes.getD (Int.toNat box) default) label = ((n.Boxes.getD (Int.toNat box) default).Rows.getD k default, true) := by simp only [rowP, e]
      have hn := row_next h h0 h1 (k := (k : Int)) (by omega) (by omega)
      rw [nn] at hn
      cases m with
      | zero =>
        have hl : ((bs.length : Int) == (n.Boxes.length : Int)) = true := by simp; omega
        have e1 : F86_s0 n b0 l0 (box, label, bs, ls) = .ret ([], [], false) := by
          simp only [F86_s0, hne, cond_true, e2, Bool.not_true, cond_false, hl]
        simp only [runL, e1, Lp.fin, pathFrom]
      | succ m =>
        have hl : ((bs.length : Int) == (n.Boxes.length : Int)) = false := by simp; omega
        have e1 : F86_s0 n b0 l0 (box, label, bs, ls) = .next (((n.Boxes.getD (Int.toNat box) default).Rows.getD k default).Next, ((n.Boxes.getD (Int.toNat box) default).Rows.getD k default).Out, bs ++ [box], ls ++ [label]) := by
          simp only [F86_s0, hne, cond_true, e2, Bool.not_true, cond_false, hl]
        rw [runL, e1]
        simp only [pathFrom, e]
        generalize (n.Boxes.getD (Int.toNat box) default).Rows.getD k default = r at *
        rcases hn with hn | hn
        · have e3 : F86_s0 n b0 l0 (r.Next, r.Out, bs ++ [box], ls ++ [label]) = .done (r.Next, r.Out, bs ++ [box], ls ++ [label]) := by
            have : (r.Next != (-1)) = false := by simp [hn]
            simp only [F86_s0, this, cond_false]
          have : r.Next < 0 := by omega
          simp only [runL, e3, Lp.fin, if_pos this, List.map_cons, List.map_nil]
        · have hp : ¬ r.Next < 0 := by omega
          rw [rowsFrom_go h b0 l0 m r.Next r.Out (bs ++ [box]) (ls ++ [label]) hn.1 hn.2 (by simp; omega), if_neg hp]
          cases pathFrom n m r.Next r.Out <;> simp
theorem as86 (n : LabNet) (box label : Int) (h : NetOk n) (h0 : 0 ≤ box) (h1 : box < (n.Boxes.length : Int)) : F86 n box label = pathRes (pathFrom n n.Boxes.length box label) := by
  unfold F86
  have e : Int.toNat ((n.Boxes.length : Int) - (([] : List Int).length : Int)) = n.Boxes.length := by simp
  rw [e]
  refine (rowsFrom_go h box label n.Boxes.length box label [] [] h0 h1 (by simp)).trans ?_
  cases pathFrom n n.Boxes.length box label <;> rfl
theorem specPath_go {n : LabNet} (h : NetOk n) (b0 l0 : Int) : ∀ (m : Nat) (box label : Int) (bs : List Int), 0 ≤ box → box < (n.Boxes.length : Int) → bs.length + m = n.Boxes.length →
    (runL (F33_s0 n b0 l0) (m + 1) (box, label, bs)).fin (fun r => r) (fun _ => ([] : List Int)) = match pathFrom n m box label with
      | some l => bs ++ l.map (·.1)
      | none => []
  | 0, box, label, bs, h0, h1, hm => by
    have hl : decide ((bs.length : Int) < (n.Boxes.length : Int)) = false := by simp; omega
    have e1 : F33_s0 n b0 l0 (box, label, bs) = .done (box, label, bs) := by simp only [F33_s0, hl, cond_false]
    simp only [runL, e1, Lp.fin, pathFrom]
  | m + 1, box, label, bs, h0, h1, hm => by
    have hl : decide ((bs.length : Int) < (n.Boxes.length : Int)) = true := by simp; omega
    cases e : rowIx (n.Boxes.getD (Int.toNat box) default) label with
    | none =>
      have e1 : F33_s0 n b0 l0 (box, label, bs) = .ret [] := by
        simp only [F33_s0, hl, cond_true, e, oix]; rfl
      simp only [runL, e1, Lp.fin, pathFrom, e]
    | some k =>
      have hk := (first_some.1 e).1
      have hn := row_next h h0 h1 (k := (k : Int)) (by omega) (by omega)
      rw [nn] at hn
      have e2 : decide (oix (some k) < 0) = false := decide_eq_false (by simp only [oix]; omega)
      have e3 : Int.toNat (oix (some k)) = k := rfl
      rw [runL]
      simp only [F33_s0, hl, cond_true, e, e2, cond_false, e3, pathFrom]
      generalize (n.Boxes.getD (Int.toNat box) default).Rows.getD k default = r at *
      rcases hn with hn | hn
      · have hp : r.Next < 0 := by omega
        simp [Lp.fin, hp]
      · have hp : ¬ r.Next < 0 := by omega
        simp only [decide_eq_false hp, cond_false, if_neg hp]
        refine (specPath_go h b0 l0 m r.Next r.Out (bs ++ [box]) hn.1 hn.2 (by simp; omega)).trans ?_
        cases pathFrom n m r.Next r.Out <;> simp
/-- what LabPath answers -/
def labPath (n : LabNet) (box label : Int) : List Int := bif netB n && decide (0 ≤ box ∧ box ≤ (n.Boxes.length : Int) - 1) then (pathRes (pathFrom n n.Boxes.length box label)).1 else []
theorem as33 (n : LabNet) (box label : Int) : F33 n box label = labPath n box label := by
  unfold F33 labPath
  cases hb : netB n
  · rfl
  · by_cases h : 0 ≤ box ∧ box ≤ (n.Boxes.length : Int) - 1
    · rw [decide_eq_true h]
      simp only [Bool.not_true, cond_false, Bool.and_self, cond_true]
      have e : Int.toNat ((n.Boxes.length : Int) - (([] : List Int).length : Int)) = n.Boxes.length := by simp
      rw [e]
      refine (specPath_go (netB_T n hb) box label n.Boxes.length box label [] (by omega) (by omega) (by simp)).trans ?_
      cases pathFrom n n.Boxes.length box label <;> rfl
    · rw [decide_eq_false h]; rfl
theorem pathFrom_len (n : LabNet) : ∀ (m : Nat) (b l : Int) (x : List (Int × Int)), pathFrom n m b l = some x → x.length ≤ m
  | 0, b, l, x, h => by cases h
  | m + 1, b, l, x, h => by
    simp only [pathFrom] at h
    split at h
    · cases h
    · split at h
      · cases h; simp
      · cases e : pathFrom n m _ _ with
        | none => rw [e] at h; cases h
        | some y =>
          rw [e] at h
          cases h
          have := pathFrom_len n m _ _ y e
          simp only [List.length_cons]; omega
theorem pathRes_len (n : LabNet) (m : Nat) (b l : Int) : (pathRes (pathFrom n m b l)).1.length ≤ m ∧ (pathRes (pathFrom n m b l)).2.1.length = (pathRes (pathFrom n m b l)).1.length := by
  cases e : pathFrom n m b l with
  | none => exact ⟨Nat.zero_le _, rfl⟩
  | some x => have := pathFrom_len n m b l x e; simp only [pathRes, List.length_map]; exact ⟨this, trivial⟩

end Go.Proofs.Ytjefeigdapcleaa
