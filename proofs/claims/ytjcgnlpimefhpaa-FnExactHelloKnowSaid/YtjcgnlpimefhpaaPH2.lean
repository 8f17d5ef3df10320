/- Plain laws: an end in order. -/
import Derived.Test.YtjcgnlpimefhpaaVH2
namespace Go.Proofs.Ytjcgnlpimefhpaa
open Go.RowKit
set_option maxRecDepth 100000
set_option linter.unusedVariables false
set_option linter.unusedSimpArgs false
/-- a route is out of order -/
def badR (e : HelloEnd) (k : Nat) : Bool :=
  bif (bif (!(F137 (e.Heard.getD k default).Entry)) then true else (bif decide (0 < k) then (!(F138 (e.Heard.getD (k - 1) default).Entry (e.Heard.getD k default).Entry)) else false)) then true else (bif (!((e.Heard.getD k default).Stale)) then (e.Left == 0) else false)
theorem badR_ok {e : HelloEnd} {k : Nat} (h : badR e k = false) : F137 (e.Heard.getD k default).Entry = true := by
  unfold badR at h
  cases x : F137 (e.Heard.getD k default).Entry with
  | true => rfl
  | false => rw [x] at h; cases h
def anySt (l : List HelloRoute) : Bool := l.any (fun r => r.Stale)
theorem heardS_eq (e : HelloEnd) : F171 e = bif (bif decide ((e.Heard.length : Int) > 16) then true else (!(decide (0 ≤ e.Keep ∧ e.Keep ≤ 6)))) then false else ((first (badR e) e.Heard.length).isNone && (anySt e.Heard == decide (e.Keep > 0))) := by
  unfold F171
  have hr := runL_rule (step := F171_s0 e) (fun (k : Nat) (s : Bool) => ((s, (k : Int)) : Bool × Int)) e.Heard.length (fun k s => s = anySt (e.Heard.take k) ∧ ∀ j, j < k → badR e j = false) (fun r => r = false ∧ (first (badR e) e.Heard.length).isNone = false)
    (fun k s hk hI => by
      simp only [F171_s0, ltD hk, cond_true, nn, toNat_pred, pos_cast]
      cases hb : badR e k with
      | true =>
        refine .inr ⟨false, ?_, rfl, ?_⟩
        · have hb' := hb
          unfold badR at hb'
          rw [hb']; rfl
        · cases hn : first (badR e) e.Heard.length with
          | none => rw [first_none.1 hn k hk] at hb; cases hb
          | some _ => rfl
      | false =>
        have hb' := hb
        unfold badR at hb'
        rw [hb', cond_false]
        refine .inl ⟨_, rfl, ?_, fun j hj => ?_⟩
        · rw [hI.1, take_next hk]
          unfold anySt
          rw [List.any_append]
          cases (e.Heard.take k).any (fun r => r.Stale) <;> simp
        · rcases Nat.lt_or_ge j k with h | h
          · exact hI.2 j h
          · have : j = k := by omega
            rw [this]; exact hb)
    (fun s _ => by simp [F171_s0])
    e.Heard.length 0 false (by omega) ⟨rfl, fun j hj => absurd hj (Nat.not_lt_zero _)⟩ (Int.toNat ((e.Heard.length : Int) - 0) + 1) (by omega)
  congr 1
  rcases hr with ⟨s, hr, h1, h2⟩ | ⟨r, hr, h1, h2⟩
  · have hr' : runL (F171_s0 e) (Int.toNat ((e.Heard.length : Int) - 0) + 1) (false, 0) = _ := hr
    rw [hr']
    have : (first (badR e) e.Heard.length).isNone = true := by rw [first_none.2 h2]; rfl
    rw [this, Bool.true_and]
    show (s == _) = _
    rw [h1, List.take_length]
  · have hr' : runL (F171_s0 e) (Int.toNat ((e.Heard.length : Int) - 0) + 1) (false, 0) = _ := hr
    rw [hr', h2]
    show r = _
    rw [h1]; rfl
theorem heard_eq (e : HelloEnd) : F173 e = F171 e := by
  rw [heardS_eq]
  unfold F173
  rw [allB (fun k => bif (bif (!(F134 (e.Heard.getD k default).Entry)) then true else (bif (e.Left == 0) then (!((e.Heard.getD k default).Stale)) else false)) then true else (bif decide (0 < k) then decide (F135 (F136 (e.Heard.getD (k - 1) default).Entry) (F136 (e.Heard.getD k default).Entry) ≥ 0) else false)) e.Heard.length _ (fun k hk => by simp only [F173_s0, ltD hk, cond_true, nn, toNat_pred, pos_cast]) (by simp [F173_s0])]
  rw [first_congr' (q := badR e) fun k hk hb => by
    unfold badR
    rw [entryOk_eq]
    cases x : F137 (e.Heard.getD k default).Entry with
    | false => rfl
    | true =>
      cases k with
      | zero => cases (e.Left == 0) <;> cases (e.Heard.getD 0 default).Stale <;> rfl
      | succ k =>
        have h1 := entry_in (badR_ok (hb k (by omega)))
        simp only [Nat.add_sub_cancel]
        rw [cmp_ge h1 (entry_in x)]
        cases (e.Left == 0) <;> cases (e.Heard.getD (k + 1) default).Stale <;> cases F138 (e.Heard.getD k default).Entry (e.Heard.getD (k + 1) default).Entry <;> simp]
  have ha : F116 e.Heard = anySt e.Heard := rfl
  rw [ha]
  have hd : decide ((e.Heard.length : Int) > 16) = !(decide ((e.Heard.length : Int) ≤ 16)) := by rw [← decide_not, decide_eq_decide]; omega
  rw [hd]
  cases (first (badR e) e.Heard.length).isNone <;> cases decide ((e.Heard.length : Int) ≤ 16) <;> cases decide (0 ≤ e.Keep ∧ e.Keep ≤ 6) <;> cases anySt e.Heard <;> cases decide (e.Keep > 0) <;> rfl
theorem change_kind {c : HelloChange} (h : F142 c = true) : c.Kind = 0 ∨ c.Kind = 1 ∨ c.Kind = 2 ∨ c.Kind = 3 := by
  unfold F142 at h
  by_cases h0 : c.Kind = 0
  · exact .inl h0
  by_cases h1 : c.Kind = 1
  · exact .inr (.inl h1)
  by_cases h2 : c.Kind = 2
  · exact .inr (.inr (.inl h2))
  by_cases h3 : c.Kind = 3
  · exact .inr (.inr (.inr h3))
  have e0 : (c.Kind == 0) = false := by simpa using h0
  have e1 : (c.Kind == 1) = false := by simpa using h1
  have e2 : (c.Kind == 2) = false := by simpa using h2
  have e3 : (c.Kind == 3) = false := by simpa using h3
  rw [e0, e1, e2, e3] at h
  cases h
theorem endOk_eq (e : HelloEnd) : F95 e = F90 e := by
  unfold F95 F90
  have hl : decide (0 ≤ e.Left ∧ e.Left ≤ 4) = true → decide (e.Left > 0) = !(e.Left == 0) := fun h => by
    have := of_decide_eq_true h
    rw [beqD, ← decide_not, decide_eq_decide]; omega
  have hk : F142 e.Under = true → decide (e.Under.Kind > 0) = !(e.Under.Kind == 0) := fun h => by
    have := change_kind h
    rw [beqD, ← decide_not, decide_eq_decide]; omega
  have hb : ∀ a b : Int, (a != b) = !(a == b) := fun _ _ => rfl
  simp only [keysOk_eq, changeOk_eq, tableOk_eq, heard_eq, hb]
  generalize F142 e.Under = bu at *
  generalize decide (0 ≤ e.Left ∧ e.Left ≤ 4) = bl at *
  generalize decide (0 ≤ e.Name ∧ e.Name ≤ 65535) = b1
  generalize decide (0 ≤ e.Peer ∧ e.Peer ≤ 65535) = b2
  generalize (e.Name == e.Peer) = b3
  generalize F61 e.Keys = b4
  generalize decide (1 ≤ e.Boot ∧ e.Boot ≤ 1000) = b5
  generalize F59 e.Want = b6
  generalize decide (0 ≤ e.Turn ∧ e.Turn ≤ 1000000) = b7
  generalize decide (0 ≤ e.PeerBoot ∧ e.PeerBoot ≤ 999) = b8
  generalize decide (0 ≤ e.PeerTurn ∧ e.PeerTurn ≤ 1000000) = b9
  generalize decide (0 ≤ e.Num ∧ e.Num ≤ e.Turn) = c1
  generalize decide (0 ≤ e.Got ∧ e.Got ≤ 1000000) = c2
  generalize F59 e.Told = c3
  generalize F59 (F170 e.Told e.Under) = c4
  generalize (e.PeerBoot == 0) = c5
  generalize (e.PeerTurn == 0) = c6
  generalize (e.Num == 0) = c7
  cases bu
  · simp
  cases bl
  · simp
  rw [hl rfl, hk rfl]
  generalize (e.Left == 0) = c8
  generalize (e.Under.Kind == 0) = c9
  generalize e.Up = d1
  cases b1
  · simp
  cases b2
  · simp
  cases b3
  rotate_left
  · simp
  cases b4
  · simp
  cases b5
  · simp
  cases b6
  · simp
  cases b7
  · simp
  cases b8
  · simp
  cases b9
  · simp
  cases c1
  · simp
  cases c2
  · simp
  cases c3
  · simp
  cases c4
  · simp
  cases c5 <;> cases c6 <;> cases c7 <;> cases c8 <;> cases c9 <;> cases d1 <;> simp
def smallE (e : HelloEnd) : Prop := e.Keys.length ≤ 1000000000 ∧ e.Want.length ≤ 1000000000 ∧ e.Told.length ≤ 1000000000 ∧ e.Heard.length ≤ 1000000000
/-- what lists of an end in order are bounded by -/
theorem endOkS_T (e : HelloEnd) (h : F90 e = true) : 1 ≤ e.Keys.length ∧ e.Keys.length ≤ 3 ∧ e.Want.length ≤ 8 ∧ e.Told.length ≤ 8 ∧ e.Heard.length ≤ 16 := by
  have h1 : F61 e.Keys = true := by
    cases x : F61 e.Keys with
    | true => rfl
    | false => simp [F90, x] at h
  have h2 : F59 e.Want = true := by
    cases x : F59 e.Want with
    | true => rfl
    | false => simp [F90, x] at h
  have h3 : F59 e.Told = true := by
    cases x : F59 e.Told with
    | true => rfl
    | false => simp [F90, x] at h
  have h4 : F171 e = true := by
    cases x : F171 e with
    | true => rfl
    | false => simp [F90, x] at h
  have a1 := keysOkS_T _ h1
  have a2 := tableOkS_len _ h2
  have a3 := tableOkS_len _ h3
  rw [heardS_eq] at h4
  have a4 : ¬ (e.Heard.length : Int) > 16 := fun hc => by rw [decide_eq_true hc] at h4; cases h4
  omega
theorem endOk_T (e : HelloEnd) (h : F95 e = true) : 1 ≤ e.Keys.length ∧ e.Keys.length ≤ 3 ∧ e.Want.length ≤ 8 ∧ e.Told.length ≤ 8 ∧ e.Heard.length ≤ 16 := endOkS_T e (endOk_eq e ▸ h)

end Go.Proofs.Ytjcgnlpimefhpaa
