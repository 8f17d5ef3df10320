/- Plain law of LabOpen. -/
import Derived.Test.YtjefeigdapcleaaV2
namespace Go.Proofs.Ytjefeigdapcleaa
open Go.RowKit
set_option maxRecDepth 100000
set_option linter.unusedVariables false
set_option linter.unusedSimpArgs false
theorem open_eq (b : Int) (l : List LabLink) : F19 b l = F21 b l := by
  unfold F19 F21
  have e : netB (⟨l, List.replicate (Int.toNat b) ⟨[], []⟩⟩ : LabNet) = F67 ⟨l, List.replicate (Int.toNat b) ⟨[], []⟩⟩ := by
    unfold netB
    have : (first (fun i => !boxB ⟨l, List.replicate (Int.toNat b) ⟨[], []⟩⟩ i) (List.replicate (Int.toNat b) (⟨[], []⟩ : LabBox)).length) = none := first_none.2 fun k hk => by
      have h1 : (List.replicate (Int.toNat b) (⟨[], []⟩ : LabBox)).getD k default = ⟨[], []⟩ := getD_rep _ _ rfl k
      simp only [boxB, h1]
      rfl
    rw [this]
    exact Bool.and_true _
  rw [e]
theorem open_small (b : Int) (l : List LabLink) : lwLabNet (F21 b l).1 ≤ 10000 := by
  unfold F21
  cases decide (1 ≤ b ∧ b ≤ 8)
  · exact Nat.zero_le _
  · cases h : netB (⟨l, List.replicate (Int.toNat b) ⟨[], []⟩⟩ : LabNet)
    · exact Nat.zero_le _
    · exact lwNet_le (netB_T _ h)
theorem plain_3 (b : Int) (l : List LabLink) : F3 b l = true := by
  unfold F3
  by_cases hs : F18 l 1048576 < 0
  · rw [decide_eq_true hs]; rfl
  · have hl := (gb18 l 1048576 (by omega) (by omega) (by omega)).2
    obtain ⟨m1, m2⟩ := marks (n := (F21 b l).1) (by have := open_small b l; omega)
    have m3 := marksL (l := l) (by omega)
    rw [open_eq, m1, m2, decide_eq_false hs]
    have d1 : ¬ (1 + (lwLabNet (F21 b l).1 : Int) < 0) := by omega
    have d2 : ¬ ((F24 l 1).1 < 0) := by omega
    simp [d1, d2]
/-! ### Paths -/

/-- the boxes and labels that rows lead to, in at most so many boxes -/
def pathFrom (n : LabNet) : Nat → Int → Int → Option (List (Int × Int))
  | 0, _, _ => none
  | m + 1, box, label => match rowIx (n.Boxes.getD (Int.toNat box) default) label with
    | none => none
    | some k => if ((n.Boxes.getD (Int.toNat box) default).Rows.getD k default).Next < 0 then some [(box, label)]
      else (pathFrom n m ((n.Boxes.getD (Int.toNat box) default).Rows.getD k default).Next ((n.Boxes.getD (Int.toNat box) default).Rows.getD k default).Out).map ((box, label) :: ·)
def pathRes : Option (List (Int × Int)) → List Int × List Int × Bool
  | some l => (l.map (·.1), l.map (·.2), true)
  | none => ([], [], false)
theorem rowsFrom_go {n : LabNet} (h : NetOk n) (b0 l0 : Int) : ∀ (m : Nat) (box label : Int) (bs ls : List Int), 0 ≤ box → box < (n.Boxes.length : Int) → bs.length + m = n.Boxes.length →
    (runL (F86_s0 n b0 l0) (m + 1) (box, label, bs, ls)).fin (fun r => r) (fun s => (s.2.2.1, s.2.2.2, true)) = match pathFrom n m box label with
      | some l => (bs ++ l.map (·.1), ls ++ l.map (·.2), true)
      | none => ([], [], false)
  | m, box, label, bs, ls, h0, h1, hm => by
    have hne : (box != (-1)) = true := by simp; omega
    cases e : rowIx (n.Boxes.getD (Int.toNat box) default) label with
    | none =>
      have e1 : F86_s0 n b0 l0 (box, label, bs, ls) = .ret ([], [], false) := by
        simp only [F86_s0, hne, cond_true, rowP, e, Bool.not_false]
      simp only [runL, e1, Lp.fin]
      cases m <;> simp only [pathFrom, e]
    | some k =>
      have hk := (first_some.1 e).1
      have e2 : rowP (n.Boxes.getD (Int.toNat box) default) label = ((n.Boxes.getD (Int.toNat box) default).Rows.getD k default, true) := by simp only [rowP, e]
      have hn := row_next h h0 h1 (k := (k : Int)) (by omega) (by omega)
      rw [nn] at hn
      cases m with
      | zero =>
        have hl : ((bs.length : Int) == (n.Boxes.length : Int)) = true := by simp; omega
        have e1 : F86_s0 n b0 l0 (box, label, bs, ls) = .ret ([], [], false) := by
          simp only [F86_s0, hne, cond_true, e2, Bool.not_true, cond_false, hl]
        simp only [runL, e1, Lp.fin, pathFrom]
      | succ m =>
        have hl : ((bs.length : Int) == (n.Boxes.length : Int)) = false := by simp; omega
        have e1 : F86_s0 n b0 l0 (box, label, bs, ls) = .next (((n.Boxes.getD (Int.toNat box) default).Rows.getD k default).Next, ((n.Boxes.getD (Int.toNat box) default).Rows.getD k default).Out, bs ++ [box], ls ++ [label]) := by
          simp only [F86_s0, hne, cond_true, e2, Bool.not_true, cond_false, hl]
        rw [runL, e1]
        simp only [pathFrom, e]
        generalize (n.Boxes.getD (Int.toNat box) default).Rows.getD k default = r at *
        rcases hn with hn | hn
        · have e3 : F86_s0 n b0 l0 (r.Next, r.Out, bs ++ [box], ls ++ [label]) = .done (r.Next, r.Out, bs ++ [box], ls ++ [label]) := by
            have : (r.Next != (-1)) = false := by simp [hn]
            simp only [F86_s0, this, cond_false]
          have : r.Next < 0 := by omega
          simp only [runL, e3, Lp.fin, if_pos this, List.map_cons, List.map_nil]
        · have hp : ¬ r.Next < 0 := by omega
          rw [rowsFrom_go h b0 l0 m r.Next r.Out (bs ++ [box]) (ls ++ [label]) hn.1 hn.2 (by simp; omega), if_neg hp]
          cases pathFrom n m r.Next r.Out <;> simp
theorem as86 (n : LabNet) (box label : Int) (h : NetOk n) (h0 : 0 ≤ box) (h1 : box < (n.Boxes.length : Int)) : F86 n box label = pathRes (pathFrom n n.Boxes.length box label) := by
  unfold F86
  have e : Int.toNat ((n.Boxes.length : Int) - (([] : List Int).length : Int)) = n.Boxes.length := by simp
  rw [e]
  refine (rowsFrom_go h box label n.Boxes.length box label [] [] h0 h1 (by simp)).trans ?_
  cases pathFrom n n.Boxes.length box label <;> rfl
theorem specPath_go {n : LabNet} (h : NetOk n) (b0 l0 : Int) : ∀ (m : Nat) (box label : Int) (bs : List Int), 0 ≤ box → box < (n.Boxes.length : Int) → bs.length + m = n.Boxes.length →
    (runL (F33_s0 n b0 l0) (m + 1) (box, label, bs)).fin (fun r => r) (fun _ => ([] : List Int)) = match pathFrom n m box label with
      | some l => bs ++ l.map (·.1)
      | none => []
  | 0, box, label, bs, h0, h1, hm => by
    have hl : decide ((bs.length : Int) < (n.Boxes.length : Int)) = false := by simp; omega
    have e1 : F33_s0 n b0 l0 (box, label, bs) = .done (box, label, bs) := by simp only [F33_s0, hl, cond_false]
    simp only [runL, e1, Lp.fin, pathFrom]
  | m + 1, box, label, bs, h0, h1, hm => by
    have hl : decide ((bs.length : Int) < (n.Boxes.length : Int)) = true := by simp; omega
    cases e : rowIx (n.Boxes.getD (Int.toNat box) default) label with
    | none =>
      have e1 : F33_s0 n b0 l0 (box, label, bs) = .ret [] := by
        simp only [F33_s0, hl, cond_true, e, oix]; rfl
      simp only [runL, e1, Lp.fin, pathFrom, e]
    | some k =>
      have hk := (first_some.1 e).1
      have hn := row_next h h0 h1 (k := (k : Int)) (by omega) (by omega)
      rw [nn] at hn
      have e2 : decide (oix (some k) < 0) = false := decide_eq_false (by simp only [oix]; omega)
      have e3 : Int.toNat (oix (some k)) = k := rfl
      rw [runL]
      simp only [F33_s0, hl, cond_true, e, e2, cond_false, e3, pathFrom]
      generalize (n.Boxes.getD (Int.toNat box) default).Rows.getD k default = r at *
      rcases hn with hn | hn
      · have hp : r.Next < 0 := by omega
        simp [Lp.fin, hp]
      · have hp : ¬ r.Next < 0 := by omega
        simp only [decide_eq_false hp, cond_false, if_neg hp]
        refine (specPath_go h b0 l0 m r.Next r.Out (bs ++ [box]) hn.1 hn.2 (by simp; omega)).trans ?_
        cases pathFrom n m r.Next r.Out <;> simp
/-- what LabPath answers -/
def labPath (n : LabNet) (box label : Int) : List Int := bif netB n && decide (0 ≤ box ∧ box ≤ (n.Boxes.length : Int) - 1) then (pathRes (pathFrom n n.Boxes.length box label)).1 else []
theorem as33 (n : LabNet) (box label : Int) : F33 n box label = labPath n box label := by
  unfold F33 labPath
  cases hb : netB n
  · rfl
  · by_cases h : 0 ≤ box ∧ box ≤ (n.Boxes.length : Int) - 1
    · rw [decide_eq_true h]
      simp only [Bool.not_true, cond_false, Bool.and_self, cond_true]
      have e : Int.toNat ((n.Boxes.length : Int) - (([] : List Int).length : Int)) = n.Boxes.length := by simp
      rw [e]
      refine (specPath_go (netB_T n hb) box label n.Boxes.length box label [] (by omega) (by omega) (by simp)).trans ?_
      cases pathFrom n n.Boxes.length box label <;> rfl
    · rw [decide_eq_false h]; rfl
theorem pathFrom_len (n : LabNet) : ∀ (m : Nat) (b l : Int) (x : List (Int × Int)), pathFrom n m b l = some x → x.length ≤ m
  | 0, b, l, x, h => by cases h
  | m + 1, b, l, x, h => by
    simp only [pathFrom] at h
    split at h
    · cases h
    · split at h
      · cases h; simp
      · cases e : pathFrom n m _ _ with
        | none => rw [e] at h; cases h
        | some y =>
          rw [e] at h
          cases h
          have := pathFrom_len n m _ _ y e
          simp only [List.length_cons]; omega
theorem pathRes_len (n : LabNet) (m : Nat) (b l : Int) : (pathRes (pathFrom n m b l)).1.length ≤ m ∧ (pathRes (pathFrom n m b l)).2.1.length = (pathRes (pathFrom n m b l)).1.length := by
  cases e : pathFrom n m b l with
  | none => exact ⟨Nat.zero_le _, rfl⟩
  | some x => have := pathFrom_len n m b l x e; simp only [pathRes, List.length_map]; exact ⟨this, trivial⟩

/-! ### Steps -/

theorem isLabel_mem {n : LabNet} {p : LabPacket} (h : packB n p = true) {x : Int} (hx : x ∈ p.Stack) : isLabel x := by
  unfold packB at h
  simp only [Bool.and_eq_true, allB_iff] at h
  obtain ⟨k, hk, rfl⟩ := mem_getD hx
  simpa using h.2.2 k hk
theorem packB_of {n : LabNet} {p : LabPacket} (h1 : 0 ≤ p.Box) (h2 : p.Box < (n.Boxes.length : Int)) (h3 : p.Stack.length ≤ 8) (h4 : ∀ x ∈ p.Stack, isLabel x) : packB n p = true := by
  unfold packB
  simp only [Bool.and_eq_true, allB_iff, decide_eq_true_eq]
  exact ⟨⟨h1, by omega⟩, by omega, fun k hk => by simpa using h4 _ (getD_mem _ hk)⟩
theorem step_eq {n : LabNet} (h : NetOk n) (down : List Int) (p : LabPacket) (hp : packB n p = true) : F91 n down p = F93 n down p := by
  obtain ⟨h0, h1, h2⟩ := packB_T n p hp
  unfold F91 F93
  simp only [hp, Bool.not_true, cond_false]
  by_cases hs : (p.Stack.length : Int) - 1 < 0
  · rw [decide_eq_true hs]; rfl
  · rw [decide_eq_false hs]
    simp only [cond_false]
    generalize p.Stack.getD (Int.toNat ((p.Stack.length : Int) - 1)) default = top
    cases e : rowIx (n.Boxes.getD (Int.toNat p.Box) default) top with
    | none => simp only [rowP, e]; rfl
    | some k =>
      have hk := (first_some.1 e).1
      have hn := row_next h h0 (by omega) (k := (k : Int)) (by omega) (by omega)
      rw [nn] at hn
      have e2 : decide (oix (some k) < 0) = false := decide_eq_false (by simp only [oix]; omega)
      have e3 : Int.toNat (oix (some k)) = k := rfl
      simp only [rowP, e, e2, e3, cond_false, Bool.not_true]
      generalize (n.Boxes.getD (Int.toNat p.Box) default).Rows.getD k default = r at *
      have e4 : decide (r.Next < 0) = (r.Next == -1) := by
        rw [beqD]; (rw [Bool.eq_iff_iff]; simp only [Bool.and_eq_true, Bool.or_eq_true, Bool.not_eq_true', Bool.not_eq_false', decide_eq_true_eq, decide_eq_false_iff_not, Bool.and_eq_false_iff, Bool.or_eq_false_iff]; omega)
      rw [e4]
      cases (r.Next == -1)
      · simp only [cond_false]
        cases decide (linkOf n p.Box r.Next ∈ down)
        · rfl
        · simp only [Bool.not_true, cond_false]
          cases e5 : guardIx (n.Boxes.getD (Int.toNat p.Box) default) r.Next with
          | none => simp only [guardP, e5]; rfl
          | some j =>
            have e6 : decide (oix (some j) < 0) = false := decide_eq_false (by simp only [oix]; omega)
            have e7 : Int.toNat (oix (some j)) = j := rfl
            simp only [guardP, e5, e6, e7, cond_false, Bool.not_true, Bool.not_not]
      · rfl
/-- what l75Step answers -/
def stepB (n : LabNet) (down : List Int) (p : LabPacket) : LabPacket × Int := bif packB n p then F93 n down p else (⟨0, []⟩, 2)
theorem as91 (n : LabNet) (down : List Int) (p : LabPacket) (h : NetOk n) : F91 n down p = stepB n down p := by
  unfold stepB
  cases hp : packB n p
  · unfold F91; rw [hp]; rfl
  · rw [step_eq h down p hp]; rfl
theorem mem_setL {α : Type} {xs : List α} {i : Nat} {a x : α} (h : x ∈ xs.set i a) : x ∈ xs ∨ x = a := by
  rcases List.mem_or_eq_of_mem_set h with h | h
  · exact .inl h
  · exact .inr h
/-- what a step leaves of a packet in order -/
theorem step_pack {n : LabNet} (h : NetOk n) (down : List Int) (p : LabPacket) (hp : packB n p = true) : packB n (F93 n down p).1 = true := by
  obtain ⟨h0, h1, h2⟩ := packB_T n p hp
  have hm := fun x hx => isLabel_mem hp (x := x) hx
  unfold F93
  by_cases hs : (p.Stack.length : Int) - 1 < 0
  · rw [decide_eq_true hs]; exact hp
  · rw [decide_eq_false hs]
    simp only [cond_false]
    generalize p.Stack.getD (Int.toNat ((p.Stack.length : Int) - 1)) default = top
    cases e : rowIx (n.Boxes.getD (Int.toNat p.Box) default) top with
    | none => simp only [rowP, e]; exact hp
    | some k =>
      have hk := (first_some.1 e).1
      have hr := (h.box (Int.toNat p.Box) (by omega)).row k hk
      have hn := row_next h h0 (by omega) (k := (k : Int)) (by omega) (by omega)
      rw [nn] at hn
      simp only [rowP, e, cond_false, Bool.not_true]
      generalize (n.Boxes.getD (Int.toNat p.Box) default).Rows.getD k default = r at *
      cases e4 : (r.Next == -1)
      · simp only [cond_false]
        have hne : ¬ r.Next = -1 := beqF e4
        have hout : isLabel r.Out := by
          rcases hr.2 with h5 | h5
          · exact absurd h5.1 hne
          · exact h5.2
        cases decide (linkOf n p.Box r.Next ∈ down)
        · exact packB_of (by simp only [Bool.not_false, cond_true]; omega) (by simp only [Bool.not_false, cond_true]; omega) (by simp; omega) fun x hx => by
            rcases mem_setL hx with hx | rfl
            · exact hm x hx
            · exact hout
        · simp only [Bool.not_true, cond_false]
          cases e5 : guardIx (n.Boxes.getD (Int.toNat p.Box) default) r.Next with
          | none => simp only [guardP, e5]; exact hp
          | some j =>
            have hj := (first_some.1 e5).1
            have hv := (h.box (Int.toNat p.Box) (by omega)).via j hj
            simp only [guardP, e5, cond_false, Bool.not_true, Bool.not_not]
            generalize (n.Boxes.getD (Int.toNat p.Box) default).Guards.getD j default = v at *
            cases decide (linkOf n p.Box v.Via ∈ down)
            · simp only [cond_false]
              cases e8 : ((p.Stack.length : Int) == 8)
              · have h9 := beqF e8
                have hin := linkOf_in h.frame hv.2.1
                refine packB_of hin.2.2.1 hin.2.2.2.1 (by simp; omega) fun x hx => ?_
                rcases List.mem_append.1 hx with hx | hx
                · rcases mem_setL hx with hx | rfl
                  · exact hm x hx
                  · exact hout
                · rw [List.mem_singleton.1 hx]; exact hv.2.2.2
              · exact hp
            · exact hp
      · simp only [cond_true]
        exact packB_of h0 (by show p.Box < _; omega) (by simp; omega) fun x hx => hm x (List.mem_of_mem_take hx)
theorem stepB_len (n : LabNet) (down : List Int) (p : LabPacket) (h : NetOk n) : (stepB n down p).1.Stack.length ≤ 8 := by
  unfold stepB
  cases hp : packB n p
  · exact Nat.zero_le _
  · have := packB_T n _ (step_pack h down p hp); simp only [cond_true]; omega
theorem step_pack' (n : LabNet) (down : List Int) (p : LabPacket) (h : NetOk n) (hp : packB n p = true) : packB n (F93 n down p).1 = true := step_pack h down p hp
theorem step_range (n : LabNet) (down : List Int) (p : LabPacket) (h : NetOk n) (hp : packB n p = true) : 0 ≤ (F93 n down p).1.Box ∧ (F93 n down p).1.Box ≤ (n.Boxes.length : Int) - 1 ∧ ((F93 n down p).1.Stack.length : Int) ≤ 8 := packB_T n _ (step_pack h down p hp)
end Go.Proofs.Ytjefeigdapcleaa
