/- Plain laws: words, sides and worlds in order. -/
import Derived.Test.YtjcgnlpimefhpaaVHW
namespace Go.Proofs.Ytjcgnlpimefhpaa
open Go.RowKit
set_option maxRecDepth 100000
set_option linter.unusedVariables false
set_option linter.unusedSimpArgs false
theorem wordOk_eq (w : HelloWord) : F62 w = F63 w := by
  unfold F62 F63
  rw [changeOk_eq]
  generalize decide (0 ≤ w.From ∧ w.From ≤ 65535) = b1
  generalize decide (0 ≤ w.To ∧ w.To ≤ 65535) = b2
  generalize decide (1 ≤ w.Key ∧ w.Key ≤ 9) = b3
  generalize decide (1 ≤ w.Boot ∧ w.Boot ≤ 999) = b4
  generalize decide (0 ≤ w.Yours ∧ w.Yours ≤ 999) = b5
  generalize decide (1 ≤ w.Turn ∧ w.Turn ≤ 1000000) = b6
  generalize decide (0 ≤ w.Num ∧ w.Num ≤ w.Turn) = b7
  generalize decide (0 ≤ w.Heard ∧ w.Heard ≤ 1000000) = b8
  generalize decide (0 ≤ w.Sum ∧ w.Sum ≤ 2147483646) = b9
  cases b1
  · simp
  cases b2
  · simp
  cases b3
  · simp
  cases b4
  · simp
  cases b5
  · simp
  cases b6
  · simp
  cases b7
  · simp
  cases b8
  · simp
  cases b9
  · simp
  rfl
/-- what an end in order tells of its numbers -/
theorem endOk_facts {e : HelloEnd} (h : F90 e = true) : (e.PeerBoot = 0 ↔ e.PeerTurn = 0) ∧ (0 ≤ e.Left ∧ e.Left ≤ 4) ∧ ¬ (e.Left > 0 ∧ e.PeerBoot = 0) ∧ F142 e.Under = true ∧ F171 e = true := by
  have h1 : ((e.PeerBoot == 0) == (e.PeerTurn == 0)) = true := by
    cases x : ((e.PeerBoot == 0) == (e.PeerTurn == 0)) with
    | true => rfl
    | false => simp only [F90, x, Bool.not_false, Bool.cond_true_right, Bool.cond_true_left, Bool.cond_false_left, Bool.or_true, Bool.not_true, Bool.false_and, Bool.and_false] at h; cases h
  have h2 : decide (0 ≤ e.Left ∧ e.Left ≤ 4) = true := by
    cases x : decide (0 ≤ e.Left ∧ e.Left ≤ 4) with
    | true => rfl
    | false => simp only [F90, x, Bool.not_false, Bool.cond_true_left, Bool.cond_false_left, Bool.true_or, Bool.or_true, Bool.not_true, Bool.false_and, Bool.and_false] at h; cases h
  have h3 : (bif decide (e.Left > 0) then (e.PeerBoot == 0) else false) = false := by
    cases x : (bif decide (e.Left > 0) then (e.PeerBoot == 0) else false) with
    | false => rfl
    | true => simp only [F90, x, Bool.not_false, Bool.cond_true_left, Bool.cond_false_left, Bool.true_or, Bool.or_true, Bool.not_true, Bool.false_and, Bool.and_false] at h; cases h
  have h4 : F142 e.Under = true := by
    cases x : F142 e.Under with
    | true => rfl
    | false => simp [F90, x] at h
  have h5 : F171 e = true := by
    cases x : F171 e with
    | true => rfl
    | false => simp [F90, x] at h
  refine ⟨?_, of_decide_eq_true h2, ?_, h4, h5⟩
  · have := eq_of_beq h1
    rw [beqD, beqD, decide_eq_decide] at this
    exact this
  · simp only [Bool.cond_false_right, Bool.and_eq_false_iff, decide_eq_false_iff_not, beq_eq_false_iff_ne, ne_eq] at h3
    omega
theorem change_zero {c : HelloChange} (h : F142 c = true) (hk : c.Kind = 0) : c.Entry.Addr = 0 ∧ c.Entry.Len = 0 ∧ c.Entry.Cost = 0 ∧ c.Entry.Label = 0 := by
  unfold F142 at h
  have e0 : (c.Kind == 0) = true := by simpa using hk
  rw [e0] at h
  simpa using h
theorem heard_keep {e : HelloEnd} (h : F171 e = true) (hn : e.Heard.length = 0) : e.Keep = 0 := by
  rw [heardS_eq] at h
  have hz : e.Heard = [] := List.eq_nil_of_length_eq_zero hn
  cases hk : decide (0 ≤ e.Keep ∧ e.Keep ≤ 6) with
  | false => rw [hk] at h; simp at h
  | true =>
    have hk' := of_decide_eq_true hk
    rw [hk, hz] at h
    have : ¬ e.Keep > 0 := fun hc => by
      rw [decide_eq_true hc] at h
      simp [anySt] at h
    omega
theorem rest_eq {e : HelloEnd} (h : F90 e = true) : F112 e =
    (bif (bif (bif (bif (bif (bif (bif (bif (bif (e.Turn == 0) then (e.PeerBoot == 0) else false) then (!e.Up) else false) then (e.Num == 0) else false) then (e.Under.Kind == 0) else false) then ((e.Told.length : Int) == 0) else false) then (!e.All) else false) then (e.Got == 0) else false) then (!e.Full) else false) then ((e.Heard.length : Int) == 0) else false) := by
  obtain ⟨f1, f2, f3, f4, f5⟩ := endOk_facts h
  unfold F112
  rw [Bool.eq_iff_iff]
  simp only [Bool.cond_false_right, Bool.and_eq_true, beq_iff_eq]
  constructor
  · exact fun ⟨⟨⟨⟨⟨⟨⟨⟨⟨⟨⟨⟨a1, a2⟩, a3⟩, a4⟩, a5⟩, a6⟩, a7⟩, a8⟩, a9⟩, b1⟩, b2⟩, b3⟩, b4⟩ => ⟨⟨⟨⟨⟨⟨⟨⟨⟨a1, a2⟩, a4⟩, a6⟩, a7.1⟩, a8⟩, a9⟩, b1⟩, b2⟩, b3⟩
  · exact fun ⟨⟨⟨⟨⟨⟨⟨⟨⟨a1, a2⟩, a4⟩, a6⟩, a7⟩, a8⟩, a9⟩, b1⟩, b2⟩, b3⟩ =>
      ⟨⟨⟨⟨⟨⟨⟨⟨⟨⟨⟨⟨a1, a2⟩, f1.1 a2⟩, a4⟩, by omega⟩, a6⟩, ⟨a7, change_zero f4 a7⟩⟩, a8⟩, a9⟩, b1⟩, b2⟩, b3⟩, heard_keep f5 (by omega)⟩
theorem first2 (p : Nat → Bool) : (first p 2).isNone = (!(p 0) && !(p 1)) := by
  unfold first
  cases h0 : p 0 <;> cases h1 : p 1 <;> simp [List.range_succ, h0, h1]
theorem worldOk_eq (w : HelloWorld) : F46 w = F44 w := by
  unfold F46 F44
  rw [allB (fun k => !(F63 (w.Radio.getD k default))) w.Radio.length _ (fun k hk => by simp only [F46_s1, ltD hk, cond_true, nn, wordOk_eq]) (by simp [F46_s1]),
    allB (fun k => !(F63 (w.Radio.getD k default))) w.Radio.length _ (fun k hk => by simp only [F44_s0, ltD hk, cond_true, nn]) (by simp [F44_s0])]
  by_cases h2 : w.Sides.length = 2
  · have hb : ((w.Sides.length : Int) != 2) = false := by simp [h2]
    rw [hb]
    rw [allB (fun k => bif (bif (!(F95 ((w.Sides.getD k default).End))) then true else (((w.Sides.getD k default).End).Name != ((w.Sides.getD (1 - k) default).End).Peer)) then true else (bif (!((w.Sides.getD k default).Up)) then (!(F112 ((w.Sides.getD k default).End))) else false)) w.Sides.length _ (fun k hk => by
      have e1 : Int.toNat (1 - (k : Int)) = 1 - k := by omega
      simp only [F46_s0, ltD hk, cond_true, nn, e1]) (by simp [F46_s0])]
    rw [h2, first2]
    simp only [Nat.sub_zero, Nat.sub_self, endOk_eq, Bool.and_true]
    have hz : Int.toNat 0 = 0 := rfl
    have ho : Int.toNat 1 = 1 := rfl
    rw [hz, ho]
    have hs : ∀ s : HelloSide, F109 s = (F90 s.End && (s.Up || F112 s.End)) := fun s => by
      unfold F109
      cases he : F90 s.End with
      | false => rfl
      | true => rw [rest_eq he]; cases s.Up <;> rfl
    rw [hs, hs]
    have hr : decide ((w.Radio.length : Int) > 12) = decide ((w.Radio.length : Int) > 12) := rfl
    generalize decide ((w.Radio.length : Int) > 12) = r1
    generalize (first (fun k => !(F63 (w.Radio.getD k default))) w.Radio.length).isNone = r2
    generalize ((w.Sides.getD 0 default).End.Name != (w.Sides.getD 1 default).End.Peer) = n1
    generalize ((w.Sides.getD 1 default).End.Name != (w.Sides.getD 0 default).End.Peer) = n2
    generalize F90 (w.Sides.getD 0 default).End = o1
    generalize F90 (w.Sides.getD 1 default).End = o2
    generalize (w.Sides.getD 0 default).Up = u1
    generalize (w.Sides.getD 1 default).Up = u2
    generalize F112 (w.Sides.getD 0 default).End = a1
    generalize F112 (w.Sides.getD 1 default).End = a2
    cases r1
    · cases o1
      · simp
      cases o2
      · simp
      cases n1
      · cases n2
        · cases u1 <;> cases u2 <;> cases a1 <;> cases a2 <;> simp
        · cases u1 <;> cases u2 <;> cases a1 <;> cases a2 <;> simp
      · simp
    · simp
  · have hb : ((w.Sides.length : Int) != 2) = true := by
      have : ¬ (w.Sides.length : Int) = 2 := by omega
      simpa using this
    rw [hb]
    simp
/-- the lists of an end in order -/
structure EndFit (e : HelloEnd) : Prop where
  told : TblOk e.Told
  want : TblOk e.Want
  under : EIn e.Under.Entry
  heard : e.Heard.length ≤ 16
  keys : e.Keys.length ≤ 3
theorem EndFit.heardB {e : HelloEnd} (h : EndFit e) : e.Heard.length ≤ 1000000000 := Nat.le_trans h.heard (by decide)
theorem EndFit.told8 {e : HelloEnd} (h : EndFit e) : e.Told.length ≤ 8 := h.told.len
theorem EndFit.toldB {e : HelloEnd} (h : EndFit e) : e.Told.length ≤ 1000000000 := Nat.le_trans h.told.len (by decide)
theorem endFitS (e : HelloEnd) (h : F90 e = true) : EndFit e := by
  have h0 := endOkS_T e h
  have h2 : F59 e.Want = true := by
    cases x : F59 e.Want with
    | true => rfl
    | false => simp [F90, x] at h
  have h3 : F59 e.Told = true := by
    cases x : F59 e.Told with
    | true => rfl
    | false => simp [F90, x] at h
  exact ⟨tableOkS_T _ h3, tableOkS_T _ h2, change_in _ (endOk_facts h).2.2.2.1, by omega, by omega⟩
theorem EndFit.wantB {e : HelloEnd} (h : EndFit e) : e.Want.length ≤ 1000000000 := Nat.le_trans h.want.len (by decide)
theorem EndFit.like {e x : HelloEnd} (h : EndFit e) (h1 : x.Told = e.Told) (h2 : x.Want = e.Want) (h3 : x.Under.Entry = e.Under.Entry) (h4 : x.Heard = e.Heard) (h5 : x.Keys = e.Keys) : EndFit x :=
  ⟨h1 ▸ h.told, h2 ▸ h.want, h3 ▸ h.under, h4 ▸ h.heard, h5 ▸ h.keys⟩
theorem EndFit.side {w : HelloWorld} (h : ∀ k : Nat, EndFit (w.Sides.getD k default).End) (k : Nat) : EndFit (w.Sides.getD k default).End := h k
theorem endFitI (e : HelloEnd) (h : F95 e = true) : EndFit e := endFitS e (endOk_eq e ▸ h)
theorem endFit_default : EndFit default := by
  have ht : TblOk [] := ⟨by simp, fun k hk => by simp at hk, fun k hk => by simp at hk⟩
  exact ⟨ht, ht, by unfold EIn; decide, by decide, by decide⟩
theorem worldS_facts {w : HelloWorld} (h : F44 w = true) : w.Sides.length = 2 ∧ F90 (w.Sides.getD 0 default).End = true ∧ F90 (w.Sides.getD 1 default).End = true := by
  have hz : Int.toNat 0 = 0 := rfl
  have ho : Int.toNat 1 = 1 := rfl
  unfold F44 at h
  rw [hz, ho] at h
  have hs : ∀ s : HelloSide, F109 s = true → F90 s.End = true := fun s hs => by
    unfold F109 at hs
    cases x : F90 s.End with
    | true => rfl
    | false => rw [x] at hs; cases hs
  refine ⟨?_, hs _ ?_, hs _ ?_⟩
  · by_cases x : w.Sides.length = 2
    · exact x
    · have hb : ((w.Sides.length : Int) != 2) = true := by
        have : ¬ (w.Sides.length : Int) = 2 := by omega
        simpa using this
      rw [hb] at h
      simp at h
  · cases x : F109 (w.Sides.getD 0 default) with
    | true => rfl
    | false => rw [x] at h; simp at h
  · cases x : F109 (w.Sides.getD 1 default) with
    | true => rfl
    | false => rw [x] at h; simp at h
theorem worldS_two (w : HelloWorld) (h : F44 w = true) : w.Sides.length = 2 := (worldS_facts h).1
theorem worldS_fit (w : HelloWorld) (h : F44 w = true) : ∀ k : Nat, EndFit (w.Sides.getD k default).End := fun k => by
  obtain ⟨h1, h2, h3⟩ := worldS_facts h
  match k with
  | 0 => exact endFitS _ h2
  | 1 => exact endFitS _ h3
  | k + 2 =>
    have : w.Sides.getD (k + 2) default = default := by
      rw [List.getD_eq_getElem?_getD, List.getElem?_eq_none (by omega)]; rfl
    rw [this]; exact endFit_default
theorem worldI_two (w : HelloWorld) (h : F46 w = true) : w.Sides.length = 2 := worldS_two w (worldOk_eq w ▸ h)
theorem worldI_fit (w : HelloWorld) (h : F46 w = true) : ∀ k : Nat, EndFit (w.Sides.getD k default).End := worldS_fit w (worldOk_eq w ▸ h)

end Go.Proofs.Ytjcgnlpimefhpaa
