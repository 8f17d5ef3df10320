/- Plain laws of nets: what is a net in order, links, copies. -/
import Derived.Test.YtjefeigdapcleaaGreatV1
namespace Go.Proofs.YtjefeigdapcleaaGreat
open Go.RowKit
set_option maxRecDepth 100000
set_option linter.unusedVariables false
set_option linter.unusedSimpArgs false
/-- boxes and links are in order -/
structure FrameOk (n : LabNet) : Prop where
  b1 : 1 ≤ n.Boxes.length
  b8 : n.Boxes.length ≤ 8
  l14 : n.Links.length ≤ 14
  ab : ∀ k, k < n.Links.length → 0 ≤ (n.Links.getD k default).A ∧ (n.Links.getD k default).A < (n.Links.getD k default).B ∧ (n.Links.getD k default).B < (n.Boxes.length : Int)
  inc : ∀ k, k + 1 < n.Links.length → (n.Links.getD k default).A < (n.Links.getD (k + 1) default).A ∨ ((n.Links.getD k default).A = (n.Links.getD (k + 1) default).A ∧ (n.Links.getD k default).B < (n.Links.getD (k + 1) default).B)

/-- a link is out of order -/
def badL (n : LabNet) (k : Nat) : Bool :=
  (decide ((n.Links.getD k default).A < 0) || decide ((n.Links.getD k default).A ≥ (n.Links.getD k default).B) || decide ((n.Links.getD k default).B ≥ (n.Boxes.length : Int))) ||
  (decide (0 < k) && (decide ((n.Links.getD (k - 1) default).A > (n.Links.getD k default).A) || (decide ((n.Links.getD (k - 1) default).A = (n.Links.getD k default).A) && decide ((n.Links.getD (k - 1) default).B ≥ (n.Links.getD k default).B))))
theorem s83 (n : LabNet) (k : Nat) (hk : k < n.Links.length) : F83_s0 n (k : Int) = bif badL n k then .ret false else .next ((k : Int) + 1) := by
  simp only [F83_s0, ltD hk, cond_true, nn, bord, bandd, toNat_pred, pos_cast, beqD]
  rw [ret_or]
  rfl
theorem s35 (n : LabNet) (k : Nat) (hk : k < n.Links.length) : F35_s0 n (k : Int) = bif badL n k then .ret false else .next ((k : Int) + 1) := by
  simp only [F35_s0, ltD hk, cond_true, nn, bord, bandd, toNat_pred, pos_cast, beqD, F73]
  rw [ret_or]
  unfold badL
  congr 2
  congr 1
  (rw [Bool.eq_iff_iff]; simp only [Bool.and_eq_true, Bool.or_eq_true, Bool.not_eq_true', Bool.not_eq_false', decide_eq_true_eq, decide_eq_false_iff_not, Bool.and_eq_false_iff, Bool.or_eq_false_iff]; omega)
theorem frame_eq (n : LabNet) : F83 n = (decide (1 ≤ (n.Boxes.length : Int) ∧ (n.Boxes.length : Int) ≤ 8) && (decide ((n.Links.length : Int) ≤ 14) && (first (badL n) n.Links.length).isNone)) := by
  unfold F83
  rw [allB (badL n) n.Links.length _ (s83 n) (by simp [F83_s0])]
  cases decide (1 ≤ (n.Boxes.length : Int) ∧ (n.Boxes.length : Int) ≤ 8)
  · rfl
  · by_cases h : (n.Links.length : Int) > 14
    · have h' : ¬ (n.Links.length : Int) ≤ 14 := by omega
      simp only [decide_eq_true h, decide_eq_false h']; rfl
    · have h' : (n.Links.length : Int) ≤ 14 := by omega
      simp only [decide_eq_false h, decide_eq_true h', Bool.and_true]; rfl
theorem linksOk_eq (n : LabNet) : F35 n = ((first (badL n) n.Links.length).isNone && decide ((n.Links.length : Int) ≤ 14)) := by
  unfold F35
  rw [allB (badL n) n.Links.length _ (s35 n) (by simp [F35_s0])]
theorem frame_ok {n : LabNet} : F83 n = true ↔ FrameOk n := by
  rw [frame_eq]
  simp only [Bool.and_eq_true, decide_eq_true_eq, allB_iff, badL, Bool.or_eq_false_iff, Bool.and_eq_false_iff, decide_eq_false_iff_not]
  constructor
  · rintro ⟨⟨h1, h2⟩, h3, h4⟩
    refine ⟨by omega, by omega, by omega, fun k hk => ?_, fun k hk => ?_⟩
    · have := (h4 k hk).1; omega
    · have := (h4 (k + 1) hk).2
      simp only [Nat.add_sub_cancel] at this
      omega
  · intro h
    have := h.b1; have := h.b8; have := h.l14
    refine ⟨⟨by omega, by omega⟩, by omega, fun k hk => ⟨?_, ?_⟩⟩
    · have := h.ab k hk; omega
    · cases k with
      | zero => left; omega
      | succ k =>
        right
        have := h.inc k hk
        simp only [Nat.add_sub_cancel]
        omega

/-! ### The link of two boxes -/

def isLink (n : LabNet) (a b : Int) (k : Nat) : Bool :=
  (decide ((n.Links.getD k default).A = a) && decide ((n.Links.getD k default).B = b)) || (decide ((n.Links.getD k default).A = b) && decide ((n.Links.getD k default).B = a))
/-- the place of the link of two boxes, or -1 -/
def linkOf (n : LabNet) (a b : Int) : Int := match first (isLink n a b) n.Links.length with
  | some k => (k : Int)
  | none => -1
theorem specLink_eq (n : LabNet) (a b : Int) : F51 n a b = linkOf n a b := by
  unfold F51 linkOf
  rw [search (isLink n a b) (fun k => (k : Int)) n.Links.length _ (fun k hk => by simp only [F51_s0, ltD hk, cond_true, nn, bord, bandd, beqD]; rfl) (by simp [F51_s0])]
  cases first (isLink n a b) n.Links.length <;> rfl
theorem implLink_eq {n : LabNet} (h : FrameOk n) (a b : Int) : F55 n a b = linkOf n a b := by
  unfold F55 linkOf F98
  rw [search (fun k => (decide ((if b < a then b else a) = (n.Links.getD k default).A) && decide ((if b > a then b else a) = (n.Links.getD k default).B))) (fun k => (k : Int)) n.Links.length _
    (fun k hk => by simp only [F98_s0, ltD hk, cond_true, nn, beqD]) (by simp [F98_s0])]
  have e : first (fun k => (decide ((if b < a then b else a) = (n.Links.getD k default).A) && decide ((if b > a then b else a) = (n.Links.getD k default).B))) n.Links.length = first (isLink n a b) n.Links.length := first_congr fun k hk => by
    have := h.ab k hk
    unfold isLink
    split <;> split <;> (rw [Bool.eq_iff_iff]; simp only [Bool.and_eq_true, Bool.or_eq_true, Bool.not_eq_true', Bool.not_eq_false', decide_eq_true_eq, decide_eq_false_iff_not, Bool.and_eq_false_iff, Bool.or_eq_false_iff]; omega)
  rw [e]
  cases first (isLink n a b) n.Links.length <;> rfl
theorem linkOf_comm (n : LabNet) (a b : Int) : linkOf n a b = linkOf n b a := by
  unfold linkOf
  have e : first (isLink n a b) n.Links.length = first (isLink n b a) n.Links.length := first_congr fun k _ => by unfold isLink; exact Bool.or_comm _ _
  rw [e]
theorem linkOf_some {n : LabNet} {a b : Int} (h : 0 ≤ linkOf n a b) : (linkOf n a b).toNat < n.Links.length ∧ isLink n a b (linkOf n a b).toNat = true := by
  unfold linkOf at h ⊢
  cases e : first (isLink n a b) n.Links.length with
  | none => rw [e] at h; exact absurd h (by decide)
  | some k =>
    simp only [Int.toNat_natCast]
    have := first_some.1 e
    exact ⟨this.1, this.2.1⟩
theorem linkOf_lt {n : LabNet} (a b : Int) : linkOf n a b < (n.Links.length : Int) := by
  unfold linkOf
  cases e : first (isLink n a b) n.Links.length with
  | none => simp only; omega
  | some k => have := (first_some.1 e).1; simp only; omega
theorem linkOf_ge (n : LabNet) (a b : Int) : -1 ≤ linkOf n a b := by
  unfold linkOf; split <;> omega
theorem linkOf_in {n : LabNet} (h : FrameOk n) {a b : Int} (hl : 0 ≤ linkOf n a b) : 0 ≤ a ∧ a < (n.Boxes.length : Int) ∧ 0 ≤ b ∧ b < (n.Boxes.length : Int) ∧ a ≠ b := by
  obtain ⟨h1, h2⟩ := linkOf_some hl
  have := h.ab _ h1
  simp only [isLink, Bool.or_eq_true, Bool.and_eq_true, decide_eq_true_eq] at h2
  omega
/-- a link of two boxes is the only one -/
theorem link_unique {n : LabNet} (h : FrameOk n) : ∀ (d j : Nat), j + d + 1 < n.Links.length → (n.Links.getD j default).A < (n.Links.getD (j + d + 1) default).A ∨ ((n.Links.getD j default).A = (n.Links.getD (j + d + 1) default).A ∧ (n.Links.getD j default).B < (n.Links.getD (j + d + 1) default).B)
  | 0, j, hj => h.inc j hj
  | d + 1, j, hj => by
    have h1 := link_unique h d j (by omega)
    have h2 := h.inc (j + d + 1) (by omega)
    have e : j + (d + 1) + 1 = j + d + 1 + 1 := by omega
    rw [e]
    omega
theorem isLink_unique {n : LabNet} (h : FrameOk n) {a b : Int} {j k : Nat} (hj : j < n.Links.length) (hk : k < n.Links.length) (h1 : isLink n a b j = true) (h2 : isLink n a b k = true) : j = k := by
  simp only [isLink, Bool.or_eq_true, Bool.and_eq_true, decide_eq_true_eq] at h1 h2
  have a1 := h.ab j hj; have a2 := h.ab k hk
  rcases Nat.lt_trichotomy j k with hlt | rfl | hlt
  · have := link_unique h (k - j - 1) j (by omega)
    have e : j + (k - j - 1) + 1 = k := by omega
    rw [e] at this
    omega
  · rfl
  · have := link_unique h (j - k - 1) k (by omega)
    have e : k + (j - k - 1) + 1 = j := by omega
    rw [e] at this
    omega
theorem linkOf_of {n : LabNet} (h : FrameOk n) {a b : Int} {k : Nat} (hk : k < n.Links.length) (h1 : isLink n a b k = true) : linkOf n a b = k := by
  unfold linkOf
  cases e : first (isLink n a b) n.Links.length with
  | none => have := first_none.1 e k hk; rw [this] at h1; cases h1
  | some j =>
    have := first_some.1 e
    rw [isLink_unique h this.1 hk this.2.1 h1]

/-! ### Boxes -/

def isLabel (x : Int) : Prop := 1 ≤ x ∧ x ≤ 60
instance (x : Int) : Decidable (isLabel x) := inferInstanceAs (Decidable (1 ≤ x ∧ x ≤ 60))
/-- a row of a box is in order -/
def rowOk (n : LabNet) (box : Int) (r : LabRow) : Prop := isLabel r.In ∧ ((r.Next = -1 ∧ r.Out = 0) ∨ (0 ≤ linkOf n box r.Next ∧ isLabel r.Out))
def viaOk (n : LabNet) (box : Int) (v : LabVia) : Prop := 0 ≤ linkOf n box v.To ∧ 0 ≤ linkOf n box v.Via ∧ v.To ≠ v.Via ∧ isLabel v.Push
instance (n : LabNet) (b : Int) (r : LabRow) : Decidable (rowOk n b r) := inferInstanceAs (Decidable (_ ∧ _))
instance (n : LabNet) (b : Int) (r : LabVia) : Decidable (viaOk n b r) := inferInstanceAs (Decidable (_ ∧ _))
theorem noLink {n : LabNet} (h : FrameOk n) (a : Int) : linkOf n a (-1) < 0 := by
  rcases Int.lt_or_le (linkOf n a (-1)) 0 with h1 | h1
  · exact h1
  · have := linkOf_in h h1; omega
theorem specRow_eq {n : LabNet} (h : FrameOk n) (box : Int) (r : LabRow) : F113 n box r = decide (rowOk n box r) := by
  have h1 := noLink h box
  simp only [F113, specLink_eq, beqD, bandd, eqstep]
  by_cases h2 : r.Next = -1
  · rw [← h2] at h1
    rw [decide_eq_true h2, cond_true]
    (rw [Bool.eq_iff_iff]; simp only [Bool.and_eq_true, Bool.or_eq_true, Bool.not_eq_true', Bool.not_eq_false', decide_eq_true_eq, decide_eq_false_iff_not, Bool.and_eq_false_iff, Bool.or_eq_false_iff]; simp only [rowOk, isLabel]; omega)
  · rw [decide_eq_false h2, cond_false]
    (rw [Bool.eq_iff_iff]; simp only [Bool.and_eq_true, Bool.or_eq_true, Bool.not_eq_true', Bool.not_eq_false', decide_eq_true_eq, decide_eq_false_iff_not, Bool.and_eq_false_iff, Bool.or_eq_false_iff]; simp only [rowOk, isLabel]; omega)
theorem specVia_eq (n : LabNet) (box : Int) (v : LabVia) : F114 n box v = decide (viaOk n box v) := by
  simp only [F114, specLink_eq, bandd, neI]
  (rw [Bool.eq_iff_iff]; simp only [Bool.and_eq_true, Bool.or_eq_true, Bool.not_eq_true', Bool.not_eq_false', decide_eq_true_eq, decide_eq_false_iff_not, Bool.and_eq_false_iff, Bool.or_eq_false_iff]; simp only [viaOk, isLabel]; omega)
/-- a box is in order -/
structure BoxOk (n : LabNet) (i : Nat) : Prop where
  row : ∀ k, k < (n.Boxes.getD i default).Rows.length → rowOk n i ((n.Boxes.getD i default).Rows.getD k default)
  rinc : ∀ k, k + 1 < (n.Boxes.getD i default).Rows.length → ((n.Boxes.getD i default).Rows.getD k default).In < ((n.Boxes.getD i default).Rows.getD (k + 1) default).In
  via : ∀ k, k < (n.Boxes.getD i default).Guards.length → viaOk n i ((n.Boxes.getD i default).Guards.getD k default)
  vinc : ∀ k, k + 1 < (n.Boxes.getD i default).Guards.length → ((n.Boxes.getD i default).Guards.getD k default).To < ((n.Boxes.getD i default).Guards.getD (k + 1) default).To
def badR (n : LabNet) (i : Nat) (k : Nat) : Bool := !decide (rowOk n i ((n.Boxes.getD i default).Rows.getD k default)) || (decide (0 < k) && decide (((n.Boxes.getD i default).Rows.getD (k - 1) default).In ≥ ((n.Boxes.getD i default).Rows.getD k default).In))
def badG (n : LabNet) (i : Nat) (k : Nat) : Bool := !decide (viaOk n i ((n.Boxes.getD i default).Guards.getD k default)) || (decide (0 < k) && decide (((n.Boxes.getD i default).Guards.getD (k - 1) default).To ≥ ((n.Boxes.getD i default).Guards.getD k default).To))
def boxB (n : LabNet) (i : Nat) : Bool := (first (badR n i) (n.Boxes.getD i default).Rows.length).isNone && (first (badG n i) (n.Boxes.getD i default).Guards.length).isNone
theorem boxB_ok {n : LabNet} {i : Nat} : boxB n i = true ↔ BoxOk n i := by
  simp only [boxB, Bool.and_eq_true, allB_iff, badR, badG, Bool.or_eq_false_iff, Bool.not_eq_false', decide_eq_true_eq, Bool.and_eq_false_iff, decide_eq_false_iff_not]
  constructor
  · rintro ⟨h1, h2⟩
    refine ⟨fun k hk => (h1 k hk).1, fun k hk => ?_, fun k hk => (h2 k hk).1, fun k hk => ?_⟩
    · have := (h1 (k + 1) hk).2; simp only [Nat.add_sub_cancel] at this; omega
    · have := (h2 (k + 1) hk).2; simp only [Nat.add_sub_cancel] at this; omega
  · rintro ⟨h1, h2, h3, h4⟩
    refine ⟨fun k hk => ⟨h1 k hk, ?_⟩, fun k hk => ⟨h3 k hk, ?_⟩⟩
    · cases k with
      | zero => left; omega
      | succ k => right; have := h2 k hk; simp only [Nat.add_sub_cancel]; omega
    · cases k with
      | zero => left; omega
      | succ k => right; have := h4 k hk; simp only [Nat.add_sub_cancel]; omega
theorem specBox_eq {n : LabNet} (h : FrameOk n) (i : Nat) : F84 n i = boxB n i := by
  unfold F84 boxB
  simp only [nn]
  rw [allB (badR n i) _ _ (fun k hk => by simp only [F84_s0, nn, ltD hk, cond_true, specRow_eq h, bord, bandd, toNat_pred, pos_cast]; rfl) (by simp [F84_s0])]
  rw [allB (badG n i) _ _ (fun k hk => by simp only [F84_s1, nn, ltD hk, cond_true, specVia_eq, bord, bandd, toNat_pred, pos_cast]; rfl) (by simp [F84_s1])]
  rw [Bool.and_true]
theorem implBox_eq {n : LabNet} (h : FrameOk n) (i : Nat) : F36 n i = boxB n i := by
  unfold F36 boxB
  simp only [nn]
  have hR : ∀ k : Nat, k < (n.Boxes.getD i default).Rows.length → F36_s0 n i k = bif badR n i k then .ret false else .next ((k : Int) + 1) := fun k hk => by
    simp only [F36_s0, nn, ltD hk, cond_true, implLink_eq h, bord, bandd, toNat_pred, pos_cast, beqD, badR, F74]
    have h1 := noLink h i
    generalize (n.Boxes.getD i default).Rows.getD k default = r
    generalize decide (0 < k) = x
    generalize (n.Boxes.getD i default).Rows.getD (k - 1) default = s
    congr 2
    by_cases h2 : r.Next = -1
    · rw [← h2] at h1
      (rw [Bool.eq_iff_iff]; simp only [Bool.and_eq_true, Bool.or_eq_true, Bool.not_eq_true', Bool.not_eq_false', decide_eq_true_eq, decide_eq_false_iff_not, Bool.and_eq_false_iff, Bool.or_eq_false_iff]; simp only [rowOk, isLabel]; omega)
    · (rw [Bool.eq_iff_iff]; simp only [Bool.and_eq_true, Bool.or_eq_true, Bool.not_eq_true', Bool.not_eq_false', decide_eq_true_eq, decide_eq_false_iff_not, Bool.and_eq_false_iff, Bool.or_eq_false_iff]; simp only [rowOk, isLabel]; omega)
  have hG : ∀ k : Nat, k < (n.Boxes.getD i default).Guards.length → F36_s1 n i k = bif badG n i k then .ret false else .next ((k : Int) + 1) := fun k hk => by
    simp only [F36_s1, nn, ltD hk, cond_true, implLink_eq h, bord, bandd, toNat_pred, pos_cast, beqD, badG, F74]
    generalize (n.Boxes.getD i default).Guards.getD k default = r
    generalize decide (0 < k) = x
    generalize (n.Boxes.getD i default).Guards.getD (k - 1) default = s
    congr 2
    (rw [Bool.eq_iff_iff]; simp only [Bool.and_eq_true, Bool.or_eq_true, Bool.not_eq_true', Bool.not_eq_false', decide_eq_true_eq, decide_eq_false_iff_not, Bool.and_eq_false_iff, Bool.or_eq_false_iff]; simp only [viaOk, isLabel]; omega)
  rw [allB (badR n i) _ _ hR (by simp [F36_s0])]
  rw [allB (badG n i) _ _ hG (by simp [F36_s1])]
  rw [Bool.and_true]

/-! ### Nets -/

structure NetOk (n : LabNet) : Prop where
  frame : FrameOk n
  box : ∀ i, i < n.Boxes.length → BoxOk n i
def netB (n : LabNet) : Bool := F83 n && (first (fun i => !boxB n i) n.Boxes.length).isNone
theorem netB_ok {n : LabNet} : netB n = true ↔ NetOk n := by
  unfold netB
  rw [Bool.and_eq_true, frame_ok, allB_iff]
  constructor
  · rintro ⟨h1, h2⟩
    exact ⟨h1, fun i hi => boxB_ok.1 (by simpa using h2 i hi)⟩
  · rintro ⟨h1, h2⟩
    exact ⟨h1, fun i hi => by simpa using boxB_ok.2 (h2 i hi)⟩
theorem specNet_eq (n : LabNet) : F39 n = netB n := by
  unfold F39 netB
  cases h : F83 n
  · rfl
  · have hf := frame_ok.1 h
    simp only [Bool.not_true, cond_false, Bool.true_and]
    rw [allB (fun i => !boxB n i) n.Boxes.length _ (fun k hk => by simp only [F39_s0, ltD hk, cond_true, specBox_eq hf]) (by simp [F39_s0]), Bool.and_true]
theorem implNet_eq (n : LabNet) : F9 n = netB n := by
  unfold F9 netB
  have e : (bif !decide (1 ≤ (n.Boxes.length : Int) ∧ (n.Boxes.length : Int) ≤ 8) then true else !F35 n) = !F83 n := by
    rw [frame_eq, linksOk_eq, bord, ← Bool.not_and, Bool.and_comm (Option.isNone _)]
  rw [e]
  cases h : F83 n
  · rfl
  · have hf := frame_ok.1 h
    simp only [Bool.not_true, cond_false, Bool.true_and]
    rw [allB (fun i => !boxB n i) n.Boxes.length _ (fun k hk => by simp only [F9_s0, ltD hk, cond_true, implBox_eq hf]) (by simp [F9_s0]), Bool.and_true]
theorem netB_T (n : LabNet) (h : netB n = true) : NetOk n := netB_ok.1 h
theorem netB_8 (n : LabNet) (h : netB n = true) : n.Boxes.length ≤ 8 := (netB_ok.1 h).frame.b8
theorem netB_14 (n : LabNet) (h : netB n = true) : n.Links.length ≤ 14 := (netB_ok.1 h).frame.l14
theorem as9 (n : LabNet) : F9 n = netB n := implNet_eq n
theorem as39 (n : LabNet) : F39 n = netB n := specNet_eq n
theorem as51 (n : LabNet) (a b : Int) : F51 n a b = linkOf n a b := specLink_eq n a b
theorem as55 (n : LabNet) (a b : Int) (h : FrameOk n) : F55 n a b = linkOf n a b := implLink_eq h a b
theorem as40 (n : LabNet) : F40 n = n := by
  unfold F40
  rw [app_loop (fun b : LabBox => b) n.Boxes [] _ (fun k xs hk => by simp only [F40_s0, ltD hk, cond_true, nn]; rfl) (fun xs => by simp [F40_s0])]
  simp [Lp.fin]
theorem as37 (n : LabNet) : F37 n = n := by
  unfold F37
  rw [app_loop (fun b : LabBox => b) n.Boxes [] _ (fun k xs hk => by simp only [F37_s0, ltD hk, cond_true, nn]) (fun xs => by simp [F37_s0])]
  simp [Lp.fin]
/-! ### How many leaves -/

theorem incr_len {α : Type} [Inhabited α] (f : α → Int) (xs : List α) (lo hi : Int) (h : ∀ k, k < xs.length → lo ≤ f (xs.getD k default) ∧ f (xs.getD k default) ≤ hi) (hi' : ∀ k, k + 1 < xs.length → f (xs.getD k default) < f (xs.getD (k + 1) default)) (hlh : lo ≤ hi + 1) : (xs.length : Int) ≤ hi - lo + 1 := by
  have g : ∀ k : Nat, k < xs.length → lo + (k : Int) ≤ f (xs.getD k default) := by
    intro k
    induction k with
    | zero => intro hk; have := (h 0 hk).1; omega
    | succ k ih => intro hk; have := ih (by omega); have := hi' k hk; omega
  cases hx : xs.length with
  | zero => simp; omega
  | succ m => have h1 := g m (by omega); have h2 := (h m (by omega)).2; omega
theorem rows_len {n : LabNet} {i : Nat} (h : BoxOk n i) : (n.Boxes.getD i default).Rows.length ≤ 60 := by
  have := incr_len (fun r : LabRow => r.In) (n.Boxes.getD i default).Rows 1 60 (fun k hk => (h.row k hk).1) (fun k hk => h.rinc k hk) (by omega)
  omega
theorem guards_len {n : LabNet} (hf : FrameOk n) {i : Nat} (h : BoxOk n i) : (n.Boxes.getD i default).Guards.length ≤ 8 := by
  have := incr_len (fun r : LabVia => r.To) (n.Boxes.getD i default).Guards 0 7 (fun k hk => by
    have := (h.via k hk).1
    have := linkOf_in hf this
    have := hf.b8
    omega) (fun k hk => h.vinc k hk) (by omega)
  omega
theorem lwNet_le {n : LabNet} (h : NetOk n) : lwLabNet n ≤ 10000 := by
  unfold lwLabNet
  have h1 : sumL lvLabLink n.Links ≤ n.Links.length * 2 := sumL_le _ _ _ fun x _ => Nat.le_refl _
  have h2 : sumL lvLabBox n.Boxes ≤ n.Boxes.length * 1000 := sumL_le _ _ _ fun x hx => by
    obtain ⟨i, hi, rfl⟩ := mem_getD hx
    have a := rows_len (h.box i hi)
    have b := guards_len h.frame (h.box i hi)
    have c : sumL lvLabRow (n.Boxes.getD i default).Rows ≤ (n.Boxes.getD i default).Rows.length * 3 := sumL_le _ _ _ fun x _ => Nat.le_refl _
    have d : sumL lvLabVia (n.Boxes.getD i default).Guards ≤ (n.Boxes.getD i default).Guards.length * 3 := sumL_le _ _ _ fun x _ => Nat.le_refl _
    unfold lvLabBox
    omega
  have := h.frame.b8; have := h.frame.l14
  omega
theorem marks {n : LabNet} (h : lwLabNet n ≤ 1000000000000) : (F27 n 1).1 = 1 + (lwLabNet n : Int) ∧ F28 (F27 n 1).2 1 = 1 + (lwLabNet n : Int) :=
  mk27 n 1 (by omega) (by omega)
theorem marksL {l : List LabLink} (h : l.length ≤ 10000000000) : 0 ≤ (F64 l 1).1 := by
  have h1 : sumL lvLabLink l ≤ l.length * 2 := sumL_le _ _ _ fun x _ => Nat.le_refl _
  rw [(mk64 l 1 (by omega) (by omega)).1]; omega
theorem lwEmpty : lwLabNet ⟨[], []⟩ = 0 := rfl
/-! ### Rows and guards of a box; packets -/

def rowIx (b : LabBox) (label : Int) : Option Nat := first (fun k => decide ((b.Rows.getD k default).In = label)) b.Rows.length
def rowP (b : LabBox) (label : Int) : LabRow × Bool := match rowIx b label with
  | some k => (b.Rows.getD k default, true)
  | none => (⟨0, 0, 0⟩, false)
def guardIx (b : LabBox) (x : Int) : Option Nat := first (fun k => decide ((b.Guards.getD k default).To = x)) b.Guards.length
def guardP (b : LabBox) (x : Int) : LabVia × Bool := match guardIx b x with
  | some k => (b.Guards.getD k default, true)
  | none => (⟨0, 0, 0⟩, false)
theorem rowIx_lt (b : LabBox) (label : Int) : oix (rowIx b label) < (b.Rows.length : Int) := oix_lt
theorem guardIx_lt (b : LabBox) (x : Int) : oix (guardIx b x) < (b.Guards.length : Int) := oix_lt
theorem as53 (b : LabBox) (label : Int) : F53 b label = oix (rowIx b label) := by
  unfold F53 rowIx
  rw [search _ (fun k => (k : Int)) b.Rows.length _ (fun k hk => by simp only [F53_s0, ltD hk, cond_true, nn, beqD]; rfl) (by simp [F53_s0])]
  cases first (fun k => decide ((b.Rows.getD k default).In = label)) b.Rows.length <;> rfl
theorem as80 (b : LabBox) (label : Int) : F80 b label = rowP b label := by
  unfold F80 rowP rowIx
  rw [search (fun k => decide ((b.Rows.getD k default).In = label)) (fun k => (b.Rows.getD k default, true)) b.Rows.length _ (fun k hk => by simp only [F80_s0, ltD hk, cond_true, nn, beqD]) (by simp [F80_s0])]
  cases first (fun k => decide ((b.Rows.getD k default).In = label)) b.Rows.length <;> rfl
theorem as52 (b : LabBox) (x : Int) : F52 b x = oix (guardIx b x) := by
  unfold F52 guardIx
  rw [search _ (fun k => (k : Int)) b.Guards.length _ (fun k hk => by simp only [F52_s0, ltD hk, cond_true, nn, beqD]; rfl) (by simp [F52_s0])]
  cases first (fun k => decide ((b.Guards.getD k default).To = x)) b.Guards.length <;> rfl
theorem as78 (b : LabBox) (x : Int) : F78 b x = guardP b x := by
  unfold F78 guardP guardIx
  rw [search (fun k => decide ((b.Guards.getD k default).To = x)) (fun k => (b.Guards.getD k default, true)) b.Guards.length _ (fun k hk => by simp only [F78_s0, ltD hk, cond_true, nn, beqD]) (by simp [F78_s0])]
  cases first (fun k => decide ((b.Guards.getD k default).To = x)) b.Guards.length <;> rfl
/-- a packet is in order -/
def packB (n : LabNet) (p : LabPacket) : Bool := decide (0 ≤ p.Box ∧ p.Box ≤ (n.Boxes.length : Int) - 1) && (decide ((p.Stack.length : Int) ≤ 8) && (first (fun k => !decide (isLabel (p.Stack.getD k default))) p.Stack.length).isNone)
theorem packB_id (n : LabNet) (p : LabPacket) (h : packB n p = true) : packB n p = true := h
theorem packB_T (n : LabNet) (p : LabPacket) (h : packB n p = true) : 0 ≤ p.Box ∧ p.Box ≤ (n.Boxes.length : Int) - 1 ∧ (p.Stack.length : Int) ≤ 8 := by
  unfold packB at h
  simp only [Bool.and_eq_true, decide_eq_true_eq] at h
  exact ⟨h.1.1, h.1.2, h.2.1⟩
theorem as42 (n : LabNet) (p : LabPacket) : F42 n p = packB n p := by
  unfold F42 packB
  rw [← any_idx]
  unfold idxI
  have e : (fun k => F90 (p.Stack.getD k default)) = fun k => !decide (isLabel (p.Stack.getD k default)) := rfl
  rw [e, bandd, bandd, Bool.and_assoc]
  congr 2
  cases first (fun k => !decide (isLabel (p.Stack.getD k default))) p.Stack.length with
  | none => rfl
  | some k => simp [oix]
/-- where a row leads -/
theorem row_next {n : LabNet} (h : NetOk n) {i k : Int} (h0 : 0 ≤ i) (h1 : i < (n.Boxes.length : Int)) (h2 : 0 ≤ k) (h3 : k < ((n.Boxes.getD (Int.toNat i) default).Rows.length : Int)) :
    ((n.Boxes.getD (Int.toNat i) default).Rows.getD (Int.toNat k) default).Next = -1 ∨ (0 ≤ ((n.Boxes.getD (Int.toNat i) default).Rows.getD (Int.toNat k) default).Next ∧ ((n.Boxes.getD (Int.toNat i) default).Rows.getD (Int.toNat k) default).Next < (n.Boxes.length : Int)) := by
  have := (h.box (Int.toNat i) (by omega)).row (Int.toNat k) (by omega)
  rcases this.2 with h4 | h4
  · exact .inl h4.1
  · have := linkOf_in h.frame h4.1
    exact .inr ⟨this.2.2.1, this.2.2.2.1⟩
theorem rowP_next {n : LabNet} (h : NetOk n) {i : Int} (h0 : 0 ≤ i) (h1 : i < (n.Boxes.length : Int)) (l : Int) : (rowP (n.Boxes.getD (Int.toNat i) default) l).2 = false ∨ (rowP (n.Boxes.getD (Int.toNat i) default) l).1.Next = -1 ∨ (0 ≤ (rowP (n.Boxes.getD (Int.toNat i) default) l).1.Next ∧ (rowP (n.Boxes.getD (Int.toNat i) default) l).1.Next < (n.Boxes.length : Int)) := by
  unfold rowP
  cases e : rowIx (n.Boxes.getD (Int.toNat i) default) l with
  | none => exact .inl rfl
  | some k =>
    have hk := (first_some.1 e).1
    have := row_next h h0 h1 (k := (k : Int)) (by omega) (by omega)
    rw [nn] at this
    exact .inr this
/-- what the size of a net tells of its leaves -/
theorem szNet {n : LabNet} (h : ¬ F24 n 1048576 < 0) : lwLabNet n ≤ 6000000000000000000 + 2000000000 := by
  obtain ⟨_, h1, h2, h3, h4⟩ := gb24 n 1048576 (by omega) (by omega) (by omega)
  unfold lwLabNet
  have a : sumL lvLabLink n.Links ≤ n.Links.length * 2 := sumL_le _ _ _ fun x _ => Nat.le_refl _
  have b : sumL lvLabBox n.Boxes ≤ n.Boxes.length * 6000000000 := sumL_le _ _ _ fun x hx => by
    obtain ⟨k, hk, rfl⟩ := mem_getD hx
    have c : sumL lvLabRow (n.Boxes.getD k default).Rows ≤ (n.Boxes.getD k default).Rows.length * 3 := sumL_le _ _ _ fun x _ => Nat.le_refl _
    have d : sumL lvLabVia (n.Boxes.getD k default).Guards ≤ (n.Boxes.getD k default).Guards.length * 3 := sumL_le _ _ _ fun x _ => Nat.le_refl _
    have := h3 k; have := h4 k
    unfold lvLabBox
    omega
  omega
theorem sumOne (l : List Int) : sumL (fun _ => 1) l = l.length := by
  induction l with
  | nil => rfl
  | cons x l ih => rw [sumL_cons, ih, List.length_cons]; omega
theorem inc_len {α : Type} [Inhabited α] (xs : List α) (f : α → Int) (lo hi : Int) (h : ∀ k, k < xs.length → lo ≤ f (xs.getD k default) ∧ f (xs.getD k default) ≤ hi)
    (hi' : ∀ k, k + 1 < xs.length → f (xs.getD k default) < f (xs.getD (k + 1) default)) : (xs.length : Int) ≤ 0 ∨ (xs.length : Int) ≤ hi - lo + 1 := by
  have key : ∀ k, k < xs.length → lo + k ≤ f (xs.getD k default) := by
    intro k
    induction k with
    | zero => intro hk; have := (h 0 hk).1; omega
    | succ k ih => intro hk; have h1 := ih (by omega); have h2 := hi' k hk; omega
  by_cases hz : xs.length = 0
  · exact .inl (by omega)
  · have h1 := key (xs.length - 1) (by omega)
    have h2 := (h (xs.length - 1) (by omega)).2
    exact .inr (by omega)
theorem NetOk.rows {n : LabNet} (h : NetOk n) (k : Nat) : (n.Boxes.getD k default).Rows.length ≤ 60 := by
  by_cases hk : k < n.Boxes.length
  · have hb := h.box k hk
    have := inc_len (n.Boxes.getD k default).Rows (·.In) 1 60 (fun j hj => by have := (hb.row j hj).1; unfold isLabel at this; omega) hb.rinc
    omega
  · rw [getD_ge _ (by omega)]; exact Nat.zero_le _
theorem NetOk.vias {n : LabNet} (h : NetOk n) (k : Nat) : (n.Boxes.getD k default).Guards.length ≤ 8 := by
  by_cases hk : k < n.Boxes.length
  · have hb := h.box k hk
    have h8 := h.frame.b8
    have := inc_len (n.Boxes.getD k default).Guards (·.To) 0 7 (fun j hj => by have := linkOf_in h.frame (hb.via j hj).1; omega) hb.vinc
    omega
  · rw [getD_ge _ (by omega)]; exact Nat.zero_le _
theorem inc_pair {α : Type} [Inhabited α] (xs : List α) (f : α → Int) (h : ∀ k, k + 1 < xs.length → f (xs.getD k default) < f (xs.getD (k + 1) default)) : xs.Pairwise (fun a b => f a < f b) := by
  induction xs with
  | nil => exact .nil
  | cons a t ih =>
    have ht : ∀ k, k + 1 < t.length → f (t.getD k default) < f (t.getD (k + 1) default) := fun k hk => by
      have := h (k + 1) (by simpa using hk)
      simpa using this
    refine List.pairwise_cons.2 ⟨fun b hb => ?_, ih ht⟩
    obtain ⟨k, hk, rfl⟩ := mem_getD hb
    have key : ∀ k, k < t.length → f a < f (t.getD k default) := by
      intro k
      induction k with
      | zero => intro hk; have := h 0 (by simpa using hk); simpa using this
      | succ k ih2 => intro hk; have h1 := ih2 (by omega); have h2 := ht k hk; omega
    exact key k hk
end Go.Proofs.YtjefeigdapcleaaGreat
