/- Bounds of a right net: rows, guards, the boxes of a path. -/
import Derived.Test.YtjefeigdapcleaaPA
namespace Go.Proofs.Ytjefeigdapcleaa
open Go.RowKit
set_option maxRecDepth 100000
set_option linter.unusedVariables false
set_option linter.unusedSimpArgs false
theorem inc_len {α : Type} [Inhabited α] (xs : List α) (f : α → Int) (lo hi : Int) (h : ∀ k, k < xs.length → lo ≤ f (xs.getD k default) ∧ f (xs.getD k default) ≤ hi)
    (hi' : ∀ k, k + 1 < xs.length → f (xs.getD k default) < f (xs.getD (k + 1) default)) : (xs.length : Int) ≤ 0 ∨ (xs.length : Int) ≤ hi - lo + 1 := by
  have key : ∀ k, k < xs.length → lo + k ≤ f (xs.getD k default) := by
    intro k
    induction k with
    | zero => intro hk; have := (h 0 hk).1; omega
    | succ k ih => intro hk; have h1 := ih (by omega); have h2 := hi' k hk; omega
  by_cases hz : xs.length = 0
  · exact .inl (by omega)
  · have h1 := key (xs.length - 1) (by omega)
    have h2 := (h (xs.length - 1) (by omega)).2
    exact .inr (by omega)
theorem NetOk.rows {n : LabNet} (h : NetOk n) (k : Nat) : (n.Boxes.getD k default).Rows.length ≤ 60 := by
  by_cases hk : k < n.Boxes.length
  · have hb := h.box k hk
    have := inc_len (n.Boxes.getD k default).Rows (·.In) 1 60 (fun j hj => by have := (hb.row j hj).1; unfold isLabel at this; omega) hb.rinc
    omega
  · rw [getD_ge _ (by omega)]; exact Nat.zero_le _
theorem NetOk.vias {n : LabNet} (h : NetOk n) (k : Nat) : (n.Boxes.getD k default).Guards.length ≤ 8 := by
  by_cases hk : k < n.Boxes.length
  · have hb := h.box k hk
    have h8 := h.frame.b8
    have := inc_len (n.Boxes.getD k default).Guards (·.To) 0 7 (fun j hj => by have := linkOf_in h.frame (hb.via j hj).1; omega) hb.vinc
    omega
  · rw [getD_ge _ (by omega)]; exact Nat.zero_le _
theorem pathFrom_all {n : LabNet} (h : NetOk n) : ∀ (m : Nat) (box label : Int) (l : List (Int × Int)), 0 ≤ box → box < (n.Boxes.length : Int) → pathFrom n m box label = some l → ∀ x ∈ l, 0 ≤ x.1 ∧ x.1 < (n.Boxes.length : Int)
  | 0, _, _, _, _, _, he => by simp [pathFrom] at he
  | m + 1, box, label, l, h0, h1, he => by
    unfold pathFrom at he
    cases e : rowIx (n.Boxes.getD (Int.toNat box) default) label with
    | none => rw [e] at he; cases he
    | some k =>
      rw [e] at he
      have hk := (first_some.1 e).1
      have hn := row_next h h0 h1 (k := (k : Int)) (by omega) (by omega)
      rw [show Int.toNat (k : Int) = k from by omega] at hn
      by_cases hx : ((n.Boxes.getD (Int.toNat box) default).Rows.getD k default).Next < 0
      · simp only [hx, if_true, Option.some.injEq] at he
        subst he
        intro x hx; simp at hx; subst hx; exact ⟨h0, h1⟩
      · simp only [hx, if_false] at he
        cases e2 : pathFrom n m ((n.Boxes.getD (Int.toNat box) default).Rows.getD k default).Next ((n.Boxes.getD (Int.toNat box) default).Rows.getD k default).Out with
        | none => rw [e2] at he; cases he
        | some l' =>
          rw [e2] at he
          simp only [Option.map_some, Option.some.injEq] at he
          subst he
          intro x hx'
          rcases List.mem_cons.1 hx' with hq | hq
          · subst hq; exact ⟨h0, h1⟩
          · exact pathFrom_all h m _ _ l' (by omega) (by omega) e2 x hq
theorem path_in {n : LabNet} (h : NetOk n) {box label v : Int} {m : Nat} (h0 : 0 ≤ box) (h1 : box < (n.Boxes.length : Int)) (hv : 0 ≤ v) (hl : v < ((pathRes (pathFrom n m box label)).1.length : Int)) :
    0 ≤ (pathRes (pathFrom n m box label)).1.getD (Int.toNat v) default ∧ (pathRes (pathFrom n m box label)).1.getD (Int.toNat v) default < (n.Boxes.length : Int) := by
  cases e : pathFrom n m box label with
  | none => rw [e] at hl; simp [pathRes] at hl; omega
  | some l =>
    rw [e] at hl
    simp only [pathRes, List.length_map] at hl ⊢
    have hk : Int.toNat v < l.length := by omega
    rw [getD_lt _ (by simpa using hk), List.getElem_map]
    exact pathFrom_all h m box label l h0 h1 e _ (List.getElem_mem hk)
theorem path_len (n : LabNet) (box label : Int) : (pathRes (pathFrom n n.Boxes.length box label)).2.1.length = (pathRes (pathFrom n n.Boxes.length box label)).1.length := by
  cases pathFrom n n.Boxes.length box label <;> simp [pathRes]
theorem rows_set {xs : List LabBox} (h : ∀ k : Nat, (xs.getD k default).Rows.length ≤ 1000000000) (i j : Nat) (p : LabRow → Bool) (g : List LabVia) (k : Nat) :
    ((xs.set i ⟨(xs.getD j default).Rows.filter p, g⟩).getD k default).Rows.length ≤ 1000000000 := by
  have h1 := List.length_filter_le p (xs.getD j default).Rows
  have h2 := h j
  have h3 := h k
  simp only [List.getD_eq_getElem?_getD, List.getElem?_set] at *
  split
  · split
    · simp only [Option.getD_some]; omega
    · exact Nat.zero_le _
  · exact h3
end Go.Proofs.Ytjefeigdapcleaa
