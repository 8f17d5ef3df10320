/- What is left of a net when a tunnel is torn away. -/
import Derived.Test.YtjefeigdapcleaaVT
namespace Go.Proofs.Ytjefeigdapcleaa
open Go.RowKit
set_option maxRecDepth 100000
set_option linter.unusedVariables false
set_option linter.unusedSimpArgs false
def tearBox (n : LabNet) (l : List (Int × Int)) (k : Nat) : LabBox :=
  ⟨(n.Boxes.getD k default).Rows.filter (fun r => !(l.any (fun x => decide (Int.toNat x.1 = k) && decide (r.In = x.2)))), (n.Boxes.getD k default).Guards⟩
theorem tearBox_nil (n : LabNet) (k : Nat) : tearBox n [] k = n.Boxes.getD k default := by
  unfold tearBox
  simp only [List.any_nil, Bool.not_false]
  rw [List.filter_eq_self.2 (fun _ _ => rfl)]
theorem tearBox_next (n : LabNet) (l : List (Int × Int)) (x : Int × Int) (k : Nat) :
    tearBox n (l ++ [x]) k = if Int.toNat x.1 = k then ⟨(tearBox n l k).Rows.filter (fun r => !(decide (r.In = x.2))), (tearBox n l k).Guards⟩ else tearBox n l k := by
  unfold tearBox
  by_cases h : Int.toNat x.1 = k
  · simp only [h, if_true, List.any_append, List.any_cons, List.any_nil, Bool.or_false, decide_true, Bool.true_and, List.filter_filter, Bool.not_or]
    congr 1
    apply List.filter_congr
    intro r _
    rw [Bool.and_comm]
  · simp only [h, if_false, List.any_append, List.any_cons, List.any_nil, Bool.or_false, decide_false, Bool.false_and]
def TearI (n : LabNet) (l : List (Int × Int)) (xs : List LabBox) : Prop :=
  xs.length = n.Boxes.length ∧ ∀ k, k < n.Boxes.length → xs.getD k default = tearBox n l k
theorem TearI.uniq {n : LabNet} {l : List (Int × Int)} {xs ys : List LabBox} (h : TearI n l xs) (g : TearI n l ys) : xs = ys := by
  refine List.ext_getElem (by rw [h.1, g.1]) fun k h1 h2 => ?_
  have e1 := h.2 k (by have := h.1; omega)
  have e2 := g.2 k (by have := g.1; omega)
  rw [getD_lt _ h1] at e1
  rw [getD_lt _ h2] at e2
  rw [e1, e2]
theorem TearI.next {n : LabNet} {l : List (Int × Int)} {xs : List LabBox} (h : TearI n l xs) (x : Int × Int) (b : LabBox) (hx : Int.toNat x.1 < n.Boxes.length)
    (hb : b = ⟨(tearBox n l (Int.toNat x.1)).Rows.filter (fun r => !(decide (r.In = x.2))), (tearBox n l (Int.toNat x.1)).Guards⟩) : TearI n (l ++ [x]) (xs.set (Int.toNat x.1) b) := by
  refine ⟨by rw [List.length_set]; exact h.1, fun k hk => ?_⟩
  rw [tearBox_next, List.getD_eq_getElem?_getD, List.getElem?_set]
  have h1 := h.1
  by_cases e : Int.toNat x.1 = k
  · subst e
    simp only [if_true, h1, hx, Option.getD_some, hb]
  · simp only [e, if_false]
    rw [← h.2 k hk, List.getD_eq_getElem?_getD]
/-- one row a label -/
theorem erase_filter {xs : List LabRow} {c : Int} : ∀ (_ : xs.Pairwise (fun a b => a.In < b.In)) {j : Nat}, j < xs.length → (xs.getD j default).In = c → xs.take j ++ xs.drop (j + 1) = xs.filter (fun r => !(decide (r.In = c))) := by
  induction xs with
  | nil => intro _ j hj; simp at hj
  | cons a t ih =>
    intro hp j hj hc
    rw [List.pairwise_cons] at hp
    cases j with
    | zero =>
      have hc' : a.In = c := by simpa using hc
      rw [List.filter_cons]
      simp only [hc', decide_true, Bool.not_true, List.take_zero, List.nil_append, List.drop_succ_cons, List.drop_zero, Bool.false_eq_true, if_false]
      symm
      refine List.filter_eq_self.2 fun b hb => ?_
      have := hp.1 b hb
      have : ¬ b.In = c := by omega
      simp [this]
    | succ j =>
      have hj' : j < t.length := by simpa using hj
      have hc' : (t.getD j default).In = c := by simpa using hc
      have hm : t.getD j default ∈ t := getD_mem t hj'
      have := hp.1 _ hm
      have hne : ¬ a.In = c := by omega
      rw [List.filter_cons]
      simp only [hne, decide_false, Bool.not_false, if_true, List.take_succ_cons, List.drop_succ_cons, List.cons_append]
      rw [ih hp.2 hj' hc']
theorem inc_pair {α : Type} [Inhabited α] (xs : List α) (f : α → Int) (h : ∀ k, k + 1 < xs.length → f (xs.getD k default) < f (xs.getD (k + 1) default)) : xs.Pairwise (fun a b => f a < f b) := by
  induction xs with
  | nil => exact .nil
  | cons a t ih =>
    have ht : ∀ k, k + 1 < t.length → f (t.getD k default) < f (t.getD (k + 1) default) := fun k hk => by
      have := h (k + 1) (by simpa using hk)
      simpa using this
    refine List.pairwise_cons.2 ⟨fun b hb => ?_, ih ht⟩
    obtain ⟨k, hk, rfl⟩ := mem_getD hb
    have key : ∀ k, k < t.length → f a < f (t.getD k default) := by
      intro k
      induction k with
      | zero => intro hk; have := h 0 (by simpa using hk); simpa using this
      | succ k ih2 => intro hk; have h1 := ih2 (by omega); have h2 := ht k hk; omega
    exact key k hk
/-- the way of a path -/
theorem path_step {n : LabNet} : ∀ (m : Nat) (box label : Int) (l : List (Int × Int)), pathFrom n m box label = some l →
    l.length ≠ 0 ∧ l.getD 0 default = (box, label) ∧ (∀ i, i < l.length → ∃ k, rowIx (n.Boxes.getD (Int.toNat (l.getD i default).1) default) (l.getD i default).2 = some k ∧
      (i + 1 < l.length → (l.getD (i + 1) default).2 = ((n.Boxes.getD (Int.toNat (l.getD i default).1) default).Rows.getD k default).Out)) ∧
    ∀ i, i < l.length → pathFrom n (m - i) (l.getD i default).1 (l.getD i default).2 = some (l.drop i)
  | 0, _, _, _, he => by simp [pathFrom] at he
  | m + 1, box, label, l, he => by
    have he0 := he
    unfold pathFrom at he
    cases e : rowIx (n.Boxes.getD (Int.toNat box) default) label with
    | none => rw [e] at he; cases he
    | some k =>
      rw [e] at he
      by_cases hx : ((n.Boxes.getD (Int.toNat box) default).Rows.getD k default).Next < 0
      · simp only [hx, if_true, Option.some.injEq] at he
        subst he
        refine ⟨by simp, rfl, fun i hi => ?_, fun i hi => ?_⟩
        · have : i = 0 := by simp at hi; omega
          subst this
          exact ⟨k, e, fun h => by simp at h⟩
        · have : i = 0 := by simp at hi; omega
          subst this
          exact he0
      · simp only [hx, if_false] at he
        cases e2 : pathFrom n m ((n.Boxes.getD (Int.toNat box) default).Rows.getD k default).Next ((n.Boxes.getD (Int.toNat box) default).Rows.getD k default).Out with
        | none => rw [e2] at he; cases he
        | some l' =>
          rw [e2] at he
          simp only [Option.map_some, Option.some.injEq] at he
          subst he
          obtain ⟨g1, g2, g3, g4⟩ := path_step m _ _ l' e2
          refine ⟨by simp, rfl, fun i hi => ?_, fun i hi => ?_⟩
          · cases i with
            | zero => exact ⟨k, e, fun h => by rw [List.getD_cons_succ, g2]; rfl⟩
            | succ i =>
              obtain ⟨k', h1, h2⟩ := g3 i (by simpa using hi)
              refine ⟨k', by simpa only [List.getD_cons_succ] using h1, fun h => ?_⟩
              have := h2 (by simpa using h)
              simpa only [List.getD_cons_succ] using this
          · cases i with
            | zero => exact he0
            | succ i =>
              have := g4 i (by simpa using hi)
              simpa only [List.getD_cons_succ, Nat.succ_sub_succ, List.drop_succ_cons, Nat.add_sub_add_right] using this
theorem pathFrom_mono {n : LabNet} : ∀ (m : Nat) (box label : Int) (l : List (Int × Int)), pathFrom n m box label = some l → ∀ j, pathFrom n (m + j) box label = some l
  | 0, _, _, _, he, _ => by simp [pathFrom] at he
  | m + 1, box, label, l, he, j => by
    rw [Nat.add_right_comm]
    unfold pathFrom at he ⊢
    cases e : rowIx (n.Boxes.getD (Int.toNat box) default) label with
    | none => rw [e] at he; cases he
    | some k =>
      rw [e] at he
      by_cases hx : ((n.Boxes.getD (Int.toNat box) default).Rows.getD k default).Next < 0
      · simp only [hx, if_true] at he ⊢; exact he
      · simp only [hx, if_false] at he ⊢
        cases e2 : pathFrom n m ((n.Boxes.getD (Int.toNat box) default).Rows.getD k default).Next ((n.Boxes.getD (Int.toNat box) default).Rows.getD k default).Out with
        | none => rw [e2] at he; cases he
        | some l' => rw [pathFrom_mono m _ _ l' e2 j]; rw [e2] at he; exact he
/-- no box and label twice -/
theorem path_inj {n : LabNet} {m : Nat} {box label : Int} {l : List (Int × Int)} (h : pathFrom n m box label = some l) {i j : Nat} (hi : i < l.length) (hj : j < l.length) (e : l.getD i default = l.getD j default) : i = j := by
  have g := (path_step m box label l h).2.2.2
  have h1 := g i hi
  have h2 := g j hj
  rw [e] at h1
  have k1 := pathFrom_mono _ _ _ _ h1 (m - j)
  have k2 := pathFrom_mono _ _ _ _ h2 (m - i)
  rw [Nat.add_comm] at k2
  rw [k1] at k2
  have := congrArg List.length (Option.some.inj k2)
  simp only [List.length_drop] at this
  omega
theorem pair_uniq {xs : List LabRow} (h : xs.Pairwise (fun a b => a.In < b.In)) {a b : LabRow} (ha : a ∈ xs) (hb : b ∈ xs) (e : a.In = b.In) : a = b := by
  induction xs with
  | nil => cases ha
  | cons x t ih =>
    rw [List.pairwise_cons] at h
    rcases List.mem_cons.1 ha with ha | ha <;> rcases List.mem_cons.1 hb with hb | hb
    · rw [ha, hb]
    · have := h.1 b hb; rw [← ha] at this; omega
    · have := h.1 a ha; rw [← hb] at this; omega
    · exact ih h.2 ha hb
theorem tear_row {n : LabNet} (h : NetOk n) {box label : Int} {l : List (Int × Int)} (h0 : 0 ≤ box) (h1 : box < (n.Boxes.length : Int)) (hp : pathFrom n n.Boxes.length box label = some l) {i : Nat} (hi : i < l.length) {xs : List LabBox} (hT : TearI n (l.take i) xs) :
    ∃ k, rowIx (xs.getD (Int.toNat (l.getD i default).1) default) (l.getD i default).2 = some k ∧
      (i + 1 < l.length → (l.getD (i + 1) default).2 = ((xs.getD (Int.toNat (l.getD i default).1) default).Rows.getD k default).Out) ∧
      TearI n (l.take (i + 1)) (xs.set (Int.toNat (l.getD i default).1) ⟨(xs.getD (Int.toNat (l.getD i default).1) default).Rows.take k ++ (xs.getD (Int.toNat (l.getD i default).1) default).Rows.drop (k + 1), (xs.getD (Int.toNat (l.getD i default).1) default).Guards⟩) := by
  obtain ⟨k0, e0, n0⟩ := (path_step _ _ _ _ hp).2.2.1 i hi
  have hr := pathFrom_all h _ _ _ _ h0 h1 hp _ (getD_mem l hi)
  have inj := fun j hj (e : l.getD j default = l.getD i default) => path_inj hp hj hi e
  have htake : l.take (i + 1) = l.take i ++ [l.getD i default] := by rw [List.take_add_one, List.getElem?_eq_getElem hi, getD_lt l hi]; rfl
  generalize hx : l.getD i default = x at *
  obtain ⟨b, c⟩ := x
  simp only at e0 n0 hr inj ⊢
  have hb : Int.toNat b < n.Boxes.length := by omega
  have eb := hT.2 _ hb
  have hpw : (n.Boxes.getD (Int.toNat b) default).Rows.Pairwise (fun a b => a.In < b.In) := inc_pair _ (fun r : LabRow => r.In) (h.box _ hb).rinc
  obtain ⟨f1, f2, _⟩ := first_some.1 e0
  have f2' : ((n.Boxes.getD (Int.toNat b) default).Rows.getD k0 default).In = c := by simpa using f2
  have hm := getD_mem _ f1
  have hpw' : (xs.getD (Int.toNat b) default).Rows.Pairwise (fun a b => a.In < b.In) := by rw [eb]; exact hpw.filter _
  have hm' : (n.Boxes.getD (Int.toNat b) default).Rows.getD k0 default ∈ (xs.getD (Int.toNat b) default).Rows := by
    rw [eb]
    refine List.mem_filter.2 ⟨hm, ?_⟩
    simp only [Bool.not_eq_true', List.any_eq_false, Bool.and_eq_true, decide_eq_true_eq, not_and]
    intro y hy e1 e2
    obtain ⟨j, hj, rfl⟩ := mem_getD hy
    have hj' : j < i ∧ j < l.length := by rw [List.length_take] at hj; omega
    have ej : (l.take i).getD j default = l.getD j default := by rw [getD_lt _ hj, getD_lt l hj'.2, List.getElem_take]
    rw [ej] at e1 e2
    have hrj := pathFrom_all h _ _ _ _ h0 h1 hp _ (getD_mem l hj'.2)
    have : l.getD j default = (b, c) := Prod.ext (by show (l.getD j default).1 = b; omega) (by show (l.getD j default).2 = c; rw [← e2]; exact f2')
    have := inj j hj'.2 this
    omega
  obtain ⟨k1, hk1, ek1⟩ := mem_getD hm'
  cases e : rowIx (xs.getD (Int.toNat b) default) c with
  | none =>
    have := first_none.1 e k1 hk1
    rw [ek1, f2'] at this
    simp at this
  | some k =>
    obtain ⟨g1, g2, _⟩ := first_some.1 e
    have g2' : ((xs.getD (Int.toNat b) default).Rows.getD k default).In = c := by simpa using g2
    have er := pair_uniq hpw' (getD_mem _ g1) hm' (g2'.trans f2'.symm)
    refine ⟨k, rfl, fun hh => by rw [er]; exact n0 hh, ?_⟩
    rw [htake]
    refine hT.next (b, c) _ hb ?_
    rw [← eb, erase_filter hpw' g1 g2']
/-- the loop of the spec -/
structure TearS (n : LabNet) (box label : Int) (at' : Int) (i : Int) (xs : List LabBox) : Prop where
  net : NetOk n
  h0 : 0 ≤ box
  h1 : box < (n.Boxes.length : Int)
  hi : 0 ≤ i
  ex : ∃ l, labPath n box label = l.map (·.1) ∧ pathFrom n n.Boxes.length box label = some l ∧ TearI n (l.take (Int.toNat i)) xs ∧ (i < (l.length : Int) → at' = (l.getD (Int.toNat i) default).2)
theorem getD_map1 {α β : Type} [Inhabited α] [Inhabited β] (f : α → β) (l : List α) {k : Nat} (h : k < l.length) : (l.map f).getD k default = f (l.getD k default) := by
  rw [getD_lt _ (by simpa using h), getD_lt _ h, List.getElem_map]
theorem TearS.zero {n : LabNet} {box label : Int} (h : ¬ ((labPath n box label).length : Int) = 0) : TearS n box label label 0 n.Boxes := by
  unfold labPath at h
  cases hb : netB n && decide (0 ≤ box ∧ box ≤ (n.Boxes.length : Int) - 1) with
  | false => rw [hb] at h; exact absurd rfl h
  | true =>
    have hb2 := hb
    rw [hb, cond_true] at h
    simp only [Bool.and_eq_true, decide_eq_true_eq] at hb2
    obtain ⟨h1, h2, h3⟩ := hb2
    cases e : pathFrom n n.Boxes.length box label with
    | none => rw [e] at h; exact absurd rfl h
    | some l =>
      refine ⟨netB_T n h1, h2, by omega, by omega, l, ?_, e, ?_, fun _ => ?_⟩
      · unfold labPath; rw [hb, cond_true, e]; rfl
      · exact ⟨rfl, fun k _ => (tearBox_nil n k).symm⟩
      · rw [show Int.toNat 0 = 0 from rfl, (path_step _ _ _ _ e).2.1]
theorem TearI.bound {n : LabNet} (h : NetOk n) {l : List (Int × Int)} {xs : List LabBox} (hT : TearI n l xs) (k : Nat) : (xs.getD k default).Rows.length ≤ 60 ∧ (xs.getD k default).Guards.length ≤ 60 := by
  by_cases hk : k < n.Boxes.length
  · rw [hT.2 k hk]
    have h1 := NetOk.rows h k
    have h2 := NetOk.vias h k
    have h3 := List.length_filter_le (fun r => !(l.any (fun x => decide (Int.toNat x.1 = k) && decide (r.In = x.2)))) (n.Boxes.getD k default).Rows
    unfold tearBox
    exact ⟨by simp only; omega, by simp only; omega⟩
  · have := hT.1
    rw [getD_ge _ (by omega)]; exact ⟨Nat.zero_le _, Nat.zero_le _⟩
theorem TearS.bound {n : LabNet} {box label at' i : Int} {xs : List LabBox} (h : TearS n box label at' i xs) (k : Nat) : (xs.getD k default).Rows.length ≤ 60 ∧ (xs.getD k default).Guards.length ≤ 60 := by
  obtain ⟨net, h0, h1, h2, l, e1, e2, e3, e4⟩ := h
  exact e3.bound net k
theorem TearS.in_ {n : LabNet} {box label at' i : Int} {xs : List LabBox} (h : TearS n box label at' i xs) (hi : i < ((labPath n box label).length : Int)) :
    0 ≤ (labPath n box label).getD (Int.toNat i) default ∧ (labPath n box label).getD (Int.toNat i) default < (n.Boxes.length : Int) ∧ xs.length = n.Boxes.length ∧
    0 ≤ oix (rowIx (xs.getD (Int.toNat ((labPath n box label).getD (Int.toNat i) default)) default) at') ∧ (xs.getD (Int.toNat ((labPath n box label).getD (Int.toNat i) default)) default).Rows.length ≤ 60 := by
  have hbd := h.bound (Int.toNat ((labPath n box label).getD (Int.toNat i) default))
  obtain ⟨net, h0, h1, h2, l, e1, e2, e3, e4⟩ := h
  rw [e1] at hi hbd ⊢
  simp only [List.length_map] at hi
  have hk : Int.toNat i < l.length := by omega
  rw [getD_map1 _ _ hk] at hbd
  rw [getD_map1 _ _ hk, e4 hi]
  have hr := pathFrom_all net _ _ _ _ h0 h1 e2 _ (getD_mem l hk)
  obtain ⟨k, f1, _⟩ := tear_row net h0 h1 e2 hk e3
  rw [f1]
  exact ⟨hr.1, hr.2, e3.1, by simp only [oix]; omega, hbd.1⟩
theorem TearS.next {n : LabNet} {box label at' i : Int} {xs : List LabBox} (h : TearS n box label at' i xs) (hi : i < ((labPath n box label).length : Int)) :
    TearS n box label (((xs.getD (Int.toNat ((labPath n box label).getD (Int.toNat i) default)) default).Rows).getD (Int.toNat (oix (rowIx (xs.getD (Int.toNat ((labPath n box label).getD (Int.toNat i) default)) default) at'))) default).Out (i + 1)
      (xs.set (Int.toNat ((labPath n box label).getD (Int.toNat i) default)) ⟨(([] : List LabRow) ++ (xs.getD (Int.toNat ((labPath n box label).getD (Int.toNat i) default)) default).Rows.take (Int.toNat (oix (rowIx (xs.getD (Int.toNat ((labPath n box label).getD (Int.toNat i) default)) default) at')))) ++ (xs.getD (Int.toNat ((labPath n box label).getD (Int.toNat i) default)) default).Rows.drop (Int.toNat (oix (rowIx (xs.getD (Int.toNat ((labPath n box label).getD (Int.toNat i) default)) default) at') + 1)), (xs.getD (Int.toNat ((labPath n box label).getD (Int.toNat i) default)) default).Guards⟩) := by
  obtain ⟨net, h0, h1, h2, l, e1, e2, e3, e4⟩ := h
  refine ⟨net, h0, h1, by omega, l, e1, e2, ?_⟩
  rw [e1] at hi ⊢
  simp only [List.length_map] at hi
  have hk : Int.toNat i < l.length := by omega
  rw [getD_map1 _ _ hk, e4 hi]
  obtain ⟨k, f1, f2, f3⟩ := tear_row net h0 h1 e2 hk e3
  rw [f1]
  simp only [oix, List.nil_append]
  rw [show Int.toNat (k : Int) = k from by omega, show Int.toNat ((k : Int) + 1) = k + 1 from by omega, show Int.toNat (i + 1) = Int.toNat i + 1 from by omega]
  exact ⟨f3, fun hh => (f2 (by omega)).symm⟩
end Go.Proofs.Ytjefeigdapcleaa
