/- Plain laws of laying: the loops. -/
import Derived.Test.YtjefeigdapcleaaGreatPL1
namespace Go.Proofs.YtjefeigdapcleaaGreat
open Go.RowKit
set_option maxRecDepth 100000
set_option linter.unusedVariables false
set_option linter.unusedSimpArgs false
/-! ### Boxes, by their members -/
def BoxP (n : LabNet) (i : Int) (b : LabBox) : Prop :=
  ((∀ r ∈ b.Rows, rowOk n i r) ∧ b.Rows.Pairwise (fun x y => x.In < y.In)) ∧ (∀ v ∈ b.Guards, viaOk n i v) ∧ b.Guards.Pairwise (fun x y => x.To < y.To)
theorem pair_inc {α : Type} [Inhabited α] {xs : List α} {f : α → Int} (h : xs.Pairwise (fun a b => f a < f b)) (k : Nat) (hk : k + 1 < xs.length) : f (xs.getD k default) < f (xs.getD (k + 1) default) := by
  rw [getD_lt xs (by omega), getD_lt xs hk]
  exact List.pairwise_iff_getElem.1 h k (k + 1) (by omega) hk (by omega)
theorem boxP_ok {n : LabNet} {i : Nat} : BoxOk n i ↔ BoxP n i (n.Boxes.getD i default) := by
  constructor
  · intro h
    refine ⟨⟨fun r hr => ?_, inc_pair _ (fun r : LabRow => r.In) h.rinc⟩, fun v hv => ?_, inc_pair _ (fun r : LabVia => r.To) h.vinc⟩
    · obtain ⟨k, hk, rfl⟩ := mem_getD hr; exact h.row k hk
    · obtain ⟨k, hk, rfl⟩ := mem_getD hv; exact h.via k hk
  · rintro ⟨⟨h1, h2⟩, h3, h4⟩
    exact ⟨fun k hk => h1 _ (getD_mem _ hk), fun k hk => pair_inc (f := fun r : LabRow => r.In) h2 k hk, fun k hk => h3 _ (getD_mem _ hk), fun k hk => pair_inc (f := fun r : LabVia => r.To) h4 k hk⟩
theorem getD_set {α : Type} [Inhabited α] (xs : List α) (i : Nat) (x : α) (k : Nat) : (xs.set i x).getD k default = if i = k ∧ k < xs.length then x else xs.getD k default := by
  rw [List.getD_eq_getElem?_getD, List.getElem?_set]
  by_cases h1 : i = k
  · subst h1
    by_cases h2 : i < xs.length
    · simp [h2]
    · rw [if_pos rfl, if_neg h2, if_neg (by simp [h2]), getD_ge _ (by omega)]; rfl
  · simp [h1, List.getD_eq_getElem?_getD]
/-- another box in the place of one -/
theorem netOk_set {n : LabNet} (h : NetOk n) {i : Nat} {b : LabBox} (hb : BoxP n i b) : NetOk ⟨n.Links, n.Boxes.set i b⟩ := by
  obtain ⟨f, g⟩ := h
  refine ⟨⟨by simpa using f.b1, by simpa using f.b8, f.l14, fun k hk => ?_, f.inc⟩, fun k hk => ?_⟩
  · have := f.ab k hk
    simpa using this
  · have hk' : k < n.Boxes.length := by simpa using hk
    rw [boxP_ok]
    show BoxP n k ((n.Boxes.set i b).getD k default)
    rw [getD_set]
    by_cases e : i = k
    · subst e; rw [if_pos ⟨rfl, hk'⟩]; exact hb
    · rw [if_neg (fun h => e h.1)]; exact boxP_ok.1 (g k hk')

/-! ### Rows along a path -/
def rowAt (path labels : List Int) (i : Nat) : LabRow :=
  ⟨labels.getD i default, bif decide ((i : Int) + 1 < (path.length : Int)) then path.getD (i + 1) default else -1, bif decide ((i : Int) + 1 < (path.length : Int)) then labels.getD (i + 1) default else 0⟩
def layTo (n : LabNet) (path labels : List Int) : Nat → List LabBox
  | 0 => n.Boxes
  | i + 1 => (layTo n path labels i).set (Int.toNat (path.getD i default)) ⟨putK (fun x : LabRow => x.In) ((layTo n path labels i).getD (Int.toNat (path.getD i default)) default).Rows (rowAt path labels i), ((layTo n path labels i).getD (Int.toNat (path.getD i default)) default).Guards⟩
theorem layTo_len (n : LabNet) (path labels : List Int) : ∀ i, (layTo n path labels i).length = n.Boxes.length
  | 0 => rfl
  | i + 1 => by simp [layTo, layTo_len n path labels i]
theorem PathOk.ne {n : LabNet} {path : List Int} (h : PathOk n path) {i j : Nat} (hi : i < path.length) (hj : j < path.length) (hij : i ≠ j) : Int.toNat (path.getD i default) ≠ Int.toNat (path.getD j default) := fun e => by
  have h1 := h.rng i hi; have h2 := h.rng j hj
  exact hij (h.inj i j hi hj (by omega))
/-- what comes later is as it was -/
theorem layTo_at {n : LabNet} {path : List Int} (h : PathOk n path) (labels : List Int) : ∀ i j, i ≤ j → j < path.length → (layTo n path labels i).getD (Int.toNat (path.getD j default)) default = n.Boxes.getD (Int.toNat (path.getD j default)) default
  | 0, _, _, _ => rfl
  | i + 1, j, hij, hj => by
    rw [layTo, getD_set, if_neg (fun e => h.ne (by omega) hj (by omega) e.1)]
    exact layTo_at h labels i j (by omega) hj
def freeOn (n : LabNet) (b : Int) : Int := freeOf (n.Boxes.getD (Int.toNat b) default)
structure LayP (n : LabNet) (path labels : List Int) : Prop where
  net : NetOk n
  pth : PathOk n path
  lab : labels = path.map (freeOn n)
  nz : ∀ x ∈ labels, x ≠ 0
theorem LayP.len {n : LabNet} {path labels : List Int} (h : LayP n path labels) : labels.length = path.length := by rw [h.lab, List.length_map]
theorem LayP.at_ {n : LabNet} {path labels : List Int} (h : LayP n path labels) {i : Nat} (hi : i < path.length) : labels.getD i default = freeOf (n.Boxes.getD (Int.toNat (path.getD i default)) default) ∧ freeOf (n.Boxes.getD (Int.toNat (path.getD i default)) default) ≠ 0 := by
  have hl := h.len
  have e : labels.getD i default = freeOf (n.Boxes.getD (Int.toNat (path.getD i default)) default) := by rw [h.lab, getD_mapL _ _ hi]; rfl
  exact ⟨e, e ▸ h.nz _ (getD_mem _ (by omega))⟩
theorem LayP.lbl {n : LabNet} {path labels : List Int} (h : LayP n path labels) {i : Nat} (hi : i < path.length) : isLabel (labels.getD i default) := by
  obtain ⟨h1, h2⟩ := h.at_ hi
  rw [h1]; exact (freeOf_ok h2).1
theorem LayP.row {n : LabNet} {path labels : List Int} (h : LayP n path labels) {i : Nat} (hi : i < path.length) : rowOk n (path.getD i default) (rowAt path labels i) := by
  refine ⟨h.lbl hi, ?_⟩
  by_cases hx : (i : Int) + 1 < (path.length : Int)
  · right
    simp only [rowAt, decide_eq_true hx, cond_true]
    exact ⟨h.pth.lnk i (by omega), h.lbl (by omega)⟩
  · left
    simp [rowAt, decide_eq_false hx]
theorem LayP.new {n : LabNet} {path labels : List Int} (h : LayP n path labels) {i : Nat} (hi : i < path.length) : ∀ r ∈ (n.Boxes.getD (Int.toNat (path.getD i default)) default).Rows, r.In ≠ (rowAt path labels i).In := by
  obtain ⟨h1, h2⟩ := h.at_ hi
  intro r hr
  show r.In ≠ labels.getD i default
  rw [h1]; exact free_new h2 r hr
theorem LayP.box {n : LabNet} {path labels : List Int} (h : LayP n path labels) {i : Nat} (hi : i < path.length) : BoxP n (path.getD i default) (n.Boxes.getD (Int.toNat (path.getD i default)) default) := by
  have := h.pth.rng i hi
  have hb := boxP_ok.1 (h.net.box (Int.toNat (path.getD i default)) (by omega))
  rwa [show ((Int.toNat (path.getD i default) : Nat) : Int) = path.getD i default from by omega] at hb
theorem LayP.putOk {n : LabNet} {path labels : List Int} (h : LayP n path labels) {i : Nat} (hi : i < path.length) :
    BoxP n (path.getD i default) ⟨putK (fun x : LabRow => x.In) (n.Boxes.getD (Int.toNat (path.getD i default)) default).Rows (rowAt path labels i), (n.Boxes.getD (Int.toNat (path.getD i default)) default).Guards⟩ := by
  obtain ⟨⟨h1, h2⟩, h3⟩ := h.box hi
  refine ⟨⟨fun r hr => ?_, putK_inc (fun x : LabRow => x.In) _ _ h2 (h.new hi)⟩, h3⟩
  rcases putK_mem.1 hr with hr | rfl
  · exact h1 r hr
  · exact h.row hi
theorem LayP.netTo {n : LabNet} {path labels : List Int} (h : LayP n path labels) : ∀ i, i ≤ path.length → NetOk ⟨n.Links, layTo n path labels i⟩
  | 0, _ => h.net
  | i + 1, hi => by
    have ih := h.netTo i (by omega)
    have hr := h.pth.rng i (by omega)
    rw [layTo, layTo_at h.pth labels i i (Nat.le_refl _) (by omega)]
    have hb := h.putOk (i := i) (by omega)
    exact netOk_set (n := ⟨n.Links, layTo n path labels i⟩) ih (i := Int.toNat (path.getD i default)) (by
      rw [show ((Int.toNat (path.getD i default) : Nat) : Int) = path.getD i default from by omega]; exact hb)
/-- the state of the loops that lay -/
structure LayS (n : LabNet) (path labels : List Int) (i : Int) (xs : List LabBox) : Prop where
  p : LayP n path labels
  hi : 0 ≤ i
  hl : i ≤ (path.length : Int)
  xs : xs = layTo n path labels (Int.toNat i)
theorem LayS.zero {n : LabNet} {path labels : List Int} (h : LayP n path labels) : LayS n path labels 0 n.Boxes := ⟨h, by omega, by omega, rfl⟩
theorem LayS.in_ {n : LabNet} {path labels : List Int} {i : Int} {xs : List LabBox} (h : LayS n path labels i xs) (hi : i < (path.length : Int)) :
    0 ≤ path.getD (Int.toNat i) default ∧ path.getD (Int.toNat i) default < (xs.length : Int) ∧ (xs.getD (Int.toNat (path.getD (Int.toNat i) default)) default).Rows.length ≤ 60 := by
  obtain ⟨p, h0, _, rfl⟩ := h
  have := p.pth.rng (Int.toNat i) (by omega)
  rw [layTo_len, layTo_at p.pth labels (Int.toNat i) (Int.toNat i) (Nat.le_refl _) (by omega)]
  exact ⟨this.1, this.2, NetOk.rows p.net _⟩
theorem LayS.sort {n : LabNet} {path labels : List Int} {i : Int} {xs : List LabBox} (h : LayS n path labels i xs) (hi : i < (path.length : Int)) {r : LabRow} (hr : r = rowAt path labels (Int.toNat i)) :
    SortPre (fun (x0 : LabRow) (x1 : LabRow) => F88 x0 x1) ((xs.getD (Int.toNat (path.getD (Int.toNat i) default)) default).Rows ++ [r]) ∧
    sortL (fun (x0 : LabRow) (x1 : LabRow) => F88 x0 x1) ((xs.getD (Int.toNat (path.getD (Int.toNat i) default)) default).Rows ++ [r]) = putK (fun x : LabRow => x.In) (xs.getD (Int.toNat (path.getD (Int.toNat i) default)) default).Rows r := by
  obtain ⟨p, h0, _, rfl⟩ := h
  subst hr
  have hk : Int.toNat i < path.length := by omega
  rw [layTo_at p.pth labels (Int.toNat i) (Int.toNat i) (Nat.le_refl _) hk]
  obtain ⟨⟨h1, h2⟩, _⟩ := p.box hk
  have hl : ∀ a ∈ (n.Boxes.getD (Int.toNat (path.getD (Int.toNat i) default)) default).Rows ++ [rowAt path labels (Int.toNat i)], 1 ≤ a.In ∧ a.In ≤ 60 := by
    intro a ha
    rcases List.mem_append.1 ha with ha | ha
    · exact (h1 a ha).1
    · rw [List.mem_singleton.1 ha]; exact (p.row hk).1
  exact sort_put (fun x : LabRow => x.In) _ _ _ h2 (p.new hk) fun a ha b hb => by
    have := hl a ha; have := hl b hb
    unfold F88
    rw [wrap_of (by omega) (by omega)]
    omega
theorem LayS.next {n : LabNet} {path labels : List Int} {i : Int} {xs : List LabBox} (h : LayS n path labels i xs) (hi : i < (path.length : Int)) {r : LabRow} (hr : r = rowAt path labels (Int.toNat i)) :
    LayS n path labels (i + 1) (xs.set (Int.toNat (path.getD (Int.toNat i) default)) ⟨putK (fun x : LabRow => x.In) (xs.getD (Int.toNat (path.getD (Int.toNat i) default)) default).Rows r, (xs.getD (Int.toNat (path.getD (Int.toNat i) default)) default).Guards⟩) := by
  obtain ⟨p, h0, _, rfl⟩ := h
  subst hr
  refine ⟨p, by omega, by omega, ?_⟩
  rw [show Int.toNat (i + 1) = Int.toNat i + 1 from by omega]; rfl
theorem LayS.next' {n : LabNet} {path labels : List Int} {i : Int} {xs : List LabBox} (h : LayS n path labels i xs) (hi : i < (path.length : Int)) {r : LabRow} (hr : r = rowAt path labels (Int.toNat i)) :
    LayS n path labels (i + 1) (xs.set (Int.toNat (path.getD (Int.toNat i) default)) ⟨sortL (fun (x0 : LabRow) (x1 : LabRow) => F88 x0 x1) ((xs.getD (Int.toNat (path.getD (Int.toNat i) default)) default).Rows ++ [r]), (xs.getD (Int.toNat (path.getD (Int.toNat i) default)) default).Guards⟩) := by
  rw [(h.sort hi hr).2]; exact h.next hi hr
theorem rowAt_T {path labels : List Int} {i : Int} (h0 : 0 ≤ i) (h : i + 1 < (path.length : Int)) : (⟨labels.getD (Int.toNat i) default, path.getD (Int.toNat (i + 1)) default, labels.getD (Int.toNat (i + 1)) default⟩ : LabRow) = rowAt path labels (Int.toNat i) := by
  unfold rowAt
  rw [decide_eq_true (show ((Int.toNat i : Nat) : Int) + 1 < (path.length : Int) from by omega), show Int.toNat (i + 1) = Int.toNat i + 1 from by omega]
  rfl
theorem rowAt_F {path labels : List Int} {i : Int} (h0 : 0 ≤ i) (h : ¬ i + 1 < (path.length : Int)) : (⟨labels.getD (Int.toNat i) default, -1, 0⟩ : LabRow) = rowAt path labels (Int.toNat i) := by
  unfold rowAt
  rw [decide_eq_false (show ¬ ((Int.toNat i : Nat) : Int) + 1 < (path.length : Int) from by omega)]
  rfl
theorem PathOk.in_ {n : LabNet} {path : List Int} (h : PathOk n path) {i : Int} (h0 : 0 ≤ i) (hi : i < (path.length : Int)) : 0 ≤ path.getD (Int.toNat i) default ∧ path.getD (Int.toNat i) default < (n.Boxes.length : Int) := h.rng _ (by omega)
/-- labels, as far as they have come -/
structure LabI (n : LabNet) (path : List Int) (i : Int) (xs : List Int) : Prop where
  hi : 0 ≤ i
  hl : i ≤ (path.length : Int)
  eq : xs = (path.take (Int.toNat i)).map (freeOn n)
  nz : ∀ x ∈ xs, x ≠ 0
theorem LabI.zero (n : LabNet) (path : List Int) : LabI n path 0 [] := ⟨by omega, by omega, rfl, fun x hx => by cases hx⟩
theorem LabI.next {n : LabNet} {path : List Int} {i : Int} {xs : List Int} (h : LabI n path i xs) (hi : i < (path.length : Int)) (hz : ¬ freeOf (n.Boxes.getD (Int.toNat (path.getD (Int.toNat i) default)) default) = 0) :
    LabI n path (i + 1) (xs ++ [freeOf (n.Boxes.getD (Int.toNat (path.getD (Int.toNat i) default)) default)]) := by
  obtain ⟨h0, _, rfl, h3⟩ := h
  refine ⟨by omega, by omega, ?_, fun x hx => ?_⟩
  · rw [show Int.toNat (i + 1) = Int.toNat i + 1 from by omega, take_next (by omega), List.map_append]; rfl
  · rcases List.mem_append.1 hx with hx | hx
    · exact h3 x hx
    · rw [List.mem_singleton.1 hx]; exact hz
theorem LabI.done {n : LabNet} {path : List Int} {i : Int} {xs : List Int} (h : LabI n path i xs) (hi : ¬ i < (path.length : Int)) (hn : NetOk n) (hp : PathOk n path) : LayP n path xs := by
  obtain ⟨h0, h1, h2, h3⟩ := h
  rw [List.take_of_length_le (by omega)] at h2
  exact ⟨hn, hp, h2, h3⟩
theorem LabI.len {n : LabNet} {path : List Int} {i : Int} {xs : List Int} (h : LabI n path i xs) : (xs.length : Int) = i := by
  obtain ⟨h0, h1, h2, h3⟩ := h
  rw [h2, List.length_map, List.length_take]; omega
theorem whilePut {α ρ : Type} [Inhabited α] (key : α → Int) (xs : List α) (r : α) (step : Int → Lp Int ρ) (hs : ∀ k, step k = bif (bif decide (k < (xs.length : Int)) then decide (key (xs.getD (Int.toNat k) default) < key r) else false) then .next (k + 1) else .done k) :
    runL step ((Int.toNat ((xs.length : Int) - 0)) + 1) 0 = .done (stopAt (fun k => decide (key (xs.getD k default) < key r)) xs.length : Int) := by
  rw [n0]
  refine whileL _ _ step fun k hk => ?_
  rw [hs, bandd, nn]
  congr 2
  simp
theorem as94 (list : List LabRow) (r1 : LabRow) : F94 list r1 = putK (fun x : LabRow => x.In) list r1 := by
  unfold F94 F94_j0 putK
  rw [whilePut (fun x : LabRow => x.In) list r1 (F94_s0 list r1) (fun k => rfl)]
  simp only [Lp.fin, nn, List.nil_append]
end Go.Proofs.YtjefeigdapcleaaGreat
