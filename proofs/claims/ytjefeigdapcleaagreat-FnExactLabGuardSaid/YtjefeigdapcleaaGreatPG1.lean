/- Plain laws of guards: a way is a path; what is laid along it; guards in order. -/
import Derived.Test.YtjefeigdapcleaaGreatVG0
namespace Go.Proofs.YtjefeigdapcleaaGreat
open Go.RowKit
set_option maxRecDepth 100000
set_option linter.unusedVariables false
set_option linter.unusedSimpArgs false
/-- the boxes of a way -/
theorem wayGo_at {n : LabNet} {b w : Int} {f : List Int} (hD : IsDist n b w f) (h8 : n.Boxes.length ≤ 8) : ∀ (m : Nat) (x : Int), 0 ≤ x → x < (n.Boxes.length : Int) → f.getD (Int.toNat x) default = (m : Int) →
    ∀ i, i ≤ m → 0 ≤ (x :: wayGo n f w m x).getD i default ∧ (x :: wayGo n f w m x).getD i default < (n.Boxes.length : Int) ∧ f.getD (Int.toNat ((x :: wayGo n f w m x).getD i default)) default = (m : Int) - i ∧
      (i < m → adj n w ((x :: wayGo n f w m x).getD i default) ((x :: wayGo n f w m x).getD (i + 1) default))
  | 0, x, h0, h1, hd, i, hi => by
    obtain rfl : i = 0 := by omega
    exact ⟨h0, h1, by simpa using hd, fun h => by omega⟩
  | m + 1, x, h0, h1, hd, i, hi => by
    obtain ⟨n1, n2, n3, n4, _⟩ := nextOf_ok hD h8 h0 h1 (by omega)
    have ih := wayGo_at hD h8 m (nextOf n f x w) n1 n2 (by omega)
    have hadj : adj n w x (nextOf n f x w) := by
      unfold nextB at n4
      cases hc : decide (0 ≤ linkOf n x (nextOf n f x w) ∧ linkOf n x (nextOf n f x w) ≠ w) with
      | false => rw [hc] at n4; cases n4
      | true => exact (of_decide_eq_true hc : 0 ≤ linkOf n x (nextOf n f x w) ∧ linkOf n x (nextOf n f x w) ≠ w)
    cases i with
    | zero => exact ⟨h0, h1, by rw [List.getD_cons_zero, hd]; omega, fun _ => hadj⟩
    | succ i =>
      obtain ⟨g1, g2, g3, g4⟩ := ih i (by omega)
      simp only [wayGo, List.getD_cons_succ] at g1 g2 g3 g4 ⊢
      exact ⟨g1, g2, by rw [g3]; omega, fun h => g4 (by omega)⟩
def wayP (n : LabNet) (a b : Int) : List Int := wayOf n a b (linkOf n a b)
theorem way_path {n : LabNet} (hf : FrameOk n) {a b : Int} (hl : 0 ≤ linkOf n a b) (hne : (wayP n a b).length ≠ 0) :
    PathOk n (wayP n a b) ∧ (wayP n a b).getD 0 default = a ∧ (wayP n a b).getD 1 default ≠ b ∧ ∀ i, i + 1 < (wayP n a b).length → adj n (linkOf n a b) ((wayP n a b).getD i default) ((wayP n a b).getD (i + 1) default) := by
  obtain ⟨a0, a1, b0, b1, hab⟩ := linkOf_in hf hl
  have hD := far_isDist n b (linkOf n a b) hf b0 b1
  have hwl := wayOf_len hf (linkOf n a b) a0 a1 b0 b1
  unfold wayP at hne ⊢
  unfold wayOf at hne hwl ⊢
  by_cases hneg : (F71 n b (linkOf n a b)).getD (Int.toNat a) default < 0
  · rw [decide_eq_true hneg] at hne; exact absurd rfl hne
  rw [decide_eq_false hneg] at hwl ⊢
  simp only [cond_false] at hwl ⊢
  have hpos := hD.pos a0 a1 hab (by omega)
  generalize hm : Int.toNat ((F71 n b (linkOf n a b)).getD (Int.toNat a) default) = m at *
  have hat := wayGo_at hD hf.b8 m a a0 a1 (by omega)
  have hlen : (a :: wayGo n (F71 n b (linkOf n a b)) (linkOf n a b) m a).length = m + 1 := by rw [List.length_cons, wayGo_len]
  have hadj : ∀ i, i + 1 < (a :: wayGo n (F71 n b (linkOf n a b)) (linkOf n a b) m a).length → adj n (linkOf n a b) ((a :: wayGo n (F71 n b (linkOf n a b)) (linkOf n a b) m a).getD i default) ((a :: wayGo n (F71 n b (linkOf n a b)) (linkOf n a b) m a).getD (i + 1) default) := fun i hi => (hat i (by omega)).2.2.2 (by omega)
  refine ⟨⟨by omega, hwl, fun i hi => ?_, fun i hi => (hadj i hi).1, fun i j hi hj e => ?_⟩, rfl, fun e => ?_, hadj⟩
  · have := hat i (by omega); exact ⟨this.1, this.2.1⟩
  · have h1 := (hat i (by omega)).2.2.1
    have h2 := (hat j (by omega)).2.2.1
    rw [e] at h1; omega
  · have := hadj 0 (by omega)
    rw [e] at this
    exact this.2 rfl
/-- what was laid at a box -/
theorem layTo_done {n : LabNet} {path : List Int} (h : PathOk n path) (labels : List Int) : ∀ m i, i < m → m ≤ path.length →
    (layTo n path labels m).getD (Int.toNat (path.getD i default)) default = ⟨putK (fun x : LabRow => x.In) (n.Boxes.getD (Int.toNat (path.getD i default)) default).Rows (rowAt path labels i), (n.Boxes.getD (Int.toNat (path.getD i default)) default).Guards⟩
  | 0, _, h0, _ => absurd h0 (Nat.not_lt_zero _)
  | m + 1, i, hi, hm => by
    rw [layTo, getD_set]
    by_cases e : i = m
    · subst e
      have := h.rng i (by omega)
      rw [if_pos ⟨rfl, by rw [layTo_len]; omega⟩, layTo_at h labels i i (Nat.le_refl _) (by omega)]
    · rw [if_neg (fun hh => h.ne (by omega) (by omega) (Ne.symm e) hh.1)]
      exact layTo_done h labels m i (by omega) (by omega)
theorem layTo_guards (n : LabNet) (path labels : List Int) (k : Nat) : ∀ m, ((layTo n path labels m).getD k default).Guards = (n.Boxes.getD k default).Guards
  | 0 => rfl
  | m + 1 => by
    rw [layTo, getD_set]
    split
    · rename_i h
      rw [h.1]
      exact layTo_guards n path labels k m
    · exact layTo_guards n path labels k m
/-- the row that was laid is found -/
theorem lay_found {n : LabNet} {path labels : List Int} (h : LayP n path labels) {i : Nat} (hi : i < path.length) :
    ∃ k, rowIx ((layTo n path labels path.length).getD (Int.toNat (path.getD i default)) default) (labels.getD i default) = some k ∧ ((layTo n path labels path.length).getD (Int.toNat (path.getD i default)) default).Rows.getD k default = rowAt path labels i := by
  rw [layTo_done h.pth labels path.length i hi (Nat.le_refl _)]
  obtain ⟨⟨_, hpw⟩, _⟩ := h.putOk hi
  have hm : rowAt path labels i ∈ putK (fun x : LabRow => x.In) (n.Boxes.getD (Int.toNat (path.getD i default)) default).Rows (rowAt path labels i) := putK_mem.2 (.inr rfl)
  obtain ⟨j, hj, ej⟩ := mem_getD hm
  unfold rowIx
  simp only at hpw ⊢
  cases e : first (fun k => decide (((putK (fun x : LabRow => x.In) (n.Boxes.getD (Int.toNat (path.getD i default)) default).Rows (rowAt path labels i)).getD k default).In = labels.getD i default)) (putK (fun x : LabRow => x.In) (n.Boxes.getD (Int.toNat (path.getD i default)) default).Rows (rowAt path labels i)).length with
  | none =>
    have := first_none.1 e j hj
    rw [ej] at this
    exact absurd rfl (of_decide_eq_false this)
  | some k =>
    obtain ⟨h1, h2, _⟩ := first_some.1 e
    exact ⟨k, rfl, pairK_uniq hpw (getD_mem _ h1) hm (of_decide_eq_true h2)⟩
/-- guards, with one more -/
theorem guard_sort {n : LabNet} (h : NetOk n) {a b : Int} (hl : 0 ≤ linkOf n a b) (hg : guardIx (n.Boxes.getD (Int.toNat a) default) b = none) (v : LabVia) (hv : v.To = b) :
    SortPre (fun (x0 : LabVia) (x1 : LabVia) => F82 x0 x1) ((n.Boxes.getD (Int.toNat a) default).Guards ++ [v]) ∧ sortL (fun (x0 : LabVia) (x1 : LabVia) => F82 x0 x1) ((n.Boxes.getD (Int.toNat a) default).Guards ++ [v]) = putK (fun x : LabVia => x.To) (n.Boxes.getD (Int.toNat a) default).Guards v := by
  obtain ⟨a0, a1, b0, b1, _⟩ := linkOf_in h.frame hl
  obtain ⟨_, h3, h4⟩ := boxP_ok.1 (h.box (Int.toNat a) (by omega))
  have h8 := h.frame.b8
  have hr : ∀ x ∈ (n.Boxes.getD (Int.toNat a) default).Guards ++ [v], 0 ≤ x.To ∧ x.To < 8 := by
    intro x hx
    rcases List.mem_append.1 hx with hx | hx
    · have := linkOf_in h.frame (h3 x hx).1; omega
    · rw [List.mem_singleton.1 hx]; omega
  refine sort_put (fun x : LabVia => x.To) _ _ _ h4 (fun x hx e => ?_) fun x hx y hy => ?_
  · obtain ⟨k, hk, rfl⟩ := mem_getD hx
    have := first_none.1 hg k hk
    exact of_decide_eq_false this (e.trans hv)
  · have := hr x hx; have := hr y hy
    unfold F82
    rw [wrap_of (by omega) (by omega)]
    omega
theorem guardP_none {b : LabBox} {x : Int} : (guardP b x).2 = false ↔ guardIx b x = none := by
  unfold guardP; cases guardIx b x <;> simp
/-- a guard is put into a net in order -/
theorem guard_net {n : LabNet} (h : NetOk n) {a b : Int} (hl : 0 ≤ linkOf n a b) (hg : guardIx (n.Boxes.getD (Int.toNat a) default) b = none) {v : LabVia} (hv : v.To = b) (hv2 : 0 ≤ linkOf n a v.Via ∧ b ≠ v.Via ∧ isLabel v.Push) :
    NetOk ⟨n.Links, n.Boxes.set (Int.toNat a) ⟨(n.Boxes.getD (Int.toNat a) default).Rows, putK (fun x : LabVia => x.To) (n.Boxes.getD (Int.toNat a) default).Guards v⟩⟩ := by
  obtain ⟨a0, a1, b0, b1, _⟩ := linkOf_in h.frame hl
  have hb := boxP_ok.1 (h.box (Int.toNat a) (by omega))
  rw [show ((Int.toNat a : Nat) : Int) = a from by omega] at hb
  obtain ⟨h12, h3, h4⟩ := hb
  refine netOk_set h ?_
  rw [show ((Int.toNat a : Nat) : Int) = a from by omega]
  refine ⟨h12, fun x hx => ?_, putK_inc (fun x : LabVia => x.To) _ _ h4 fun x hx e => ?_⟩
  · rcases putK_mem.1 hx with hx | rfl
    · exact h3 x hx
    · exact ⟨by rw [hv]; exact hl, hv2.1, by rw [hv]; exact hv2.2.1, hv2.2.2⟩
  · obtain ⟨k, hk, rfl⟩ := mem_getD hx
    have := first_none.1 hg k hk
    exact of_decide_eq_false this (e.trans hv)
/-- the guard of a link, and the net with it -/
def guardV (n : LabNet) (a b : Int) : LabVia := ⟨b, (wayP n a b).getD 1 default, (labsOf n (wayP n a b)).getD 1 default⟩
def laidN (n : LabNet) (a b : Int) : LabNet := ⟨n.Links, layTo n (wayP n a b) (labsOf n (wayP n a b)) (wayP n a b).length⟩
def guardN (n : LabNet) (a b : Int) : LabNet := ⟨n.Links, (laidN n a b).Boxes.set (Int.toNat a) ⟨((laidN n a b).Boxes.getD (Int.toNat a) default).Rows, putK (fun x : LabVia => x.To) ((laidN n a b).Boxes.getD (Int.toNat a) default).Guards (guardV n a b)⟩⟩
def guardR (n : LabNet) (a b : Int) : Int × LabNet :=
  bif decide (linkOf n a b < 0) then (2, n) else bif (guardIx (n.Boxes.getD (Int.toNat a) default) b).isSome then (4, n) else bif decide ((wayP n a b).length = 0) then (5, n) else bif labsB n (wayP n a b) then (0, guardN n a b) else (3, n)
/-- all that is known where a guard is put -/
structure GuardP (n : LabNet) (a b : Int) : Prop where
  net : NetOk n
  lnk : 0 ≤ linkOf n a b
  none : guardIx (n.Boxes.getD (Int.toNat a) default) b = none
  lay : LayP n (wayP n a b) (labsOf n (wayP n a b))
theorem GuardP.mk' {n : LabNet} {a b : Int} (h : NetOk n) (hl : ¬ linkOf n a b < 0) (hg : guardIx (n.Boxes.getD (Int.toNat a) default) b = Option.none) (hw : ¬ (wayP n a b).length = 0) (hb : labsB n (wayP n a b) = true) : GuardP n a b :=
  ⟨h, by omega, hg, layP_of h (pathB_ok.2 (way_path h.frame (by omega) hw).1) hb⟩
section
variable {n : LabNet} {a b : Int} (h : GuardP n a b)
include h
theorem GuardP.ne : (wayP n a b).length ≠ 0 := by have := h.lay.pth.two; omega
theorem GuardP.laid : NetOk (laidN n a b) := h.lay.netTo _ (Nat.le_refl _)
theorem GuardP.a0 : 0 ≤ a ∧ a < (n.Boxes.length : Int) ∧ (laidN n a b).Boxes.length = n.Boxes.length := by
  have := linkOf_in h.net.frame h.lnk
  exact ⟨this.1, this.2.1, layTo_len _ _ _ _⟩
theorem GuardP.none' : guardIx ((laidN n a b).Boxes.getD (Int.toNat a) default) b = Option.none := by
  have := layTo_guards n (wayP n a b) (labsOf n (wayP n a b)) (Int.toNat a) (wayP n a b).length
  have h2 := h.none
  unfold guardIx at h2 ⊢
  show first (fun k => decide ((((layTo n (wayP n a b) (labsOf n (wayP n a b)) (wayP n a b).length).getD (Int.toNat a) default).Guards.getD k default).To = b)) ((layTo n (wayP n a b) (labsOf n (wayP n a b)) (wayP n a b).length).getD (Int.toNat a) default).Guards.length = Option.none
  rw [this]; exact h2
theorem GuardP.found : ∃ k, rowIx ((laidN n a b).Boxes.getD (Int.toNat a) default) ((labsOf n (wayP n a b)).getD 0 default) = some k ∧ (((laidN n a b).Boxes.getD (Int.toNat a) default).Rows.getD k default).Next = (guardV n a b).Via ∧ (((laidN n a b).Boxes.getD (Int.toNat a) default).Rows.getD k default).Out = (guardV n a b).Push := by
  have h2 := h.lay.pth.two
  obtain ⟨_, w0, _⟩ := way_path h.net.frame h.lnk h.ne
  obtain ⟨k, h1, e⟩ := lay_found h.lay (i := 0) (by omega)
  rw [w0] at h1 e
  have hx : ((0 : Nat) : Int) + 1 < ((wayP n a b).length : Int) := by omega
  refine ⟨k, h1, ?_, ?_⟩
  · show (((layTo n (wayP n a b) (labsOf n (wayP n a b)) (wayP n a b).length).getD (Int.toNat a) default).Rows.getD k default).Next = _
    rw [e]; simp only [rowAt, decide_eq_true hx, cond_true]; rfl
  · show (((layTo n (wayP n a b) (labsOf n (wayP n a b)) (wayP n a b).length).getD (Int.toNat a) default).Rows.getD k default).Out = _
    rw [e]; simp only [rowAt, decide_eq_true hx, cond_true]; rfl
theorem GuardP.via : 0 ≤ linkOf n a (guardV n a b).Via ∧ b ≠ (guardV n a b).Via ∧ isLabel (guardV n a b).Push := by
  have h2 := h.lay.pth.two
  obtain ⟨_, w0, w1, w2⟩ := way_path h.net.frame h.lnk h.ne
  have := w2 0 (by omega)
  rw [w0] at this
  exact ⟨this.1, fun e => w1 e.symm, h.lay.lbl (i := 1) (by omega)⟩
theorem GuardP.netN : NetOk (guardN n a b) := by
  have hl : 0 ≤ linkOf (laidN n a b) a b := h.lnk
  exact guard_net h.laid hl h.none' (v := guardV n a b) rfl h.via
theorem GuardP.sort : SortPre (fun (x0 : LabVia) (x1 : LabVia) => F82 x0 x1) (((laidN n a b).Boxes.getD (Int.toNat a) default).Guards ++ [guardV n a b]) ∧ sortL (fun (x0 : LabVia) (x1 : LabVia) => F82 x0 x1) (((laidN n a b).Boxes.getD (Int.toNat a) default).Guards ++ [guardV n a b]) = putK (fun x : LabVia => x.To) ((laidN n a b).Boxes.getD (Int.toNat a) default).Guards (guardV n a b) := by
  have hl : 0 ≤ linkOf (laidN n a b) a b := h.lnk
  exact guard_sort h.laid hl h.none' (guardV n a b) rfl
end
theorem guardR_net {n : LabNet} (h : NetOk n) (a b : Int) : NetOk (guardR n a b).2 := by
  unfold guardR
  by_cases hl : linkOf n a b < 0
  · rw [decide_eq_true hl]; exact h
  rw [decide_eq_false hl]
  cases hg : guardIx (n.Boxes.getD (Int.toNat a) default) b with
  | some k => exact h
  | none =>
    by_cases hw : (wayP n a b).length = 0
    · rw [decide_eq_true hw]; exact h
    rw [decide_eq_false hw]
    cases hb : labsB n (wayP n a b) with
    | false => exact h
    | true => exact (GuardP.mk' h hl hg hw hb).netN
theorem layR_way {n : LabNet} (h : NetOk n) {a b : Int} (hl : ¬ linkOf n a b < 0) (hw : ¬ (wayP n a b).length = 0) : layR n (wayP n a b) = bif labsB n (wayP n a b) then ((labsOf n (wayP n a b)).getD 0 default, 0, laidN n a b) else (0, 3, n) := by
  unfold layR
  rw [pathB_ok.2 (way_path h.frame (by omega) hw).1]
  rfl
theorem labWay_way {n : LabNet} (h : NetOk n) {a b : Int} (hl : ¬ linkOf n a b < 0) : labWay n a b (linkOf n a b) = wayP n a b := by
  have := linkOf_in h.frame (a := a) (b := b) (by omega)
  unfold labWay
  rw [netB_ok.2 h, decide_eq_true (show 0 ≤ a ∧ a ≤ (n.Boxes.length : Int) - 1 from by omega), decide_eq_true (show 0 ≤ b ∧ b ≤ (n.Boxes.length : Int) - 1 from by omega)]
  rfl
theorem labLay_way {n : LabNet} (h : NetOk n) (p : List Int) : labLay n p = ((layR n p).2.2, (layR n p).1, (layR n p).2.1) := by
  unfold labLay; rw [netB_ok.2 h]; rfl
theorem as54 (list : List LabVia) (v1 : LabVia) : F54 list v1 = putK (fun x : LabVia => x.To) list v1 := by
  unfold F54 F54_j0 putK
  rw [whilePut (fun x : LabVia => x.To) list v1 (F54_s0 list v1) (fun k => rfl)]
  simp only [Lp.fin, nn, List.nil_append]
theorem linkOf_in4 {n : LabNet} (h : NetOk n) {a b : Int} (hl : 0 ≤ linkOf n a b) : 0 ≤ a ∧ a < (n.Boxes.length : Int) ∧ 0 ≤ b ∧ b < (n.Boxes.length : Int) := by
  have := linkOf_in h.frame hl; exact ⟨this.1, this.2.1, this.2.2.1, this.2.2.2.1⟩
theorem layR_len (n : LabNet) (p : List Int) : (layR n p).2.2.Boxes.length = n.Boxes.length := by
  unfold layR
  cases pathB n p
  · rfl
  cases labsB n p
  · rfl
  exact layTo_len _ _ _ _
theorem labLay_len {n : LabNet} (h : NetOk n) (p : List Int) : (labLay n p).1.Boxes.length = n.Boxes.length := by
  rw [labLay_way h]; exact layR_len n p
theorem guard_P {n : LabNet} (h : NetOk n) {a b : Int} (h1 : ¬ linkOf n a b < 0) (h2 : guardIx (n.Boxes.getD (Int.toNat a) default) b = none) (h3 : ¬ (wayP n a b).length = 0) (h4 : (layR n (wayP n a b)).2.1 = 0) : GuardP n a b ∧ layR n (wayP n a b) = ((labsOf n (wayP n a b)).getD 0 default, 0, laidN n a b) := by
  rw [layR_way h h1 h3] at h4 ⊢
  cases hb : labsB n (wayP n a b) with
  | false => rw [hb] at h4; cases h4
  | true => exact ⟨GuardP.mk' h h1 h2 h3 hb, rfl⟩
/-- what the program puts -/
theorem guard_vc {n : LabNet} (h : NetOk n) {a b : Int} (h1 : ¬ linkOf n a b < 0) (h2 : (guardP (n.Boxes.getD (Int.toNat a) default) b).2 = false) (h3 : ¬ ((labWay n a b (linkOf n a b)).length : Int) = 0) (h4 : (layR n (labWay n a b (linkOf n a b))).2.1 = 0) :
    GuardP n a b ∧ layR n (labWay n a b (linkOf n a b)) = ((labsOf n (wayP n a b)).getD 0 default, 0, laidN n a b) ∧
    (⟨b, ((rowP ((((layR n (labWay n a b (linkOf n a b))).2.2).Boxes).getD (Int.toNat a) default) ((layR n (labWay n a b (linkOf n a b))).1)).1).Next, ((rowP ((((layR n (labWay n a b (linkOf n a b))).2.2).Boxes).getD (Int.toNat a) default) ((layR n (labWay n a b (linkOf n a b))).1)).1).Out⟩ : LabVia) = guardV n a b := by
  rw [labWay_way h h1] at h3 h4 ⊢
  obtain ⟨hP, e⟩ := guard_P h h1 (guardP_none.1 h2) (by omega) h4
  refine ⟨hP, e, ?_⟩
  rw [e]
  obtain ⟨k, k1, k2, k3⟩ := hP.found
  unfold rowP
  simp only [k1]
  rw [k2, k3]
  rfl
theorem guard_vcs {n : LabNet} (h : NetOk n) {a b : Int} (h1 : ¬ linkOf n a b < 0) (h2 : (guardP (n.Boxes.getD (Int.toNat a) default) b).2 = false) (h3 : ¬ ((labWay n a b (linkOf n a b)).length : Int) = 0) (h4 : (layR n (labWay n a b (linkOf n a b))).2.1 = 0) :
    SortPre (fun (x0 : LabVia) (x1 : LabVia) => F82 x0 x1) (((((layR n (labWay n a b (linkOf n a b))).2.2).Boxes).getD (Int.toNat a) default).Guards ++ [(⟨b, ((rowP ((((layR n (labWay n a b (linkOf n a b))).2.2).Boxes).getD (Int.toNat a) default) ((layR n (labWay n a b (linkOf n a b))).1)).1).Next, ((rowP ((((layR n (labWay n a b (linkOf n a b))).2.2).Boxes).getD (Int.toNat a) default) ((layR n (labWay n a b (linkOf n a b))).1)).1).Out⟩ : LabVia)]) := by
  obtain ⟨hP, e, ev⟩ := guard_vc h h1 h2 h3 h4
  rw [ev, e]
  exact hP.sort.1
theorem layR_vias {n : LabNet} (h : NetOk n) (p : List Int) (k : Nat) : ((layR n p).2.2.Boxes.getD k default).Guards.length ≤ 8 := NetOk.vias (layR_net h p) k
/-- what the reference puts -/
theorem guard_vc2 {n : LabNet} (h : NetOk n) {a b : Int} (h1 : ¬ linkOf n a b < 0) (h2 : ¬ oix (guardIx (n.Boxes.getD (Int.toNat a) default) b) ≥ 0) (h3 : ¬ ((wayOf n a b (linkOf n a b)).length : Int) = 0) (h4 : (labLay n (wayOf n a b (linkOf n a b))).2.2 = 0) :
    GuardP n a b ∧ labLay n (wayOf n a b (linkOf n a b)) = (laidN n a b, (labsOf n (wayP n a b)).getD 0 default, 0) := by
  rw [labLay_way h] at h4 ⊢
  have hg : guardIx (n.Boxes.getD (Int.toNat a) default) b = none := oix_neg.1 (by omega)
  obtain ⟨hP, e⟩ := guard_P h h1 hg (by unfold wayP; omega) h4
  refine ⟨hP, ?_⟩
  have e2 : layR n (wayOf n a b (linkOf n a b)) = _ := e
  rw [e2]
theorem guard_vcf {n : LabNet} (h : NetOk n) {a b : Int} (h1 : ¬ linkOf n a b < 0) (h2 : ¬ oix (guardIx (n.Boxes.getD (Int.toNat a) default) b) ≥ 0) (h3 : ¬ ((wayOf n a b (linkOf n a b)).length : Int) = 0) (h4 : (labLay n (wayOf n a b (linkOf n a b))).2.2 = 0) :
    0 ≤ oix (rowIx (((labLay n (wayOf n a b (linkOf n a b))).1.Boxes).getD (Int.toNat a) default) (labLay n (wayOf n a b (linkOf n a b))).2.1) := by
  obtain ⟨hP, e⟩ := guard_vc2 h h1 h2 h3 h4
  rw [e]
  obtain ⟨k, k1, _⟩ := hP.found
  rw [k1]; simp only [oix]; omega
theorem guard_vcn {n : LabNet} (h : NetOk n) {a b : Int} (h1 : ¬ linkOf n a b < 0) (h2 : ¬ oix (guardIx (n.Boxes.getD (Int.toNat a) default) b) ≥ 0) (h3 : ¬ ((wayOf n a b (linkOf n a b)).length : Int) = 0) (h4 : (labLay n (wayOf n a b (linkOf n a b))).2.2 = 0) :
    (((labLay n (wayOf n a b (linkOf n a b))).1).Boxes).set (Int.toNat a) (⟨((((labLay n (wayOf n a b (linkOf n a b))).1).Boxes).getD (Int.toNat a) default).Rows, (putK (fun x : LabVia => x.To) (((((labLay n (wayOf n a b (linkOf n a b))).1).Boxes).getD (Int.toNat a) default).Guards) (⟨b, ((((((labLay n (wayOf n a b (linkOf n a b))).1).Boxes).getD (Int.toNat a) default).Rows).getD (Int.toNat (oix (rowIx ((((labLay n (wayOf n a b (linkOf n a b))).1).Boxes).getD (Int.toNat a) default) ((labLay n (wayOf n a b (linkOf n a b))).2.1)))) default).Next, ((((((labLay n (wayOf n a b (linkOf n a b))).1).Boxes).getD (Int.toNat a) default).Rows).getD (Int.toNat (oix (rowIx ((((labLay n (wayOf n a b (linkOf n a b))).1).Boxes).getD (Int.toNat a) default) ((labLay n (wayOf n a b (linkOf n a b))).2.1)))) default).Out⟩ : LabVia))⟩ : LabBox) = (guardN n a b).Boxes := by
  obtain ⟨hP, e⟩ := guard_vc2 h h1 h2 h3 h4
  rw [e]
  obtain ⟨k, k1, k2, k3⟩ := hP.found
  simp only [k1, oix, nn, k2, k3]
  rfl
theorem net_bounds {n : LabNet} (h : NetOk n) {xs : List LabBox} (e : xs = n.Boxes) : xs.length ≤ 1000000000 ∧ ∀ k : Nat, (xs.getD k default).Rows.length ≤ 1000000000 ∧ (xs.getD k default).Guards.length ≤ 1000000000 := by
  subst e
  have h8 := h.frame.b8
  refine ⟨by omega, fun k => ?_⟩
  have h1 := NetOk.rows h k
  have h2 := NetOk.vias h k
  omega
theorem labLay_vias {n : LabNet} (h : NetOk n) (p : List Int) (k : Nat) : ((labLay n p).1.Boxes.getD k default).Guards.length ≤ 8 := by
  rw [labLay_way h]; exact layR_vias h p k
theorem labLay_links {n : LabNet} (h : NetOk n) (p : List Int) : (labLay n p).1.Links = n.Links := by
  rw [labLay_way h]
  unfold layR
  cases pathB n p
  · rfl
  cases labsB n p <;> rfl
theorem guardR_net' (n : LabNet) (a b : Int) (h : NetOk n) : NetOk (guardR n a b).2 := guardR_net h a b
theorem guardR_same (n : LabNet) (a b : Int) : (guardR n a b).2.Boxes.length = n.Boxes.length ∧ (guardR n a b).2.Links = n.Links := by
  unfold guardR
  cases decide (linkOf n a b < 0)
  · cases (guardIx (n.Boxes.getD (Int.toNat a) default) b).isSome
    · cases decide ((wayP n a b).length = 0)
      · cases labsB n (wayP n a b)
        · exact ⟨rfl, rfl⟩
        · exact ⟨by simp [guardN, laidN, layTo_len], rfl⟩
      · exact ⟨rfl, rfl⟩
    · exact ⟨rfl, rfl⟩
  · exact ⟨rfl, rfl⟩
theorem guardR_len (n : LabNet) (a b : Int) : (guardR n a b).2.Boxes.length = n.Boxes.length := (guardR_same n a b).1
theorem guardR_links (n : LabNet) (a b : Int) : (guardR n a b).2.Links = n.Links := (guardR_same n a b).2
end Go.Proofs.YtjefeigdapcleaaGreat
