/- The statement of FnLabOrder: for all arguments the law returns true, without further conditions. Texts put together: PJ1, PJ2, PJ3, VI1, PI1, PI0, VO9, PO9, C28. -/
import Derived.Test.YtmiolofjlfnohaaGreatRows
import Derived.Test.YtmiolofjlfnohaaGreatZC28E
namespace Go.Proofs.YtmiolofjlfnohaaGreat
open Go.RowKit
set_option maxRecDepth 100000
set_option linter.unusedVariables false
set_option linter.unusedSimpArgs false
def bx (n : LabNet) (i : Int) : LabBox := n.Boxes.getD i.toNat default
theorem bx_ok {n : LabNet} (h : NetOk n) {i : Int} (h0 : 0 ≤ i) (h1 : i < (n.Boxes.length : Int)) : BoxP n i (bx n i) := by
 have hb := boxP_ok.1 (h.box i.toNat (by omega))
 rwa [show ((Int.toNat i : Nat) : Int) = i from by omega] at hb
theorem rowP_mem {n : LabNet} (h : NetOk n) {i : Int} (h0 : 0 ≤ i) (h1 : i < (n.Boxes.length : Int)) {r : LabRow} (hr : r ∈ (bx n i).Rows) : rowP (bx n i) r.In = (r, true) := by
 obtain ⟨⟨_, hpw⟩, _⟩ := bx_ok h h0 h1
 obtain ⟨j, hj, ej⟩ := mem_getD hr
 unfold rowP rowIx
 cases e : first (fun k => decide (((bx n i).Rows.getD k default).In = r.In)) (bx n i).Rows.length with
 | none =>
  have := first_none.1 e j hj
  rw [ej] at this
  exact absurd rfl (of_decide_eq_false this)
 | some k =>
  obtain ⟨g1, g2, _⟩ := first_some.1 e
  have : (bx n i).Rows.getD k default = r := pairK_uniq hpw (getD_mem _ g1) hr (of_decide_eq_true g2)
  simp only [this]
theorem guardP_mem {n : LabNet} (h : NetOk n) {i : Int} (h0 : 0 ≤ i) (h1 : i < (n.Boxes.length : Int)) {v : LabVia} (hr : v ∈ (bx n i).Guards) : guardP (bx n i) v.To = (v, true) := by
 obtain ⟨_, _, hpw⟩ := bx_ok h h0 h1
 obtain ⟨j, hj, ej⟩ := mem_getD hr
 unfold guardP guardIx
 cases e : first (fun k => decide (((bx n i).Guards.getD k default).To = v.To)) (bx n i).Guards.length with
 | none =>
  have := first_none.1 e j hj
  rw [ej] at this
  exact absurd rfl (of_decide_eq_false this)
 | some k =>
  obtain ⟨g1, g2, _⟩ := first_some.1 e
  have : (bx n i).Guards.getD k default = v := pairK_uniq hpw (getD_mem _ g1) hr (of_decide_eq_true g2)
  simp only [this]
theorem guardIx_none_iff {b : LabBox} {x : Int} : guardIx b x = none ↔ ∀ v ∈ b.Guards, v.To ≠ x := by
 unfold guardIx
 rw [first_none]
 constructor
 ·intro h v hv
  obtain ⟨k, hk, rfl⟩ := mem_getD hv
  exact of_decide_eq_false (h k hk)
 ·exact fun h k hk => decide_eq_false (h _ (getD_mem _ hk))
structure Tun (n : LabNet) (p ls : List Int) : Prop where
 one : 1 ≤ p.length
 len : ls.length = p.length
 rng : ∀ i, i < p.length → 0 ≤ p.getD i default ∧ p.getD i default < (n.Boxes.length : Int)
 row : ∀ i, i < p.length → rowAt p ls i ∈ (bx n (p.getD i default)).Rows
structure Sub (n n' : LabNet) : Prop where
 links : n'.Links = n.Links
 len : n'.Boxes.length = n.Boxes.length
 rows : ∀ (i : Int) (r : LabRow), r ∈ (bx n i).Rows → r ∈ (bx n' i).Rows
 gds : ∀ (i : Int) (v : LabVia), v ∈ (bx n i).Guards → v ∈ (bx n' i).Guards
theorem Sub.refl (n : LabNet) : Sub n n := ⟨rfl, rfl, fun _ _ h => h, fun _ _ h => h⟩
theorem Sub.trans {a b c : LabNet} (h : Sub a b) (k : Sub b c) : Sub a c := ⟨k.links.trans h.links, k.len.trans h.len, fun i r hr => k.rows i r (h.rows i r hr), fun i v hv => k.gds i v (h.gds i v hv)⟩
theorem Tun.mono {n n' : LabNet} {p ls : List Int} (h : Tun n p ls) (hs : Sub n n') : Tun n' p ls :=
 ⟨h.one, h.len, fun i hi => by rw [hs.len]; exact h.rng i hi, fun i hi => hs.rows _ _ (h.row i hi)⟩
theorem linkOf_sub {n n' : LabNet} (h : n'.Links = n.Links) (a b : Int) : linkOf n' a b = linkOf n a b := by
 unfold linkOf isLink
 rw [h]
theorem Sub.link {n n' : LabNet} (h : Sub n n') (a b : Int) : linkOf n' a b = linkOf n a b := linkOf_sub h.links a b
theorem adj_sub {n n' : LabNet} (hs : Sub n n') (w i j : Int) : adj n' w i j ↔ adj n w i j := by unfold adj; rw [hs.link]
theorem far_sub {n n' : LabNet} (hs : Sub n n') (hf : FrameOk n) (hf' : FrameOk n') {b : Int} (h0 : 0 ≤ b) (h1 : b < (n.Boxes.length : Int)) (w : Int) : F54 n' b w = F54 n b w := by
 have d1 := far_isDist n b w hf h0 h1
 have d2 := far_isDist n' b w hf' h0 (by rw [hs.len]; exact h1)
 refine IsDist.unique (n := n) (b := b) (w := w) ?_ d1
 obtain ⟨a1, a2, a3, a4, a5, a6⟩ := d2
 rw [hs.len] at a1 a3 a4 a5 a6
 exact ⟨a1, a2, a3, fun k hk hp => by
  obtain ⟨j, g1, g2, g3⟩ := a4 k hk hp
  exact ⟨j, g1, (adj_sub hs _ _ _).1 g2, g3⟩, a5, fun j k hj hk ha hq => a6 j k hj hk ((adj_sub hs _ _ _).2 ha) hq⟩
theorem nextOf_sub {n n' : LabNet} (hs : Sub n n') (f : List Int) (a w : Int) : nextOf n' f a w = nextOf n f a w := by
 unfold nextOf nextB
 simp only [hs.link]
theorem wayGo_sub {n n' : LabNet} (hs : Sub n n') (f : List Int) (w : Int) : ∀ (m : Nat) (x : Int), wayGo n' f w m x = wayGo n f w m x
 | 0, _ => rfl
 | m + 1, x => by simp only [wayGo, nextOf_sub hs, wayGo_sub hs f w m]
theorem wayOf_sub {n n' : LabNet} (hs : Sub n n') (hf : FrameOk n) (hf' : FrameOk n') {b : Int} (h0 : 0 ≤ b) (h1 : b < (n.Boxes.length : Int)) (a w : Int) : wayOf n' a b w = wayOf n a b w := by
 unfold wayOf
 rw [far_sub hs hf hf' h0 h1]
 simp only [wayGo_sub hs]
theorem wayP_sub {n n' : LabNet} (hs : Sub n n') (hf : FrameOk n) (hf' : FrameOk n') {a b : Int} (hl : 0 ≤ linkOf n a b) : wayP n' a b = wayP n a b := by
 have := linkOf_in hf hl
 unfold wayP
 rw [hs.link]
 exact wayOf_sub hs hf hf' this.2.2.1 this.2.2.2.1 a _
theorem layTo_skip {n : LabNet} {path : List Int} (labels : List Int) {k : Nat} : ∀ m, (∀ i, i < m → Int.toNat (path.getD i default) ≠ k) → (layTo n path labels m).getD k default = n.Boxes.getD k default
 | 0, _ => rfl
 | m + 1, h => by
  rw [layTo, getD_set, if_neg (fun e => h m (Nat.lt_succ_self _) e.1)]
  exact layTo_skip labels m fun i hi => h i (by omega)
def laidP (n : LabNet) (path : List Int) : LabNet := ⟨n.Links, layTo n path (labsOf n path) path.length⟩
theorem laid_box {n : LabNet} {path : List Int} (h : LayP n path (labsOf n path)) (i : Int) : (∀ r ∈ (bx n i).Rows, r ∈ (bx (laidP n path) i).Rows) ∧ (bx (laidP n path) i).Rows.length ≤ (bx n i).Rows.length + 1 ∧ (bx (laidP n path) i).Guards = (bx n i).Guards := by
 unfold bx laidP
 simp only
 by_cases hx : ∃ j, j < path.length ∧ Int.toNat (path.getD j default) = Int.toNat i
 ·obtain ⟨j, hj, e⟩ := hx
  have hd := layTo_done h.pth (labsOf n path) path.length j hj (Nat.le_refl _)
  rw [e] at hd
  rw [hd]
  exact ⟨fun r hr => putK_mem.2 (.inl hr), by simp only [putK_len]; omega, rfl⟩
 ·rw [layTo_skip (labsOf n path) path.length fun j hj e => hx ⟨j, hj, e⟩]
  exact ⟨fun r hr => hr, by omega, rfl⟩
theorem laid_sub {n : LabNet} {path : List Int} (h : LayP n path (labsOf n path)) : Sub n (laidP n path) :=
 ⟨rfl, layTo_len _ _ _ _, fun i r hr => (laid_box h i).1 r hr, fun i v hv => by rw [(laid_box h i).2.2]; exact hv⟩
theorem laid_tun {n : LabNet} {path : List Int} (h : LayP n path (labsOf n path)) : Tun (laidP n path) path (labsOf n path) := by
 refine ⟨by have := h.pth.two; omega, h.len, fun i hi => by rw [(laid_sub h).len]; exact h.pth.rng i hi, fun i hi => ?_⟩
 unfold bx laidP
 simp only
 rw [layTo_done h.pth (labsOf n path) path.length i hi (Nat.le_refl _)]
 exact putK_mem.2 (.inr rfl)
theorem free_of_len {b : LabBox} (h : b.Rows.length ≤ 59) : freeOf b ≠ 0 := by
 unfold freeOf
 cases e : first (fun k => (rowIx b ((k : Int) + 1)).isNone) 60 with
 | some k => simp only; omega
 | none =>
  exfalso
  have hk : ∀ k : Nat, k < 60 → ∃ j, rowIx b ((k : Int) + 1) = some j ∧ j < b.Rows.length ∧ (b.Rows.getD j default).In = (k : Int) + 1 := fun k hk => by
   have h1 := first_none.1 e k hk
   cases h2 : rowIx b ((k : Int) + 1) with
   | none => rw [h2] at h1; cases h1
   | some j =>
    have h3 := first_some.1 h2
    exact ⟨j, rfl, h3.1, of_decide_eq_true h3.2.1⟩
  have hn : ((List.range 60).map fun (k : Nat) => (rowIx b ((k : Int) + 1)).getD 0).Nodup := by
   refine List.pairwise_iff_getElem.2 fun i j hi hj hij he => ?_
   simp only [List.length_map, List.length_range] at hi hj
   simp only [List.getElem_map, List.getElem_range] at he
   obtain ⟨x, x1, x2, x3⟩ := hk i hi
   obtain ⟨y, y1, y2, y3⟩ := hk j hj
   rw [x1, y1] at he
   simp only [Option.getD_some] at he
   subst he
   omega
  have := nodup_le b.Rows.length _ hn fun x hx => by
   obtain ⟨k, hk1, rfl⟩ := List.mem_map.1 hx
   obtain ⟨j, j1, j2, _⟩ := hk k (List.mem_range.1 hk1)
   rw [j1]; exact j2
  simp only [List.length_map, List.length_range] at this
  omega
theorem labs_of_len {n : LabNet} (h : ∀ i : Int, (bx n i).Rows.length ≤ 59) (path : List Int) : labsB n path = true := by
 unfold labsB
 refine List.all_eq_true.2 fun x hx => ?_
 obtain ⟨y, _, rfl⟩ := List.mem_map.1 hx
 have := free_of_len (h y)
 unfold bx at this
 unfold freeOn
 simpa using this
theorem layR_of {n : LabNet} (hn : NetOk n) (h : ∀ i : Int, (bx n i).Rows.length ≤ 59) {path : List Int} (hp : PathOk n path) : LayP n path (labsOf n path) ∧ layR n path = ((labsOf n path).getD 0 default, 0, laidP n path) := by
 have hb := labs_of_len h path
 have hq := pathB_ok.2 hp
 refine ⟨layP_of hn hq hb, ?_⟩
 unfold layR
 rw [hq, hb]; rfl
theorem way_last {n : LabNet} (hf : FrameOk n) {a b : Int} (hl : 0 ≤ linkOf n a b) (hne : (wayP n a b).length ≠ 0) : (wayP n a b).getD ((wayP n a b).length - 1) default = b := by
 obtain ⟨a0, a1, b0, b1, hab⟩ := linkOf_in hf hl
 have hD := far_isDist n b (linkOf n a b) hf b0 b1
 unfold wayP at hne ⊢
 unfold wayOf at hne ⊢
 by_cases hneg : (F54 n b (linkOf n a b)).getD a.toNat default < 0
 ·rw [decide_eq_true hneg] at hne; exact absurd rfl hne
 rw [decide_eq_false hneg]
 simp only [cond_false]
 generalize hm : Int.toNat ((F54 n b (linkOf n a b)).getD a.toNat default) = m at *
 have hlen : (a :: wayGo n (F54 n b (linkOf n a b)) (linkOf n a b) m a).length = m + 1 := by rw [List.length_cons, wayGo_len]
 obtain ⟨g1, g2, g3, _⟩ := wayGo_at hD hf.b8 m a a0 a1 (by omega) m (Nat.le_refl _)
 rw [hlen, Nat.add_sub_cancel]
 have := hD.zero ((a :: wayGo n (F54 n b (linkOf n a b)) (linkOf n a b) m a).getD m default).toNat (by omega) (by omega)
 omega
def Gd (n : LabNet) (a b : Int) : Prop :=
 ((wayP n a b).length = 0 → guardIx (bx n a) b = none) ∧ ((wayP n a b).length ≠ 0 → ∃ gl, Tun n (wayP n a b) gl ∧ (⟨b, (wayP n a b).getD 1 default, gl.getD 1 default⟩ : LabVia) ∈ (bx n a).Guards)
theorem Gd.mono {n n' : LabNet} (hs : Sub n n') (hf : FrameOk n) (hf' : FrameOk n') {a b : Int} (hl : 0 ≤ linkOf n a b) (h : Gd n a b) (hg : guardIx (bx n a) b = none → guardIx (bx n' a) b = none) : Gd n' a b := by
 have e := wayP_sub hs hf hf' hl
 refine ⟨fun hw => ?_, fun hw => ?_⟩
 ·rw [e] at hw; exact hg (h.1 hw)
 ·rw [e] at hw
  obtain ⟨gl, g1, g2⟩ := h.2 hw
  rw [e]
  exact ⟨gl, g1.mono hs, hs.gds _ _ g2⟩
theorem guard_step {n : LabNet} (hn : NetOk n) {a b : Int} (hl : 0 ≤ linkOf n a b) (hg : guardIx (bx n a) b = none) (hr : ∀ i : Int, (bx n i).Rows.length ≤ 59) :
  NetOk (guardR n a b).2 ∧ Sub n (guardR n a b).2 ∧ (∀ i : Int, (bx (guardR n a b).2 i).Rows.length ≤ (bx n i).Rows.length + 1) ∧ (∀ i x : Int, 0 ≤ i → (i ≠ a ∨ x ≠ b) → guardIx (bx n i) x = none → guardIx (bx (guardR n a b).2 i) x = none) ∧ Gd (guardR n a b).2 a b := by
 have hN := guardR_net hn a b
 obtain ⟨a0, a1, _⟩ := linkOf_in hn.frame hl
 by_cases hw : (wayP n a b).length = 0
 ·have e : (guardR n a b).2 = n := by
   unfold guardR
   have hg' : guardIx (n.Boxes.getD a.toNat default) b = none := hg
   rw [decide_eq_false (by omega : ¬ linkOf n a b < 0), hg', decide_eq_true hw]; rfl
  rw [e]
  exact ⟨hn, Sub.refl n, fun i => by omega, fun i x _ _ h => h, fun _ => hg, fun h => absurd hw h⟩
 ·have hp := (way_path hn.frame hl hw).1
  obtain ⟨hL, _⟩ := layR_of hn hr hp
  have e : (guardR n a b).2 = guardN n a b := by
   unfold guardR
   have hg' : guardIx (n.Boxes.getD a.toNat default) b = none := hg
   rw [decide_eq_false (by omega : ¬ linkOf n a b < 0), hg', decide_eq_false hw, labs_of_len hr]; rfl
  rw [e] at hN ⊢
  have hlen : (laidN n a b).Boxes.length = n.Boxes.length := layTo_len _ _ _ _
  have hbx : ∀ i : Int, (bx (guardN n a b) i).Rows = (bx (laidP n (wayP n a b)) i).Rows ∧ (bx (guardN n a b) i).Guards = if Int.toNat a = Int.toNat i then putK (fun x : LabVia => x.To) (bx n i).Guards (guardV n a b) else (bx n i).Guards := fun i => by
   have hgs := (laid_box hL i).2.2
   unfold bx guardN at *
   simp only [getD_set]
   by_cases hi : Int.toNat a = Int.toNat i
   ·rw [if_pos ⟨hi, by rw [hlen, ← hi]; omega⟩, if_pos hi]
    refine ⟨by rw [hi]; rfl, ?_⟩
    show putK _ ((laidN n a b).Boxes.getD a.toNat default).Guards _ = _
    rw [hi]
    have : ((laidN n a b).Boxes.getD i.toNat default).Guards = (n.Boxes.getD i.toNat default).Guards := hgs
    rw [this]
   ·rw [if_neg (fun h => hi h.1), if_neg hi]
    exact ⟨rfl, hgs⟩
  have hs : Sub n (guardN n a b) := ⟨rfl, by simp only [guardN, List.length_set]; exact hlen, fun i r h => by rw [(hbx i).1]; exact (laid_box hL i).1 r h, fun i v h => by
   rw [(hbx i).2]
   split
   ·exact putK_mem.2 (.inl h)
   ·exact h⟩
  refine ⟨hN, hs, fun i => by rw [(hbx i).1]; exact (laid_box hL i).2.1, fun i x hi0 hix h => ?_, fun h => ?_, fun _ => ?_⟩
  ·rw [guardIx_none_iff] at h ⊢
   rw [(hbx i).2]
   split
   ·rename_i hi
    intro v hv
    rcases putK_mem.1 hv with hv | rfl
    ·exact h v hv
    ·have : i = a := by omega
     rcases hix with h1 | h1
     ·exact absurd this h1
     ·exact fun e => h1 e.symm
   ·exact h
  ·rw [wayP_sub hs hn.frame hN.frame hl] at h; exact absurd h hw
  ·rw [wayP_sub hs hn.frame hN.frame hl]
   refine ⟨labsOf n (wayP n a b), ?_, ?_⟩
   ·have ht := laid_tun hL
    exact ⟨ht.one, ht.len, fun i hi => by rw [hs.len]; exact hp.rng i hi, fun i hi => by rw [(hbx _).1]; exact ht.row i hi⟩
   ·rw [(hbx a).2, if_pos rfl]
    exact putK_mem.2 (.inr rfl)
structure GI (n x : LabNet) (k : Nat) : Prop where
 net : NetOk x
 sub : Sub n x
 rows : ∀ i : Int, (bx x i).Rows.length ≤ (bx n i).Rows.length + 2 * k
 done : ∀ j, j < k → Gd x (n.Links.getD j default).A (n.Links.getD j default).B ∧ Gd x (n.Links.getD j default).B (n.Links.getD j default).A
 todo : ∀ j, k ≤ j → j < n.Links.length → guardIx (bx x (n.Links.getD j default).A) (n.Links.getD j default).B = none ∧ guardIx (bx x (n.Links.getD j default).B) (n.Links.getD j default).A = none
theorem link_at {n : LabNet} (hf : FrameOk n) {j : Nat} (hj : j < n.Links.length) : linkOf n (n.Links.getD j default).A (n.Links.getD j default).B = j ∧ linkOf n (n.Links.getD j default).B (n.Links.getD j default).A = j := by
 have h : linkOf n (n.Links.getD j default).A (n.Links.getD j default).B = j := linkOf_of hf hj (by simp [isLink])
 exact ⟨h, by rw [linkOf_comm]; exact h⟩
theorem gAll_GI {n : LabNet} (hn : NetOk n) (hg : ∀ i : Int, (bx n i).Guards = []) (hr : ∀ i : Int, (bx n i).Rows.length ≤ 3) : ∀ k, k ≤ n.Links.length → GI n (gAll n k) k
 | 0, _ => ⟨hn, Sub.refl n, fun i => Nat.le_refl _, fun j hj => absurd hj (Nat.not_lt_zero _), fun j _ _ => by
  constructor <;> (rw [guardIx_none_iff]; intro v hv; simp only [gAll] at hv; rw [hg] at hv; cases hv)⟩
 | k + 1, hk => by
  have G := gAll_GI hn hg hr k (by omega)
  have hl14 := hn.frame.l14
  have hab := hn.frame.ab k (by omega)
  have hlk := link_at hn.frame (j := k) (by omega)
  have htodo := G.todo k (Nat.le_refl _) (by omega)
  simp only [gAll]
  generalize hA : (n.Links.getD k default).A = A at *
  generalize hB : (n.Links.getD k default).B = B at *
  have hrow1 : ∀ i : Int, (bx (gAll n k) i).Rows.length ≤ 31 := fun i => by have := G.rows i; have := hr i; omega
  obtain ⟨s1, s2, s3, s4, s5⟩ := guard_step G.net (a := A) (b := B) (by rw [G.sub.link, hlk.1]; omega) htodo.1 (fun i => by have := hrow1 i; omega)
  generalize (guardR (gAll n k) A B).2 = y at *
  have hsub1 := G.sub.trans s2
  obtain ⟨t1, t2, t3, t4, t5⟩ := guard_step s1 (a := B) (b := A) (by rw [hsub1.link, hlk.2]; omega) (s4 B A (by omega) (.inl (by omega)) htodo.2) (fun i => by have := hrow1 i; have := s3 i; omega)
  generalize (guardR y B A).2 = z at *
  have hsub2 := hsub1.trans t2
  have hxz := s2.trans t2
  have hoth : ∀ i x : Int, 0 ≤ i → (i ≠ A ∨ x ≠ B) → (i ≠ B ∨ x ≠ A) → guardIx (bx (gAll n k) i) x = none → guardIx (bx z i) x = none := fun i x h0 h1 h2 h => t4 i x h0 h2 (s4 i x h0 h1 h)
  have hdiff : ∀ j, j < n.Links.length → j ≠ k → ((n.Links.getD j default).A ≠ A ∨ (n.Links.getD j default).B ≠ B) ∧ ((n.Links.getD j default).A ≠ B ∨ (n.Links.getD j default).B ≠ A) := fun j hj hjk => by
   have hj1 := link_at hn.frame hj
   have hj2 := hn.frame.ab j hj
   constructor
   ·by_cases e : (n.Links.getD j default).A = A
    ·refine .inr fun e2 => hjk ?_
     rw [e, e2, hlk.1] at hj1
     omega
    ·exact .inl e
   ·omega
  refine ⟨t1, hsub2, fun i => by have := G.rows i; have := s3 i; have := t3 i; omega, fun j hj => ?_, fun j hj1 hj2 => ?_⟩
  ·by_cases hjk : j = k
   ·subst hjk
    rw [hA, hB]
    exact ⟨s5.mono t2 s1.frame t1.frame (by rw [hsub1.link, hlk.1]; omega) (fun h => t4 A B (by omega) (.inl (by omega)) h), t5⟩
   ·have hd := hdiff j (by omega) hjk
    have hj2 := hn.frame.ab j (by omega)
    have hj1 := link_at hn.frame (j := j) (by omega)
    obtain ⟨d1, d2⟩ := G.done j (by omega)
    exact ⟨d1.mono hxz G.net.frame t1.frame (by rw [G.sub.link, hj1.1]; omega) (hoth _ _ (by omega) hd.1 hd.2), d2.mono hxz G.net.frame t1.frame (by rw [G.sub.link, hj1.2]; omega) (hoth _ _ (by omega) (by omega) (by omega))⟩
  ·have hd := hdiff j hj2 (by omega)
   have hj3 := hn.frame.ab j hj2
   obtain ⟨d1, d2⟩ := G.todo j (by omega) hj2
   exact ⟨hoth _ _ (by omega) hd.1 hd.2 d1, hoth _ _ (by omega) (by omega) (by omega) d2⟩
theorem gAll_all {n : LabNet} (hn : NetOk n) (hg : ∀ i : Int, (bx n i).Guards = []) (hr : ∀ i : Int, (bx n i).Rows.length ≤ 3) :
  NetOk (gAll n n.Links.length) ∧ Sub n (gAll n n.Links.length) ∧ (∀ i : Int, (bx (gAll n n.Links.length) i).Rows.length ≤ 31) ∧ ∀ a b : Int, 0 ≤ linkOf n a b → Gd (gAll n n.Links.length) a b := by
 have G := gAll_GI hn hg hr n.Links.length (Nat.le_refl _)
 have hl14 := hn.frame.l14
 refine ⟨G.net, G.sub, fun i => by have := G.rows i; have := hr i; omega, fun a b hl => ?_⟩
 obtain ⟨h1, h2⟩ := linkOf_some hl
 obtain ⟨d1, d2⟩ := G.done _ h1
 unfold isLink at h2
 simp only [Bool.or_eq_true, Bool.and_eq_true, decide_eq_true_eq, beq_iff_eq] at h2
 rcases h2 with ⟨e1, e2⟩ | ⟨e1, e2⟩
 ·rw [e1, e2] at d1; exact d1
 ·rw [e1, e2] at d2; exact d2
end Go.Proofs.YtmiolofjlfnohaaGreat
namespace Go.Proofs.YtmiolofjlfnohaaGreat
open Go.RowKit
set_option maxRecDepth 100000
set_option linter.unusedVariables false
set_option linter.unusedSimpArgs false
theorem st_end (n : LabNet) (dn : List Int) (u : Int) : F37 n dn (⟨u, []⟩ : LabPacket) = ((⟨u, []⟩ : LabPacket), 3) := by
 unfold F37
 rfl
theorem st_row {n : LabNet} {u l : Int} {r : LabRow} (hr : rowP (bx n u) l = (r, true)) (dn S : List Int) : F37 n dn (⟨u, S ++ [l]⟩ : LabPacket) =
  bif (r.Next == (-1)) then ((⟨u, S⟩ : LabPacket), 0) else (bif (!decide (linkOf n u r.Next ∈ dn)) then ((⟨r.Next, S ++ [r.Out]⟩ : LabPacket), 0) else
   (bif (bif (!(guardP (bx n u) r.Next).2) then true else (!(!decide (linkOf n u (guardP (bx n u) r.Next).1.Via ∈ dn)))) then ((⟨u, S ++ [l]⟩ : LabPacket), 5) else
    (bif (((S ++ [l]).length : Int) == 8) then ((⟨u, S ++ [l]⟩ : LabPacket), 7) else ((⟨(guardP (bx n u) r.Next).1.Via, (S ++ [r.Out]) ++ [(guardP (bx n u) r.Next).1.Push]⟩ : LabPacket), 0)))) := by
 unfold F37
 have e1 : ((S ++ [l]).length : Int) - 1 = (S.length : Int) := by simp
 have e2 : (S ++ [l]).getD S.length default = l := by rw [getD_app, if_neg (Nat.lt_irrefl _), if_pos rfl]
 have e3 : (S ++ [l]).take S.length = S := by simp
 have e4 : ∀ x, (S ++ [l]).set S.length x = S ++ [x] := fun x => by rw [List.set_append_right _ _ (Nat.le_refl _), Nat.sub_self]; rfl
 have e5 : decide ((S.length : Int) < 0) = false := decide_eq_false (by omega)
 unfold bx at hr ⊢
 simp only [e1, nn, e2, e3, e4, e5, hr, cond_false, Bool.not_true]
def Run (n : LabNet) (dn : List Int) : Nat → LabPacket → LabPacket → Prop
 | 0, p, q => p = q
 | m + 1, p, q => ∃ x, F37 n dn p = (x, 0) ∧ Run n dn m x q
theorem Run.trans {n : LabNet} {dn : List Int} : ∀ {m k : Nat} {p q r : LabPacket}, Run n dn m p q → Run n dn k q r → Run n dn (m + k) p r
 | 0, k, p, q, r, h1, h2 => by
  have h1 : p = q := h1
  subst h1
  rw [Nat.zero_add]; exact h2
 | m + 1, k, p, q, r, ⟨x, h0, h1⟩, h2 => by
  rw [show m + 1 + k = (m + k) + 1 by omega]
  exact ⟨x, h0, h1.trans h2⟩
theorem Run.one {n : LabNet} {dn : List Int} {p x : LabPacket} (h : F37 n dn p = (x, 0)) : Run n dn 1 p x := ⟨x, h, rfl⟩
theorem rowAt_go {p ls : List Int} {i : Nat} (h : i + 1 < p.length) : rowAt p ls i = ⟨ls.getD i default, p.getD (i + 1) default, ls.getD (i + 1) default⟩ := by
 unfold rowAt
 rw [decide_eq_true (by omega : (i : Int) + 1 < (p.length : Int))]; rfl
theorem rowAt_end {p ls : List Int} {i : Nat} (h : p.length ≤ i + 1) : rowAt p ls i = ⟨ls.getD i default, -1, 0⟩ := by
 unfold rowAt
 rw [decide_eq_false (by omega : ¬ (i : Int) + 1 < (p.length : Int))]; rfl
theorem Tun.at {n : LabNet} (hn : NetOk n) {p ls : List Int} (T : Tun n p ls) {i : Nat} (hi : i < p.length) : rowP (bx n (p.getD i default)) (ls.getD i default) = (rowAt p ls i, true) := by
 have h := T.rng i hi
 exact rowP_mem hn h.1 h.2 (T.row i hi)
theorem Tun.lbl {n : LabNet} (hn : NetOk n) {p ls : List Int} (T : Tun n p ls) {i : Nat} (hi : i < p.length) : isLabel (ls.getD i default) := by
 have h := T.rng i hi
 exact ((bx_ok hn h.1 h.2).1.1 _ (T.row i hi)).1
theorem walk_part {n : LabNet} (hn : NetOk n) {p ls : List Int} (T : Tun n p ls) (dn S : List Int) : ∀ (d a : Nat), a + d < p.length → (∀ i, a ≤ i → i < a + d → linkOf n (p.getD i default) (p.getD (i + 1) default) ∉ dn) →
  Run n dn d (⟨p.getD a default, S ++ [ls.getD a default]⟩ : LabPacket) (⟨p.getD (a + d) default, S ++ [ls.getD (a + d) default]⟩ : LabPacket)
 | 0, a, _, _ => rfl
 | d + 1, a, ha, hup => by
  have h1 := T.rng (a + 1) (by omega)
  have hs := st_row (T.at hn (i := a) (by omega)) dn S
  rw [rowAt_go (by omega)] at hs
  have hx : (p.getD (a + 1) default == (-1)) = false := by rw [beqD]; exact decide_eq_false (by omega)
  simp only [hx, cond_false, decide_eq_false (hup a (Nat.le_refl _) (by omega)), Bool.not_false, cond_true] at hs
  refine ⟨_, hs, ?_⟩
  have := walk_part hn T dn S d (a + 1) (by omega) fun i hi1 hi2 => hup i (by omega) (by omega)
  rwa [show a + 1 + d = a + (d + 1) by omega] at this
theorem walk_pop {n : LabNet} (hn : NetOk n) {p ls : List Int} (T : Tun n p ls) (dn S : List Int) : Run n dn 1 (⟨p.getD (p.length - 1) default, S ++ [ls.getD (p.length - 1) default]⟩ : LabPacket) (⟨p.getD (p.length - 1) default, S⟩ : LabPacket) := by
 have h1 := T.one
 have hs := st_row (T.at hn (i := p.length - 1) (by omega)) dn S
 rw [rowAt_end (by omega)] at hs
 exact Run.one hs
theorem walk_round {n : LabNet} (hn : NetOk n) {p ls : List Int} (T : Tun n p ls) (S : List Int) (hS : S.length ≤ 6) {j : Nat} (hj : j + 1 < p.length) (hl : 0 ≤ linkOf n (p.getD j default) (p.getD (j + 1) default)) (hG : Gd n (p.getD j default) (p.getD (j + 1) default)) (hw : (wayP n (p.getD j default) (p.getD (j + 1) default)).length ≠ 0) :
  Run n [linkOf n (p.getD j default) (p.getD (j + 1) default)] (wayP n (p.getD j default) (p.getD (j + 1) default)).length (⟨p.getD j default, S ++ [ls.getD j default]⟩ : LabPacket) (⟨p.getD (j + 1) default, S ++ [ls.getD (j + 1) default]⟩ : LabPacket) := by
 obtain ⟨gl, G1, G2⟩ := hG.2 hw
 obtain ⟨hp, w0, w1, w2⟩ := way_path hn.frame hl hw
 have wl := way_last hn.frame hl hw
 have hrj := T.rng j (by omega)
 have hrj1 := T.rng (j + 1) hj
 have hs := st_row (T.at hn (i := j) (by omega)) [linkOf n (p.getD j default) (p.getD (j + 1) default)] S
 rw [rowAt_go hj] at hs
 generalize hu : p.getD j default = u at *
 generalize hv : p.getD (j + 1) default = v at *
 generalize hW : wayP n u v = W at *
 have hgp := guardP_mem hn hrj.1 hrj.2 G2
 have h2 := hp.two
 have hx : (v == (-1)) = false := by rw [beqD]; exact decide_eq_false (by omega)
 have hvia := w2 0 (by omega)
 rw [w0] at hvia
 have hv2 : linkOf n u (W.getD 1 default) ∉ [linkOf n u v] := by simpa using hvia.2
 have hlen : (((S ++ [ls.getD j default]).length : Int) == 8) = false := by rw [beqD]; exact decide_eq_false (by simp; omega)
 simp only at hgp
 simp only [hx, cond_false, List.mem_singleton, decide_true, Bool.not_true, hgp] at hs
 rw [decide_eq_false (by simpa using hv2 : ¬ linkOf n u (W.getD 1 default) = linkOf n u v), hlen] at hs
 simp only [Bool.not_false, Bool.not_true, cond_false] at hs
 have hpart := walk_part hn G1 [linkOf n u v] (S ++ [ls.getD (j + 1) default]) (W.length - 2) 1 (by omega) fun i hi1 hi2 => by
  have := w2 i (by omega)
  simpa using this.2
 have hpop := walk_pop hn G1 [linkOf n u v] (S ++ [ls.getD (j + 1) default])
 rw [show 1 + (W.length - 2) = W.length - 1 by omega] at hpart
 have h3 := (Run.one hs).trans (hpart.trans hpop)
 rw [wl] at h3
 rwa [show 1 + (W.length - 2 + 1) = W.length by omega] at h3
theorem link_once {n : LabNet} (hf : FrameOk n) {p : List Int} (hp : PathOk n p) {i j : Nat} (hi : i + 1 < p.length) (hj : j + 1 < p.length) (h : linkOf n (p.getD i default) (p.getD (i + 1) default) = linkOf n (p.getD j default) (p.getD (j + 1) default)) : i = j := by
 obtain ⟨a1, a2⟩ := linkOf_some (hp.lnk i hi)
 obtain ⟨b1, b2⟩ := linkOf_some (hp.lnk j hj)
 rw [h] at a2
 unfold isLink at a2 b2
 simp only [Bool.or_eq_true, Bool.and_eq_true, decide_eq_true_eq] at a2 b2
 have inj := hp.inj
 have c1 : p.getD i default = p.getD j default → i = j := inj i j (by omega) (by omega)
 have c2 : p.getD i default = p.getD (j + 1) default → i = j + 1 := inj i (j + 1) (by omega) hj
 have c3 : p.getD (i + 1) default = p.getD j default → i + 1 = j := inj (i + 1) j hi (by omega)
 rcases a2 with ⟨x1, x2⟩ | ⟨x1, x2⟩ <;> rcases b2 with ⟨y1, y2⟩ | ⟨y1, y2⟩
 ·exact c1 (x1.symm.trans y1)
 ·have := c2 (x1.symm.trans y1); have := c3 (x2.symm.trans y2); omega
 ·have := c2 (x2.symm.trans y2); have := c3 (x1.symm.trans y1); omega
 ·exact c1 (x2.symm.trans y2)
def extra (n : LabNet) (p : List Int) (d : Int) : Int := match first (fun i => decide (linkOf n (p.getD i default) (p.getD (i + 1) default) = d)) (p.length - 1) with
 | some i => ((labWay n (p.getD i default) (p.getD (i + 1) default) d).length : Int) - 1
 | none => 0
theorem tun_go {n : LabNet} (hn : NetOk n) (hG : ∀ a b : Int, 0 ≤ linkOf n a b → Gd n a b) {p ls : List Int} (T : Tun n p ls) (hp : PathOk n p) (d : Int) (S : List Int) (hS : S.length ≤ 6) :
  (0 ≤ extra n p d → ∃ m : Nat, (m : Int) = (p.length : Int) + extra n p d ∧ m ≤ 16 ∧ Run n [d] m (⟨p.getD 0 default, S ++ [ls.getD 0 default]⟩ : LabPacket) (⟨p.getD (p.length - 1) default, S⟩ : LabPacket)) ∧
  (extra n p d < 0 → ∃ (m : Nat) (q : LabPacket), m ≤ 8 ∧ Run n [d] m (⟨p.getD 0 default, S ++ [ls.getD 0 default]⟩ : LabPacket) q ∧ F37 n [d] q = (q, 5) ∧ ∃ j, j + 1 < p.length ∧ m = j ∧ q.Box = p.getD j default ∧ linkOf n (p.getD j default) (p.getD (j + 1) default) = d) := by
 have h2 := hp.two
 have hm := hp.most
 have h8 := hn.frame.b8
 unfold extra
 cases hf : first (fun i => decide (linkOf n (p.getD i default) (p.getD (i + 1) default) = d)) (p.length - 1) with
 | none =>
  have hno := first_none.1 hf
  refine ⟨fun _ => ⟨p.length, by simp only; omega, by omega, ?_⟩, fun h => absurd h (by simp)⟩
  have h1 := walk_part hn T [d] S (p.length - 1) 0 (by omega) fun i _ hi => by
   have := of_decide_eq_false (hno i (by omega))
   simpa using this
  rw [Nat.zero_add] at h1
  have h3 := h1.trans (walk_pop hn T [d] S)
  rwa [show p.length - 1 + 1 = p.length by omega] at h3
 | some j =>
  obtain ⟨hj, hjd, hjl⟩ := first_some.1 hf
  have hjd := of_decide_eq_true hjd
  have hl := hp.lnk j (by omega)
  have hup : ∀ i, i + 1 < p.length → i ≠ j → linkOf n (p.getD i default) (p.getD (i + 1) default) ∉ [d] := fun i hi hij hmem => by
   simp only [List.mem_singleton] at hmem
   exact hij (link_once hn.frame hp hi (by omega) (hmem.trans hjd.symm))
  have hway : labWay n (p.getD j default) (p.getD (j + 1) default) d = wayP n (p.getD j default) (p.getD (j + 1) default) := by
   rw [← hjd]; exact labWay_way hn (by omega)
  simp only [hway]
  have h1 := walk_part hn T [d] S j 0 (by omega) fun i _ hi => hup i (by omega) (by omega)
  rw [Nat.zero_add] at h1
  have hGj := hG _ _ hl
  by_cases hw : (wayP n (p.getD j default) (p.getD (j + 1) default)).length = 0
  ·refine ⟨fun h => absurd h (by omega), fun _ => ⟨j, _, by omega, h1, ?_, j, by omega, rfl, rfl, hjd⟩⟩
   have hs := st_row (T.at hn (i := j) (by omega)) [d] S
   rw [rowAt_go (by omega)] at hs
   have hrj1 := T.rng (j + 1) (by omega)
   have hx : (p.getD (j + 1) default == (-1)) = false := by rw [beqD]; exact decide_eq_false (by omega)
   have hgn := guardP_none.2 (hGj.1 hw)
   simp only [hx, cond_false, hjd, List.mem_singleton, decide_true, Bool.not_true, hgn, Bool.not_false, cond_true] at hs
   exact hs
  ·refine ⟨fun _ => ⟨j + ((wayP n (p.getD j default) (p.getD (j + 1) default)).length + (p.length - 1 - (j + 1) + 1)), by omega, ?_, ?_⟩, fun h => absurd h (by omega)⟩
   ·have := (way_path hn.frame hl hw).1.most; omega
   ·have hrd := walk_round hn T S hS (j := j) (by omega) hl hGj hw
    rw [hjd] at hrd
    have h3 := walk_part hn T [d] S (p.length - 1 - (j + 1)) (j + 1) (by omega) fun i hi1 hi2 => hup i (by omega) (by omega)
    rw [show j + 1 + (p.length - 1 - (j + 1)) = p.length - 1 by omega] at h3
    exact h1.trans (hrd.trans (h3.trans (walk_pop hn T [d] S)))
end Go.Proofs.YtmiolofjlfnohaaGreat
namespace Go.Proofs.YtmiolofjlfnohaaGreat
open Go.RowKit
set_option maxRecDepth 100000
set_option linter.unusedVariables false
set_option linter.unusedSimpArgs false
theorem wayOf_pathI {n : LabNet} (hf : FrameOk n) {a b w : Int} (a0 : 0 ≤ a) (a1 : a < (n.Boxes.length : Int)) (b0 : 0 ≤ b) (b1 : b < (n.Boxes.length : Int)) (hne : (wayOf n a b w).length ≠ 0) :
  PathI n (wayOf n a b w) ∧ (wayOf n a b w).getD 0 default = a ∧ (wayOf n a b w).getD ((wayOf n a b w).length - 1) default = b := by
 have hD := far_isDist n b w hf b0 b1
 unfold wayOf at hne ⊢
 by_cases hneg : (F54 n b w).getD a.toNat default < 0
 ·rw [decide_eq_true hneg] at hne; exact absurd rfl hne
 rw [decide_eq_false hneg]
 simp only [cond_false]
 generalize hm : Int.toNat ((F54 n b w).getD a.toNat default) = m at *
 have hat := wayGo_at hD hf.b8 m a a0 a1 (by omega)
 have hlen : (a :: wayGo n (F54 n b w) w m a).length = m + 1 := by rw [List.length_cons, wayGo_len]
 generalize hW : a :: wayGo n (F54 n b w) w m a = W at *
 refine ⟨⟨by omega, fun x hx => ?_, ?_, fun i hi => ?_⟩, by rw [← hW]; rfl, ?_⟩
 ·obtain ⟨k, hk, rfl⟩ := mem_getD hx
  have := hat k (by omega)
  exact ⟨this.1, this.2.1⟩
 ·refine List.pairwise_iff_getElem.2 fun i j hi hj hij e => ?_
  have h1 := (hat i (by omega)).2.2.1
  have h2 := (hat j (by omega)).2.2.1
  rw [getD_lt W hi, e, ← getD_lt W hj] at h1
  omega
 ·exact ((hat i (by omega)).2.2.2 (by omega)).1
 ·obtain ⟨g1, g2, g3, _⟩ := hat m (Nat.le_refl _)
  rw [hlen, Nat.add_sub_cancel]
  have := hD.zero (W.getD m default).toNat (by omega) (by omega)
  omega
structure Two (n : LabNet) (a b : List Int) : Prop where
 net : NetOk n
 bare : ∀ i : Int, (bx n i).Rows = [] ∧ (bx n i).Guards = []
 pa : PathI n a
 pb : b.length ≠ 0 → PathI n b ∧ b.getD 0 default = a.getD (a.length - 1) default
 lb : b.length ≤ 8
theorem two_ok (codeX : SV) (code : List Int) : Two (F6 codeX code).1 (F6 codeX code).2.1 (F6 codeX code).2.2 := by
 unfold F6
 obtain ⟨h1, h2⟩ := open_b codeX code
 generalize F22 codeX code = O at *
 obtain ⟨⟨b, p⟩, X⟩ := O
 simp only at h1 h2 ⊢
 obtain ⟨n1, n2, n3, n4⟩ := bare_ok (⟨b, p⟩ : l71Rd) (by show 0 ≤ p; omega) (by show p ≤ _; omega)
 generalize F23 (⟨b, p⟩ : l71Rd) = N at *
 obtain ⟨n, p2⟩ := N
 simp only at n1 n2 n3 n4 ⊢
 obtain ⟨k1, k2, k3⟩ := path_ok (⟨b, p2⟩ : l71Rd) n n1.frame (by show 0 ≤ p2; omega) (by show p2 ≤ _; omega)
 obtain ⟨_, _, k4, _, k5, k6⟩ := path_p (⟨b, p2⟩ : l71Rd) n (by show 0 ≤ p2; omega) (by show p2 ≤ _; omega) n1.frame
 generalize F24 (⟨b, p2⟩ : l71Rd) n = A at *
 obtain ⟨a, p3⟩ := A
 simp only at k1 k2 k3 k4 k5 k6 ⊢
 have hb1 := n1.frame.b1
 have hx := pick_in (⟨b, p3⟩ : l71Rd) (n.Boxes.length : Int) (by show 0 ≤ p3; omega) (by show p3 ≤ _; omega)
 generalize F26 (⟨b, p3⟩ : l71Rd) (n.Boxes.length : Int) = Q at *
 obtain ⟨x, p4⟩ := Q
 simp only at hx ⊢
 have e1 : Int.toNat ((a.length : Int) - 1) = a.length - 1 := by omega
 rw [e1] at k5 k6 ⊢
 refine ⟨n1, fun i => ?_, k1, fun hne => ?_, ?_⟩
 ·have := n2 i.toNat
  unfold bx
  rw [this]; exact ⟨rfl, rfl⟩
 ·obtain ⟨w1, w2, _⟩ := wayOf_pathI n1.frame k5 k6 hx.1 (hx.2.1 (by omega)) hne
  exact ⟨w1, w2⟩
 ·have := wayOf_len n1.frame (-1) k5 k6 hx.1 (hx.2.1 (by omega))
  have := n1.frame.b8
  omega
theorem two_b (codeX : SV) (code : List Int) : (F6 codeX code).2.1.length ≤ 8 ∧ (F6 codeX code).2.2.length ≤ 8 := by
 have h := two_ok codeX code
 exact ⟨h.pa.len h.net.frame, h.lb⟩
end Go.Proofs.YtmiolofjlfnohaaGreat
namespace Go.Proofs.YtmiolofjlfnohaaGreat
open Go.RowKit
set_option maxRecDepth 100000
set_option linter.unusedVariables false
set_option linter.unusedSimpArgs false
def F12_s0 (n:LabNet) (down:List Int) (p:LabPacket):(Int × Int × List Int) → Lp (Int × Int × List Int) (LabPacket × Int × Int) := fun (v27,p1,p2) =>
 bif (decide (v27 < 200)) then (bif ((F37 n down (⟨p1,p2⟩:LabPacket)).2 == 0) then (.next ((v27 + 1),((F37 n down (⟨p1,p2⟩:LabPacket)).1).Box,((F37 n down (⟨p1,p2⟩:LabPacket)).1).Stack)) else (bif ((F37 n down (⟨p1,p2⟩:LabPacket)).2 == 3) then (.ret ((⟨p1,p2⟩:LabPacket),v27,0)) else (.ret ((⟨p1,p2⟩:LabPacket),v27,(F37 n down (⟨p1,p2⟩:LabPacket)).2)))) else (.done (v27,p1,p2))
def F12 (n:LabNet) (down:List Int) (p:LabPacket):LabPacket × Int × Int :=
 bif (!(netB n)) then ((⟨0,[]⟩:LabPacket),0,1) else (bif (!(packB n p)) then ((⟨0,[]⟩:LabPacket),0,2) else ((runL (F12_s0 n down p) ((Int.toNat (200 - 0)) + 1) (0,p.Box,p.Stack)).fin (fun r=>r) (fun (v27,p1,p2)=>bif ((p2.length:Int) == 0) then ((⟨p1,p2⟩:LabPacket),200,0) else ((⟨p1,p2⟩:LabPacket),200,6))))
def S12 (n:LabNet) (down:List Int) (p:LabPacket):Spec := ⟨[.r (.g (eLabNet n)),.r (.c (.l 1 eInt down)),.r (.g (eLabPacket p))],.tu [.ag [.v (vI (((F12 n down p).1).Box)),.ow (.l 1 eInt (((F12 n down p).1).Stack))],.v (vI ((F12 n down p).2.1)),.v (vI ((F12 n down p).2.2))],p.Stack.length ≤ 1000000000⟩
theorem ok12 (n:LabNet) (down:List Int) (p:LabPacket):(S12 n down p).ok Tryz.prog 12 :=
 fnG_ok mixed (fn := Tryz.f12) (ct := .seqk [(1,0)] (.no) (.seq (.blk (.seq (.reg [(1,.call 7 (S7 (netB n) n) (oa7 n) none)]) (.cond (.seq (.no) (.no)) (.seq (.reg [(2,.call 35 (S35 (packB n p) n p) (oa35 n p) none)]) (.cond (.seq (.no) (.no)) (.no)))))) (.seq (.reg [(2,.call 36 (S36 p.Stack p.Stack) (oa36 p.Stack) none)]) (.seq (.seqk [(1,0),(3,0),(3,1),(5,1)] (.no) (.blk (.loop (ι := Nat × (Int × Int × List Int)) (fun i=>(fun (v27:Int) (p1:Int) (p2:List Int)=>(⟨[(1,some (.h 0 0)),(3,some (.p 1 0)),(5,some (.p 4 0)),(6,some (.p 6 0)),(27,some (.v (vI v27)))],[(0,some (.shr none (.l 1 eInt down))),(1,some (.box 26 [.h 2 0,.h 3 0])),(2,some (.shr none (.l 2 eLabLink n.Links))),(3,some (.shr none (.l 2 eLabBox n.Boxes))),(4,some (.box 36 [.v (vI p1),.h 5 0])),(5,some (.own 5 (.l 1 eInt p2))),(6,some (.box 36 [.v (vI 0),.v (.slice none 0 0)]))],7⟩:St)) i.2.1 i.2.2.1 i.2.2.2) (fun i=>runL (F12_s0 n down p) i.1 i.2=(runL (F12_s0 n down p) ((Int.toNat (200 - 0)) + 1) (0,p.Box,p.Stack))∧(fun (v27:Int) (p1:Int) (p2:List Int)=>(Int.toNat (200 - v27) < i.1∧packB n (⟨p1,p2⟩:LabPacket)=true∧(0 ≤ p1∧p1 ≤ (n.Boxes.length:Int) - 1∧(p2.length:Int) ≤ 8)∧(0:Int) ≤ v27)) i.2.1 i.2.2.1 i.2.2.2) (fun i=>i.1) (((Int.toNat (200 - 0)) + 1),(0,p.Box,p.Stack)) (fun i=>(fun (v27:Int) (p1:Int) (p2:List Int)=>(.seq (.no) (.seq (.cond (.no) (.no)) (.seq (.blk (.seq (.no) (.seq (.reg [(3,.call 37 (S37 n down (⟨p1,p2⟩:LabPacket)) (ok37 n down (⟨p1,p2⟩:LabPacket)) none)]) (.seq (.no) (.blk (.seq (.no) (.cond (.no) (.seq (.no) (.cond (.seq (.no) (.no)) (.seq (.no) (.no))))))))))) (.reg [(0,.bnd)]))))) i.2.1 i.2.2.1 i.2.2.2)))) (.seq (.seq (.no) (.cond (.seq (.no) (.no)) (.no))) (.seq (.no) (.no))))))) Tryz.func12 (fun (hpre0:p.Stack.length ≤ 1000000000)=>fun (_:down.length ≤ 9223372036854775807)=>ai (trivial) (ai ((Imps.refl (eLabNet n))) (ai (fun h1:(!(netB n))=true=>(fun hF:((⟨0,[]⟩:LabPacket),0,1)=(F12 n down p)=>ai (congrArg (fun r:LabPacket × Int × Int=>(.int .i64 r.1.Box:Value)) hF) (ai ((Imp.nil 1 eInt).trans (Imp.of_eq (congrArg (fun r:LabPacket × Int × Int=>Dat.l 1 eInt r.1.Stack) hF))) (ai (congrArg (fun r:LabPacket × Int × Int=>(.int .i64 r.2.1:Value)) hF) (ai (congrArg (fun r:LabPacket × Int × Int=>(.int .i64 r.2.2:Value)) hF) (trivial))))) (condT h1 (rfl))) (fun h1:(!(netB n))=false=>(fun _:n.Links.length ≤ 14=>(fun _:n.Boxes.length ≤ 8=>(fun _:NetOk n=>ai (((by omega:n.Boxes.length ≤ 9223372036854775807))) (ai ((Imps.refl (eLabNet n))) (ai ((Imps.refl (eLabPacket p))) (ai (fun h2:(!(packB n p))=true=>(fun hF:((⟨0,[]⟩:LabPacket),0,2)=(F12 n down p)=>ai (congrArg (fun r:LabPacket × Int × Int=>(.int .i64 r.1.Box:Value)) hF) (ai ((Imp.nil 1 eInt).trans (Imp.of_eq (congrArg (fun r:LabPacket × Int × Int=>Dat.l 1 eInt r.1.Stack) hF))) (ai (congrArg (fun r:LabPacket × Int × Int=>(.int .i64 r.2.1:Value)) hF) (ai (congrArg (fun r:LabPacket × Int × Int=>(.int .i64 r.2.2:Value)) hF) (trivial))))) (condF h1 (condT h2 (rfl)))) (fun h2:(!(packB n p))=false=>(fun _:0 ≤ p.Box∧p.Box ≤ (n.Boxes.length:Int) - 1∧(p.Stack.length:Int) ≤ 8=>(fun _:packB n p=true=>ai (((by omega:p.Stack.length ≤ 1000000000))) (ai ((Imp.refl (.l 1 eInt p.Stack))) (fun (_:down.length ≤ 9223372036854775807)=>fun (_:n.Links.length ≤ 9223372036854775807)=>fun (_:n.Boxes.length ≤ 9223372036854775807)=>fun (_:p.Stack.length ≤ 9223372036854775807)=>ai (ai (rfl) (ai ((Imp.refl _)) (ai ((Imp.refl _)) (ai ((Imp.refl _)) (ai (rfl) (ai ((Imp.refl _)) (ai (rfl) (ai (rfl) ((ai (rfl:runL (F12_s0 n down p) ((Int.toNat (200 - 0)) + 1) (0,p.Box,p.Stack)=(runL (F12_s0 n down p) ((Int.toNat (200 - 0)) + 1) (0,p.Box,p.Stack))) (ai ((Nat.lt_succ_self _:Int.toNat (200 - 0) < ((Int.toNat (200 - 0)) + 1))) (ai ((by first | omega | (simp only [lens] at * <;> omega) | assumption:packB n (⟨p.Box,p.Stack⟩:LabPacket)=true)) (ai ((by first | omega | (simp only [lens] at * <;> omega) | assumption:0 ≤ p.Box∧p.Box ≤ (n.Boxes.length:Int) - 1∧(p.Stack.length:Int) ≤ 8)) ((by first | omega | (simp only [lens] at * <;> omega) | assumption:(0:Int) ≤ 0)))))))))))))):((.int .i64 0:Value)=.int .i64 0)∧(Imp (.l 1 eInt down) (.l 1 eInt down))∧(Imp (.l 2 eLabLink n.Links) (.l 2 eLabLink n.Links))∧(Imp (.l 2 eLabBox n.Boxes) (.l 2 eLabBox n.Boxes))∧((.int .i64 p.Box:Value)=.int .i64 p.Box)∧(Imp (.l 1 eInt p.Stack) (.l 1 eInt p.Stack))∧((.int .i64 0:Value)=.int .i64 0)∧((.slice none 0 0:Value)=.slice none 0 0)∧(runL (F12_s0 n down p) ((Int.toNat (200 - 0)) + 1) (0,p.Box,p.Stack)=(runL (F12_s0 n down p) ((Int.toNat (200 - 0)) + 1) (0,p.Box,p.Stack))∧Int.toNat (200 - 0) < ((Int.toNat (200 - 0)) + 1)∧packB n (⟨p.Box,p.Stack⟩:LabPacket)=true∧(0 ≤ p.Box∧p.Box ≤ (n.Boxes.length:Int) - 1∧(p.Stack.length:Int) ≤ 8)∧(0:Int) ≤ 0)) (fun (i0:Nat × (Int × Int × List Int)) (hi0:runL (F12_s0 n down p) i0.1 i0.2=(runL (F12_s0 n down p) ((Int.toNat (200 - 0)) + 1) (0,p.Box,p.Stack))∧(fun (v27:Int) (p1:Int) (p2:List Int)=>(Int.toNat (200 - v27) < i0.1∧packB n (⟨p1,p2⟩:LabPacket)=true∧(0 ≤ p1∧p1 ≤ (n.Boxes.length:Int) - 1∧(p2.length:Int) ≤ 8)∧(0:Int) ≤ v27)) i0.2.1 i0.2.2.1 i0.2.2.2)=>(fun (m0:Nat) (v27:Int) (p1:Int) (p2:List Int) (hI0:runL (F12_s0 n down p) (m0 + 1) (v27,p1,p2)=(runL (F12_s0 n down p) ((Int.toNat (200 - 0)) + 1) (0,p.Box,p.Stack))) (_:Int.toNat (200 - v27) < m0 + 1) (hl0:m0 < i0.1) (_:packB n (⟨p1,p2⟩:LabPacket)=true) (_:0 ≤ p1∧p1 ≤ (n.Boxes.length:Int) - 1∧(p2.length:Int) ≤ 8) (_:(0:Int) ≤ v27)=>ai (fun h4:(decide (v27 < 200))=true=>(fun _:v27 < 200=>ai ((ai ((by assumption:NetOk n)) (ai ((by omega:0 ≤ p1)) (ai ((by omega:p1 < (n.Boxes.length:Int))) ((by omega:p2.length ≤ 8)))))) (ai ((Imps.refl (eLabNet n))) (ai ((Imp.refl (.l 1 eInt down))) (ai ((Imps.refl (eLabPacket (⟨p1,p2⟩:LabPacket)))) ((fun gv5:packB n (F37 n down (⟨p1,p2⟩:LabPacket)).1=true=>(fun gv6:0 ≤ (F37 n down (⟨p1,p2⟩:LabPacket)).1.Box∧(F37 n down (⟨p1,p2⟩:LabPacket)).1.Box ≤ (n.Boxes.length:Int) - 1∧((F37 n down (⟨p1,p2⟩:LabPacket)).1.Stack.length:Int) ≤ 8=>ai (fun h7:((F37 n down (⟨p1,p2⟩:LabPacket)).2 == 0)=true=>(fun _:(F37 n down (⟨p1,p2⟩:LabPacket)).2=0=>ai ((by unfold i64ok; omega:i64ok (v27 + 1))) (Exists.intro (p := fun j:Nat × (Int × Int × List Int)=>(fun (v27_:Int) (p1_:Int) (p2_:List Int)=>(((.int .i64 (v27 + 1):Value)=.int .i64 v27_)∧(Imp (.l 1 eInt down) (.l 1 eInt down))∧(Imp (.l 2 eLabLink n.Links) (.l 2 eLabLink n.Links))∧(Imp (.l 2 eLabBox n.Boxes) (.l 2 eLabBox n.Boxes))∧((.int .i64 (((F37 n down (⟨p1,p2⟩:LabPacket)).1).Box):Value)=.int .i64 p1_)∧(Imp (.l 1 eInt (((F37 n down (⟨p1,p2⟩:LabPacket)).1).Stack)) (.l 1 eInt p2_))∧((.int .i64 0:Value)=.int .i64 0)∧((.slice none 0 0:Value)=.slice none 0 0)∧((runL (F12_s0 n down p) j.1 j.2=(runL (F12_s0 n down p) ((Int.toNat (200 - 0)) + 1) (0,p.Box,p.Stack))∧Int.toNat (200 - v27_) < j.1∧packB n (⟨p1_,p2_⟩:LabPacket)=true∧(0 ≤ p1_∧p1_ ≤ (n.Boxes.length:Int) - 1∧(p2_.length:Int) ≤ 8)∧(0:Int) ≤ v27_)∧j.1 < i0.1))) j.2.1 j.2.2.1 j.2.2.2) (m0,((v27 + 1),((F37 n down (⟨p1,p2⟩:LabPacket)).1).Box,((F37 n down (⟨p1,p2⟩:LabPacket)).1).Stack)) (ai (rfl) (ai ((Imp.refl _)) (ai ((Imp.refl _)) (ai ((Imp.refl _)) (ai (rfl) (ai ((Imp.refl _)) (ai (rfl) (ai (rfl) (ai (ai (runL_next hI0 (condT h4 (condT h7 (rfl)))) (ai ((by first | omega | (simp only [lens] at * <;> omega) | assumption:Int.toNat (200 - (v27 + 1)) < m0)) (ai ((by first | omega | (simp only [lens] at * <;> omega) | assumption:packB n (⟨(((F37 n down (⟨p1,p2⟩:LabPacket)).1).Box),(((F37 n down (⟨p1,p2⟩:LabPacket)).1).Stack)⟩:LabPacket)=true)) (ai ((by first | omega | (simp only [lens] at * <;> omega) | assumption:0 ≤ (((F37 n down (⟨p1,p2⟩:LabPacket)).1).Box)∧(((F37 n down (⟨p1,p2⟩:LabPacket)).1).Box) ≤ (n.Boxes.length:Int) - 1∧((((F37 n down (⟨p1,p2⟩:LabPacket)).1).Stack).length:Int) ≤ 8)) ((by first | omega | (simp only [lens] at * <;> omega) | assumption:(0:Int) ≤ (v27 + 1))))))) hl0))))))))))) (eq_of_beq h7)) (fun h7:((F37 n down (⟨p1,p2⟩:LabPacket)).2 == 0)=false=>(fun _:¬ (F37 n down (⟨p1,p2⟩:LabPacket)).2=0=>ai (fun h8:((F37 n down (⟨p1,p2⟩:LabPacket)).2 == 3)=true=>(fun _:(F37 n down (⟨p1,p2⟩:LabPacket)).2=3=>(fun hF:((⟨p1,p2⟩:LabPacket),v27,0)=(F12 n down p)=>ai (congrArg (fun r:LabPacket × Int × Int=>(.int .i64 r.1.Box:Value)) hF) (ai (Imp.of_eq (congrArg (fun r:LabPacket × Int × Int=>Dat.l 1 eInt r.1.Stack) hF)) (ai (congrArg (fun r:LabPacket × Int × Int=>(.int .i64 r.2.1:Value)) hF) (ai (congrArg (fun r:LabPacket × Int × Int=>(.int .i64 r.2.2:Value)) hF) (trivial))))) (condF h1 (condF h2 (finR (runL_ret hI0 (condT h4 (condF h7 (condT h8 (rfl))))) rfl)))) (eq_of_beq h8)) (fun h8:((F37 n down (⟨p1,p2⟩:LabPacket)).2 == 3)=false=>(fun _:¬ (F37 n down (⟨p1,p2⟩:LabPacket)).2=3=>(fun hF:((⟨p1,p2⟩:LabPacket),v27,(F37 n down (⟨p1,p2⟩:LabPacket)).2)=(F12 n down p)=>ai (congrArg (fun r:LabPacket × Int × Int=>(.int .i64 r.1.Box:Value)) hF) (ai (Imp.of_eq (congrArg (fun r:LabPacket × Int × Int=>Dat.l 1 eInt r.1.Stack) hF)) (ai (congrArg (fun r:LabPacket × Int × Int=>(.int .i64 r.2.1:Value)) hF) (ai (congrArg (fun r:LabPacket × Int × Int=>(.int .i64 r.2.2:Value)) hF) (trivial))))) (condF h1 (condF h2 (finR (runL_ret hI0 (condT h4 (condF h7 (condF h8 (rfl))))) rfl)))) (beqF h8))) (beqF h7))) (step_range n down (⟨p1,p2⟩:LabPacket) (by assumption:NetOk n) (by first | assumption | omega:packB n (⟨p1,p2⟩:LabPacket)=true))) (step_pack' n down (⟨p1,p2⟩:LabPacket) (by assumption:NetOk n) (by first | assumption | omega:packB n (⟨p1,p2⟩:LabPacket)=true))))))) (of_decide_eq_true h4)) (fun h4:(decide (v27 < 200))=false=>(fun _:¬ v27 < 200=>(fun hD0_9:(runL (F12_s0 n down p) ((Int.toNat (200 - 0)) + 1) (0,p.Box,p.Stack))=Lp.done (v27,p1,p2)=>ai (fun h10:((p2.length:Int) == 0)=true=>(fun _:(p2.length:Int)=0=>(fun hF:((⟨p1,p2⟩:LabPacket),200,0)=(F12 n down p)=>ai (congrArg (fun r:LabPacket × Int × Int=>(.int .i64 r.1.Box:Value)) hF) (ai (Imp.of_eq (congrArg (fun r:LabPacket × Int × Int=>Dat.l 1 eInt r.1.Stack) hF)) (ai (congrArg (fun r:LabPacket × Int × Int=>(.int .i64 r.2.1:Value)) hF) (ai (congrArg (fun r:LabPacket × Int × Int=>(.int .i64 r.2.2:Value)) hF) (trivial))))) (condF h1 (condF h2 (finD hD0_9 (condT h10 (rfl)))))) (eq_of_beq h10)) (fun h10:((p2.length:Int) == 0)=false=>(fun _:¬ (p2.length:Int)=0=>(fun hF:((⟨p1,p2⟩:LabPacket),200,6)=(F12 n down p)=>ai (congrArg (fun r:LabPacket × Int × Int=>(.int .i64 r.1.Box:Value)) hF) (ai (Imp.of_eq (congrArg (fun r:LabPacket × Int × Int=>Dat.l 1 eInt r.1.Stack) hF)) (ai (congrArg (fun r:LabPacket × Int × Int=>(.int .i64 r.2.1:Value)) hF) (ai (congrArg (fun r:LabPacket × Int × Int=>(.int .i64 r.2.2:Value)) hF) (trivial))))) (condF h1 (condF h2 (finD hD0_9 (condF h10 (rfl)))))) (beqF h10))) (runL_done hI0 (condF h4 (rfl)))) (of_decide_eq_false h4))) (i0.1 - 1) i0.2.1 i0.2.2.1 i0.2.2.2 (hd1 hi0.1 hi0.2.1) (hd2 hi0.2.1) (hd3 hi0.2.1) hi0.2.2.1 hi0.2.2.2.1 hi0.2.2.2.2)))) (packB_id n p (notEF h2))) (packB_T n p (notEF h2))))))) (netB_T n (notEF h1))) (netB_8 n (notEF h1))) (netB_14 n (notEF h1)))))) (by kernel_rfl)
end Go.Proofs.YtmiolofjlfnohaaGreat
namespace Go.Proofs.YtmiolofjlfnohaaGreat
open Go.RowKit
set_option maxRecDepth 100000
set_option linter.unusedVariables false
set_option linter.unusedSimpArgs false
theorem walk_go2 {n : LabNet} {dn : List Int} {p0 : LabPacket} {c : Int} {q : LabPacket} (hc : (F37 n dn q).2 = c) (hc0 : c ≠ 0) : ∀ (m : Nat) (i : Int) (p : LabPacket), Run n dn m p q → i + (m : Int) < 200 → ∀ fuel, m < fuel →
  runL (F12_s0 n dn p0) fuel (i, p.Box, p.Stack) = .ret (q, i + (m : Int), bif (c == 3) then 0 else c)
 | m, i, p, hr, hi, 0, hf => absurd hf (Nat.not_lt_zero _)
 | 0, i, p, hr, hi, fuel + 1, hf => by
  have hr : p = q := hr
  subst hr
  have h1 : decide (i < 200) = true := decide_eq_true (by omega)
  have h2 : (c == 0) = false := by rw [beqD]; exact decide_eq_false hc0
  simp only [runL, F12_s0, h1, cond_true]
  have hc' : (F37 n dn (⟨p.Box, p.Stack⟩ : LabPacket)).2 = c := hc
  rw [hc', h2, cond_false]
  cases c == 3 <;> simp
 | m + 1, i, p, ⟨x, hx, hr⟩, hi, fuel + 1, hf => by
  have h1 : decide (i < 200) = true := decide_eq_true (by omega)
  have hx' : F37 n dn (⟨p.Box, p.Stack⟩ : LabPacket) = (x, 0) := hx
  simp only [runL, F12_s0, h1, cond_true, hx']
  have := walk_go2 (p0 := p0) hc hc0 m (i + 1) x hr (by omega) fuel (by omega)
  simp only [beq_self_eq_true, cond_true]
  rw [this]
  congr 3
  omega
theorem labWalk_of {n : LabNet} {dn : List Int} {p q : LabPacket} {m : Nat} {c : Int} (hn : NetOk n) (hp : packB n p = true) (hr : Run n dn m p q) (hm : m < 200) (hc : (F37 n dn q).2 = c) (hc0 : c ≠ 0) : F12 n dn p = (q, (m : Int), bif (c == 3) then 0 else c) := by
 unfold F12
 rw [netB_ok.2 hn, hp]
 simp only [Bool.not_true, cond_false]
 have := walk_go2 (p0 := p) hc hc0 m 0 p hr (by omega) (Int.toNat (200 - 0) + 1) (by omega)
 rw [this, Int.zero_add]; rfl
end Go.Proofs.YtmiolofjlfnohaaGreat
namespace Go.Proofs.YtmiolofjlfnohaaGreat
open Go.RowKit
set_option maxRecDepth 100000
set_option linter.unusedVariables false
set_option linter.unusedSimpArgs false
theorem lay_long {n : LabNet} (hn : NetOk n) (hr : ∀ i : Int, (bx n i).Rows.length ≤ 59) {p : List Int} (hp : PathOk n p) : labLay n p = (laidP n p, (labsOf n p).getD 0 default, 0) := by
 rw [labLay_way hn, (layR_of hn hr hp).2]
theorem PathOk.sub {n n' : LabNet} (hs : Sub n n') {p : List Int} (h : PathOk n p) : PathOk n' p :=
 ⟨h.two, by rw [hs.len]; exact h.most, fun i hi => by rw [hs.len]; exact h.rng i hi, fun i hi => by rw [hs.link]; exact h.lnk i hi, h.inj⟩
theorem all_eq {n : LabNet} (hn : NetOk n) : labGuardAll n = gAll n n.Links.length := by
 unfold labGuardAll
 rw [netB_ok.2 hn]; rfl
end Go.Proofs.YtmiolofjlfnohaaGreat
namespace Go.Proofs.YtmiolofjlfnohaaGreat
open Go.RowKit
set_option maxRecDepth 100000
set_option linter.unusedVariables false
set_option linter.unusedSimpArgs false
theorem neqT64 (x0 y0:Int) (x1 y1:Int) (p q:Operand) (w:World):(do eqGuard .neq 64 p q (.agg #[.int .i64 x0,.int .i64 x1]) (.agg #[.int .i64 y0,.int .i64 y1]); binOp .neq 64 (.agg #[.int .i64 x0,.int .i64 x1]) (.agg #[.int .i64 y0,.int .i64 y1])).run Tryz.prog w=.ok (.bool (!((x0 == y0) && (x1 == y1)))) w := by
 by_cases h0:x0=y0
 case neg=>simp [go_sem,h0]
 by_cases h1:x1=y1
 case neg=>simp [go_sem,h0,h1]
 simp [go_sem,h0,h1]
theorem neqT66 (x0 y0:Int) (x1 y1:Int) (x2 y2:Int) (p q:Operand) (w:World):(do eqGuard .neq 66 p q (.agg #[.int .i64 x0,.int .i64 x1,.int .i64 x2]) (.agg #[.int .i64 y0,.int .i64 y1,.int .i64 y2]); binOp .neq 66 (.agg #[.int .i64 x0,.int .i64 x1,.int .i64 x2]) (.agg #[.int .i64 y0,.int .i64 y1,.int .i64 y2])).run Tryz.prog w=.ok (.bool (!((x0 == y0) && ((x1 == y1) && (x2 == y2))))) w := by
 by_cases h0:x0=y0
 case neg=>simp [go_sem,h0]
 by_cases h1:x1=y1
 case neg=>simp [go_sem,h0,h1]
 by_cases h2:x2=y2
 case neg=>simp [go_sem,h0,h1,h2]
 simp [go_sem,h0,h1,h2]
theorem neqT51 (x0 y0:Int) (x1 y1:Int) (x2 y2:Int) (p q:Operand) (w:World):(do eqGuard .neq 51 p q (.agg #[.int .i64 x0,.int .i64 x1,.int .i64 x2]) (.agg #[.int .i64 y0,.int .i64 y1,.int .i64 y2]); binOp .neq 51 (.agg #[.int .i64 x0,.int .i64 x1,.int .i64 x2]) (.agg #[.int .i64 y0,.int .i64 y1,.int .i64 y2])).run Tryz.prog w=.ok (.bool (!((x0 == y0) && ((x1 == y1) && (x2 == y2))))) w := by
 by_cases h0:x0=y0
 case neg=>simp [go_sem,h0]
 by_cases h1:x1=y1
 case neg=>simp [go_sem,h0,h1]
 by_cases h2:x2=y2
 case neg=>simp [go_sem,h0,h1,h2]
 simp [go_sem,h0,h1,h2]
def F8_s3 (a:LabNet) (b:LabNet) (i41:Int):Int → Lp Int Bool := fun k400 =>
 bif (decide (k400 < (((a.Boxes.getD i41.toNat default).Guards).length:Int))) then (bif (!((((((a.Boxes.getD i41.toNat default).Guards).getD k400.toNat default).To) == ((((b.Boxes.getD i41.toNat default).Guards).getD k400.toNat default).To)) && ((((((a.Boxes.getD i41.toNat default).Guards).getD k400.toNat default).Via) == ((((b.Boxes.getD i41.toNat default).Guards).getD k400.toNat default).Via)) && (((((a.Boxes.getD i41.toNat default).Guards).getD k400.toNat default).Push) == ((((b.Boxes.getD i41.toNat default).Guards).getD k400.toNat default).Push))))) then (.ret false) else (.next (k400 + 1))) else (.done k400)
def F8_s2 (a:LabNet) (b:LabNet) (i41:Int):Int → Lp Int Bool := fun k =>
 bif (decide (k < (((a.Boxes.getD i41.toNat default).Rows).length:Int))) then (bif (!((((((a.Boxes.getD i41.toNat default).Rows).getD k.toNat default).In) == ((((b.Boxes.getD i41.toNat default).Rows).getD k.toNat default).In)) && ((((((a.Boxes.getD i41.toNat default).Rows).getD k.toNat default).Next) == ((((b.Boxes.getD i41.toNat default).Rows).getD k.toNat default).Next)) && (((((a.Boxes.getD i41.toNat default).Rows).getD k.toNat default).Out) == ((((b.Boxes.getD i41.toNat default).Rows).getD k.toNat default).Out))))) then (.ret false) else (.next (k + 1))) else (.done k)
def F8_s1 (a:LabNet) (b:LabNet):Int → Lp Int Bool := fun i41 =>
 bif (decide (i41 < (a.Boxes.length:Int))) then (bif (bif ((((a.Boxes.getD i41.toNat default).Rows).length:Int) != (((b.Boxes.getD i41.toNat default).Rows).length:Int)) then true else ((((a.Boxes.getD i41.toNat default).Guards).length:Int) != (((b.Boxes.getD i41.toNat default).Guards).length:Int))) then (.ret false) else ((runL (F8_s2 a b i41) (((((a.Boxes.getD i41.toNat default).Rows).length:Int) - 0).toNat + 1) 0).fin Lp.ret (fun k=>(runL (F8_s3 a b i41) (((((a.Boxes.getD i41.toNat default).Guards).length:Int) - 0).toNat + 1) 0).fin Lp.ret (fun k400=>.next (i41 + 1))))) else (.done i41)
def F8_s0 (a:LabNet) (b:LabNet):Int → Lp Int Bool := fun i40 =>
 bif (decide (i40 < (a.Links.length:Int))) then (bif (!((((a.Links.getD i40.toNat default).A) == ((b.Links.getD i40.toNat default).A)) && (((a.Links.getD i40.toNat default).B) == ((b.Links.getD i40.toNat default).B)))) then (.ret false) else (.next (i40 + 1))) else (.done i40)
def F8 (a:LabNet) (b:LabNet):Bool :=
 bif (bif ((a.Links.length:Int) != (b.Links.length:Int)) then true else ((a.Boxes.length:Int) != (b.Boxes.length:Int))) then false else ((runL (F8_s0 a b) (((a.Links.length:Int) - 0).toNat + 1) 0).fin (fun r=>r) (fun i40=>(runL (F8_s1 a b) (((a.Boxes.length:Int) - 0).toNat + 1) 0).fin (fun r=>r) (fun i41=>true)))
def S8 (a:LabNet) (b:LabNet):Spec := ⟨[.r (.g (eLabNet a)),.r (.g (eLabNet b))],.v (.bool (F8 a b)),True⟩
abbrev q8_1 (a:LabNet) (i41:Int) := (a.Boxes.getD i41.toNat default)
abbrev q8_2 (b:LabNet) (i41:Int) := (b.Boxes.getD i41.toNat default)
abbrev q8_3 (a:LabNet) (i41:Int) (k400:Int) := (((q8_1 a i41).Guards).getD k400.toNat default)
abbrev q8_4 (b:LabNet) (i41:Int) (k400:Int) := (((q8_2 b i41).Guards).getD k400.toNat default)
abbrev q8_5 (a:LabNet) (i41:Int) (k:Int) := (((q8_1 a i41).Rows).getD k.toNat default)
abbrev q8_6 (b:LabNet) (i41:Int) (k:Int) := (((q8_2 b i41).Rows).getD k.toNat default)
abbrev q8_7 (a:LabNet) (i40:Int) := (a.Links.getD i40.toNat default)
abbrev q8_8 (b:LabNet) (i40:Int) := (b.Links.getD i40.toNat default)
theorem ok8 (a:LabNet) (b:LabNet):(S8 a b).ok Tryz.prog 8 :=
 fnG_ok mixed (fn := Tryz.f8) (ct := .seq (.no) (.seq (.seq (.no) (.cond (.seq (.no) (.no)) (.no))) (.seq (.seqk [(2,0),(2,1),(3,0),(3,1)] (.no) (.blk (.loop (ι := Nat × Int) (fun i=>(fun (i40:Int)=>(⟨[(2,some (.p 0 0)),(3,some (.p 3 0)),(5,some (.v (vI i40)))],[(0,some (.box 26 [.h 1 0,.h 2 0])),(1,some (.shr none (.l 2 eLabLink a.Links))),(2,some (.shr none (.l 2 eLabBox a.Boxes))),(3,some (.box 26 [.h 4 0,.h 5 0])),(4,some (.shr none (.l 2 eLabLink b.Links))),(5,some (.shr none (.l 2 eLabBox b.Boxes)))],6⟩:St)) i.2) (fun i=>runL (F8_s0 a b) i.1 i.2=(runL (F8_s0 a b) (((a.Links.length:Int) - 0).toNat + 1) 0)∧(fun (i40:Int)=>(Int.toNat ((a.Links.length:Int) - i40) < i.1∧(0:Int) ≤ i40)) i.2) (fun i=>i.1) ((((a.Links.length:Int) - 0).toNat + 1),0) (fun i=>(fun (i40:Int)=>(.seq (.seq (.no) (.cond (.no) (.no))) (.seq (.blk (.seq (.reg [(10,.bin .neq 64 (.agg #[.int .i64 ((q8_7 a i40).A),.int .i64 ((q8_7 a i40).B)]) (.agg #[.int .i64 ((q8_8 b i40).A),.int .i64 ((q8_8 b i40).B)]) (.bool (!((((q8_7 a i40).A) == ((q8_8 b i40).A)) && (((q8_7 a i40).B) == ((q8_8 b i40).B))))) rfl (neqT64 ((q8_7 a i40).A) ((q8_8 b i40).A) ((q8_7 a i40).B) ((q8_8 b i40).B)))]) (.cond (.seq (.no) (.no)) (.no)))) (.reg [(1,.bnd)])))) i.2)))) (.seq (.seqk [(2,0),(2,1),(3,0),(3,1)] (.no) (.blk (.loop (ι := Nat × Int) (fun i=>(fun (i41:Int)=>(⟨[(2,some (.p 0 0)),(3,some (.p 3 0)),(6,some (.v (vI i41)))],[(0,some (.box 26 [.h 1 0,.h 2 0])),(1,some (.shr none (.l 2 eLabLink a.Links))),(2,some (.shr none (.l 2 eLabBox a.Boxes))),(3,some (.box 26 [.h 4 0,.h 5 0])),(4,some (.shr none (.l 2 eLabLink b.Links))),(5,some (.shr none (.l 2 eLabBox b.Boxes)))],6⟩:St)) i.2) (fun i=>runL (F8_s1 a b) i.1 i.2=(runL (F8_s1 a b) (((a.Boxes.length:Int) - 0).toNat + 1) 0)∧(fun (i41:Int)=>(Int.toNat ((a.Boxes.length:Int) - i41) < i.1∧(0:Int) ≤ i41)) i.2) (fun i=>i.1) ((((a.Boxes.length:Int) - 0).toNat + 1),0) (fun i=>(fun (i41:Int)=>(.seq (.seq (.no) (.cond (.no) (.no))) (.seq (.blk (.seq (.no) (.seq (.no) (.seq (.seq (.no) (.cond (.seq (.no) (.no)) (.no))) (.seq (.seqk [(7,0),(7,1),(8,0),(8,1)] (.no) (.blk (.loop (ι := Nat × Int) (fun i=>(fun (k:Int)=>(⟨[(2,some (.p 0 0)),(3,some (.p 3 0)),(6,some (.v (vI i41))),(7,some (.p 6 0)),(8,some (.p 8 0)),(9,some (.v (vI k)))],[(0,some (.box 26 [.h 1 0,.h 2 0])),(1,some (.shr none (.l 2 eLabLink a.Links))),(2,some (.shr none (.l 2 eLabBox a.Boxes))),(3,some (.box 26 [.h 4 0,.h 5 0])),(4,some (.shr none (.l 2 eLabLink b.Links))),(5,some (.shr none (.l 2 eLabBox b.Boxes))),(6,some (.box 49 [.h 7 1,.h 7 2])),(7,some (.mem none none (eLabBox (q8_1 a i41)))),(8,some (.box 49 [.h 9 1,.h 9 2])),(9,some (.mem none none (eLabBox (q8_2 b i41))))],10⟩:St)) i.2) (fun i=>runL (F8_s2 a b i41) i.1 i.2=(runL (F8_s2 a b i41) (((((q8_1 a i41).Rows).length:Int) - 0).toNat + 1) 0)∧(fun (k:Int)=>(Int.toNat ((((q8_1 a i41).Rows).length:Int) - k) < i.1∧(0:Int) ≤ k)) i.2) (fun i=>i.1) ((((((q8_1 a i41).Rows).length:Int) - 0).toNat + 1),0) (fun i=>(fun (k:Int)=>(.seq (.seq (.no) (.cond (.no) (.no))) (.seq (.blk (.seq (.reg [(10,.bin .neq 66 (.agg #[.int .i64 ((q8_5 a i41 k).In),.int .i64 ((q8_5 a i41 k).Next),.int .i64 ((q8_5 a i41 k).Out)]) (.agg #[.int .i64 ((q8_6 b i41 k).In),.int .i64 ((q8_6 b i41 k).Next),.int .i64 ((q8_6 b i41 k).Out)]) (.bool (!((((q8_5 a i41 k).In) == ((q8_6 b i41 k).In)) && ((((q8_5 a i41 k).Next) == ((q8_6 b i41 k).Next)) && (((q8_5 a i41 k).Out) == ((q8_6 b i41 k).Out)))))) rfl (neqT66 ((q8_5 a i41 k).In) ((q8_6 b i41 k).In) ((q8_5 a i41 k).Next) ((q8_6 b i41 k).Next) ((q8_5 a i41 k).Out) ((q8_6 b i41 k).Out)))]) (.cond (.seq (.no) (.no)) (.no)))) (.reg [(1,.bnd)])))) i.2)))) (.seqk [(7,0),(7,1),(8,0),(8,1)] (.no) (.blk (.loop (ι := Nat × Int) (fun i=>(fun (k400:Int)=>(⟨[(2,some (.p 0 0)),(3,some (.p 3 0)),(6,some (.v (vI i41))),(7,some (.p 6 0)),(8,some (.p 8 0)),(10,some (.v (vI k400)))],[(0,some (.box 26 [.h 1 0,.h 2 0])),(1,some (.shr none (.l 2 eLabLink a.Links))),(2,some (.shr none (.l 2 eLabBox a.Boxes))),(3,some (.box 26 [.h 4 0,.h 5 0])),(4,some (.shr none (.l 2 eLabLink b.Links))),(5,some (.shr none (.l 2 eLabBox b.Boxes))),(6,some (.box 49 [.h 7 1,.h 7 2])),(7,some (.mem none none (eLabBox (q8_1 a i41)))),(8,some (.box 49 [.h 9 1,.h 9 2])),(9,some (.mem none none (eLabBox (q8_2 b i41))))],10⟩:St)) i.2) (fun i=>runL (F8_s3 a b i41) i.1 i.2=(runL (F8_s3 a b i41) (((((q8_1 a i41).Guards).length:Int) - 0).toNat + 1) 0)∧(fun (k400:Int)=>(Int.toNat ((((q8_1 a i41).Guards).length:Int) - k400) < i.1∧(0:Int) ≤ k400)) i.2) (fun i=>i.1) ((((((q8_1 a i41).Guards).length:Int) - 0).toNat + 1),0) (fun i=>(fun (k400:Int)=>(.seq (.seq (.no) (.cond (.no) (.no))) (.seq (.blk (.seq (.reg [(10,.bin .neq 51 (.agg #[.int .i64 ((q8_3 a i41 k400).To),.int .i64 ((q8_3 a i41 k400).Via),.int .i64 ((q8_3 a i41 k400).Push)]) (.agg #[.int .i64 ((q8_4 b i41 k400).To),.int .i64 ((q8_4 b i41 k400).Via),.int .i64 ((q8_4 b i41 k400).Push)]) (.bool (!((((q8_3 a i41 k400).To) == ((q8_4 b i41 k400).To)) && ((((q8_3 a i41 k400).Via) == ((q8_4 b i41 k400).Via)) && (((q8_3 a i41 k400).Push) == ((q8_4 b i41 k400).Push)))))) rfl (neqT51 ((q8_3 a i41 k400).To) ((q8_4 b i41 k400).To) ((q8_3 a i41 k400).Via) ((q8_4 b i41 k400).Via) ((q8_3 a i41 k400).Push) ((q8_4 b i41 k400).Push)))]) (.cond (.seq (.no) (.no)) (.no)))) (.reg [(1,.bnd)])))) i.2))))))))) (.reg [(1,.bnd)])))) i.2)))) (.seq (.no) (.no)))))) Tryz.func8 (fun (_:True)=>ai (fun h1:(bif ((a.Links.length:Int) != (b.Links.length:Int)) then true else ((a.Boxes.length:Int) != (b.Boxes.length:Int)))=true=>(fun hF:(false:Bool)=(F8 a b)=>ai (congrArg (fun r:Bool=>(.bool r:Value)) hF) (trivial)) (condT h1 (rfl))) (fun h1:(bif ((a.Links.length:Int) != (b.Links.length:Int)) then true else ((a.Boxes.length:Int) != (b.Boxes.length:Int)))=false=>(fun _:(a.Boxes.length:Int)=(b.Boxes.length:Int)=>(fun _:(a.Links.length:Int)=(b.Links.length:Int)=>fun (_:a.Links.length ≤ 9223372036854775807)=>fun (_:a.Boxes.length ≤ 9223372036854775807)=>fun (_:b.Links.length ≤ 9223372036854775807)=>fun (_:b.Boxes.length ≤ 9223372036854775807)=>ai (ai (rfl) (ai ((Imp.refl _)) (ai ((Imp.refl _)) (ai ((Imp.refl _)) (ai ((Imp.refl _)) ((ai (rfl:runL (F8_s0 a b) (((a.Links.length:Int) - 0).toNat + 1) 0=(runL (F8_s0 a b) (((a.Links.length:Int) - 0).toNat + 1) 0)) (ai ((Nat.lt_succ_self _:Int.toNat ((a.Links.length:Int) - 0) < (((a.Links.length:Int) - 0).toNat + 1))) ((by omega:(0:Int) ≤ 0))))))))):((.int .i64 0:Value)=.int .i64 0)∧(Imp (.l 2 eLabLink a.Links) (.l 2 eLabLink a.Links))∧(Imp (.l 2 eLabBox a.Boxes) (.l 2 eLabBox a.Boxes))∧(Imp (.l 2 eLabLink b.Links) (.l 2 eLabLink b.Links))∧(Imp (.l 2 eLabBox b.Boxes) (.l 2 eLabBox b.Boxes))∧(runL (F8_s0 a b) (((a.Links.length:Int) - 0).toNat + 1) 0=(runL (F8_s0 a b) (((a.Links.length:Int) - 0).toNat + 1) 0)∧Int.toNat ((a.Links.length:Int) - 0) < (((a.Links.length:Int) - 0).toNat + 1)∧(0:Int) ≤ 0)) (fun (i0:Nat × Int) (hi0:runL (F8_s0 a b) i0.1 i0.2=(runL (F8_s0 a b) (((a.Links.length:Int) - 0).toNat + 1) 0)∧(fun (i40:Int)=>(Int.toNat ((a.Links.length:Int) - i40) < i0.1∧(0:Int) ≤ i40)) i0.2)=>(fun (m0:Nat) (i40:Int) (hI0:runL (F8_s0 a b) (m0 + 1) i40=(runL (F8_s0 a b) (((a.Links.length:Int) - 0).toNat + 1) 0)) (_:Int.toNat ((a.Links.length:Int) - i40) < m0 + 1) (hl0:m0 < i0.1) (_:(0:Int) ≤ i40)=>ai (fun h3:(decide (i40 < (a.Links.length:Int)))=true=>(fun _:i40 < (a.Links.length:Int)=>ai ((by omega:0 ≤ i40∧i40 < (a.Links.length:Int))) (ai ((by omega:0 ≤ i40∧i40 < (b.Links.length:Int))) (ai ((Eq.refl (.agg #[.int .i64 ((q8_7 a i40).A),.int .i64 ((q8_7 a i40).B)]:Value))) (ai ((Eq.refl (.agg #[.int .i64 ((q8_8 b i40).A),.int .i64 ((q8_8 b i40).B)]:Value))) (ai (fun h4:(!((((q8_7 a i40).A) == ((q8_8 b i40).A)) && (((q8_7 a i40).B) == ((q8_8 b i40).B))))=true=>(fun hF:(false:Bool)=(F8 a b)=>ai (congrArg (fun r:Bool=>(.bool r:Value)) hF) (trivial)) (condF h1 (finR (runL_ret hI0 (condT h3 (condT h4 (rfl)))) rfl))) (fun h4:(!((((q8_7 a i40).A) == ((q8_8 b i40).A)) && (((q8_7 a i40).B) == ((q8_8 b i40).B))))=false=>ai ((by unfold i64ok; omega:i64ok (i40 + 1))) (Exists.intro (p := fun j:Nat × Int=>(fun (i40_:Int)=>(((.int .i64 (i40 + 1):Value)=.int .i64 i40_)∧(Imp (.l 2 eLabLink a.Links) (.l 2 eLabLink a.Links))∧(Imp (.l 2 eLabBox a.Boxes) (.l 2 eLabBox a.Boxes))∧(Imp (.l 2 eLabLink b.Links) (.l 2 eLabLink b.Links))∧(Imp (.l 2 eLabBox b.Boxes) (.l 2 eLabBox b.Boxes))∧((runL (F8_s0 a b) j.1 j.2=(runL (F8_s0 a b) (((a.Links.length:Int) - 0).toNat + 1) 0)∧Int.toNat ((a.Links.length:Int) - i40_) < j.1∧(0:Int) ≤ i40_)∧j.1 < i0.1))) j.2) (m0,(i40 + 1)) (ai (rfl) (ai ((Imp.refl _)) (ai ((Imp.refl _)) (ai ((Imp.refl _)) (ai ((Imp.refl _)) (ai (ai (runL_next hI0 (condT h3 (condF h4 (rfl)))) (ai ((by omega:Int.toNat ((a.Links.length:Int) - (i40 + 1)) < m0)) ((by omega:(0:Int) ≤ (i40 + 1))))) hl0))))))))))))) (of_decide_eq_true h3)) (fun h3:(decide (i40 < (a.Links.length:Int)))=false=>(fun _:¬ i40 < (a.Links.length:Int)=>(fun hD0_5:(runL (F8_s0 a b) (((a.Links.length:Int) - 0).toNat + 1) 0)=Lp.done i40=>fun (_:a.Links.length ≤ 9223372036854775807)=>fun (_:a.Boxes.length ≤ 9223372036854775807)=>fun (_:b.Links.length ≤ 9223372036854775807)=>fun (_:b.Boxes.length ≤ 9223372036854775807)=>ai (ai (rfl) (ai ((Imp.refl _)) (ai ((Imp.refl _)) (ai ((Imp.refl _)) (ai ((Imp.refl _)) ((ai (rfl:runL (F8_s1 a b) (((a.Boxes.length:Int) - 0).toNat + 1) 0=(runL (F8_s1 a b) (((a.Boxes.length:Int) - 0).toNat + 1) 0)) (ai ((Nat.lt_succ_self _:Int.toNat ((a.Boxes.length:Int) - 0) < (((a.Boxes.length:Int) - 0).toNat + 1))) ((by omega:(0:Int) ≤ 0))))))))):((.int .i64 0:Value)=.int .i64 0)∧(Imp (.l 2 eLabLink a.Links) (.l 2 eLabLink a.Links))∧(Imp (.l 2 eLabBox a.Boxes) (.l 2 eLabBox a.Boxes))∧(Imp (.l 2 eLabLink b.Links) (.l 2 eLabLink b.Links))∧(Imp (.l 2 eLabBox b.Boxes) (.l 2 eLabBox b.Boxes))∧(runL (F8_s1 a b) (((a.Boxes.length:Int) - 0).toNat + 1) 0=(runL (F8_s1 a b) (((a.Boxes.length:Int) - 0).toNat + 1) 0)∧Int.toNat ((a.Boxes.length:Int) - 0) < (((a.Boxes.length:Int) - 0).toNat + 1)∧(0:Int) ≤ 0)) (fun (i1:Nat × Int) (hi1:runL (F8_s1 a b) i1.1 i1.2=(runL (F8_s1 a b) (((a.Boxes.length:Int) - 0).toNat + 1) 0)∧(fun (i41:Int)=>(Int.toNat ((a.Boxes.length:Int) - i41) < i1.1∧(0:Int) ≤ i41)) i1.2)=>(fun (m1:Nat) (i41:Int) (hI1:runL (F8_s1 a b) (m1 + 1) i41=(runL (F8_s1 a b) (((a.Boxes.length:Int) - 0).toNat + 1) 0)) (_:Int.toNat ((a.Boxes.length:Int) - i41) < m1 + 1) (hl1:m1 < i1.1) (_:(0:Int) ≤ i41)=>ai (fun h7:(decide (i41 < (a.Boxes.length:Int)))=true=>(fun _:i41 < (a.Boxes.length:Int)=>ai ((by omega:0 ≤ i41∧i41 < (a.Boxes.length:Int))) (ai ((by omega:0 ≤ i41∧i41 < (b.Boxes.length:Int))) (ai (fun h8:(bif ((((q8_1 a i41).Rows).length:Int) != (((q8_2 b i41).Rows).length:Int)) then true else ((((q8_1 a i41).Guards).length:Int) != (((q8_2 b i41).Guards).length:Int)))=true=>(fun hF:(false:Bool)=(F8 a b)=>ai (congrArg (fun r:Bool=>(.bool r:Value)) hF) (trivial)) (condF h1 (finD hD0_5 (finR (runL_ret hI1 (condT h7 (condT h8 (rfl)))) rfl)))) (fun h8:(bif ((((q8_1 a i41).Rows).length:Int) != (((q8_2 b i41).Rows).length:Int)) then true else ((((q8_1 a i41).Guards).length:Int) != (((q8_2 b i41).Guards).length:Int)))=false=>(fun _:(((q8_1 a i41).Guards).length:Int)=(((q8_2 b i41).Guards).length:Int)=>(fun _:(((q8_1 a i41).Rows).length:Int)=(((q8_2 b i41).Rows).length:Int)=>fun (_:((q8_1 a i41).Rows).length ≤ 9223372036854775807)=>fun (_:((q8_1 a i41).Guards).length ≤ 9223372036854775807)=>fun (_:((q8_2 b i41).Rows).length ≤ 9223372036854775807)=>fun (_:((q8_2 b i41).Guards).length ≤ 9223372036854775807)=>ai (ai (rfl) (ai (rfl) (ai ((Imp.refl _)) (ai ((Imp.refl _)) (ai ((Imp.refl _)) (ai ((Imp.refl _)) (ai ((Imps.refl _)) (ai ((Imps.refl _)) ((ai (rfl:runL (F8_s2 a b i41) (((((q8_1 a i41).Rows).length:Int) - 0).toNat + 1) 0=(runL (F8_s2 a b i41) (((((q8_1 a i41).Rows).length:Int) - 0).toNat + 1) 0)) (ai ((Nat.lt_succ_self _:Int.toNat ((((q8_1 a i41).Rows).length:Int) - 0) < (((((q8_1 a i41).Rows).length:Int) - 0).toNat + 1))) ((by omega:(0:Int) ≤ 0)))))))))))):((.int .i64 i41:Value)=.int .i64 i41)∧((.int .i64 0:Value)=.int .i64 0)∧(Imp (.l 2 eLabLink a.Links) (.l 2 eLabLink a.Links))∧(Imp (.l 2 eLabBox a.Boxes) (.l 2 eLabBox a.Boxes))∧(Imp (.l 2 eLabLink b.Links) (.l 2 eLabLink b.Links))∧(Imp (.l 2 eLabBox b.Boxes) (.l 2 eLabBox b.Boxes))∧(Imps (eLabBox (q8_1 a i41)) (eLabBox (q8_1 a i41)))∧(Imps (eLabBox (q8_2 b i41)) (eLabBox (q8_2 b i41)))∧(runL (F8_s2 a b i41) (((((q8_1 a i41).Rows).length:Int) - 0).toNat + 1) 0=(runL (F8_s2 a b i41) (((((q8_1 a i41).Rows).length:Int) - 0).toNat + 1) 0)∧Int.toNat ((((q8_1 a i41).Rows).length:Int) - 0) < (((((q8_1 a i41).Rows).length:Int) - 0).toNat + 1)∧(0:Int) ≤ 0)) (fun (i2:Nat × Int) (hi2:runL (F8_s2 a b i41) i2.1 i2.2=(runL (F8_s2 a b i41) (((((q8_1 a i41).Rows).length:Int) - 0).toNat + 1) 0)∧(fun (k:Int)=>(Int.toNat ((((q8_1 a i41).Rows).length:Int) - k) < i2.1∧(0:Int) ≤ k)) i2.2)=>(fun (m2:Nat) (k:Int) (hI2:runL (F8_s2 a b i41) (m2 + 1) k=(runL (F8_s2 a b i41) (((((q8_1 a i41).Rows).length:Int) - 0).toNat + 1) 0)) (_:Int.toNat ((((q8_1 a i41).Rows).length:Int) - k) < m2 + 1) (hl2:m2 < i2.1) (_:(0:Int) ≤ k)=>ai (fun h10:(decide (k < (((q8_1 a i41).Rows).length:Int)))=true=>(fun _:k < (((q8_1 a i41).Rows).length:Int)=>ai ((by omega:0 ≤ k∧k < (((q8_1 a i41).Rows).length:Int))) (ai ((by omega:0 ≤ k∧k < (((q8_2 b i41).Rows).length:Int))) (ai ((Eq.refl (.agg #[.int .i64 ((q8_5 a i41 k).In),.int .i64 ((q8_5 a i41 k).Next),.int .i64 ((q8_5 a i41 k).Out)]:Value))) (ai ((Eq.refl (.agg #[.int .i64 ((q8_6 b i41 k).In),.int .i64 ((q8_6 b i41 k).Next),.int .i64 ((q8_6 b i41 k).Out)]:Value))) (ai (fun h11:(!((((q8_5 a i41 k).In) == ((q8_6 b i41 k).In)) && ((((q8_5 a i41 k).Next) == ((q8_6 b i41 k).Next)) && (((q8_5 a i41 k).Out) == ((q8_6 b i41 k).Out)))))=true=>(fun hF:(false:Bool)=(F8 a b)=>ai (congrArg (fun r:Bool=>(.bool r:Value)) hF) (trivial)) (condF h1 (finD hD0_5 (finR (runL_ret hI1 (condT h7 (condF h8 (finR (runL_ret hI2 (condT h10 (condT h11 (rfl)))) rfl)))) rfl)))) (fun h11:(!((((q8_5 a i41 k).In) == ((q8_6 b i41 k).In)) && ((((q8_5 a i41 k).Next) == ((q8_6 b i41 k).Next)) && (((q8_5 a i41 k).Out) == ((q8_6 b i41 k).Out)))))=false=>ai ((by unfold i64ok; omega:i64ok (k + 1))) (Exists.intro (p := fun j:Nat × Int=>(fun (k_:Int)=>(((.int .i64 i41:Value)=.int .i64 i41)∧((.int .i64 (k + 1):Value)=.int .i64 k_)∧(Imp (.l 2 eLabLink a.Links) (.l 2 eLabLink a.Links))∧(Imp (.l 2 eLabBox a.Boxes) (.l 2 eLabBox a.Boxes))∧(Imp (.l 2 eLabLink b.Links) (.l 2 eLabLink b.Links))∧(Imp (.l 2 eLabBox b.Boxes) (.l 2 eLabBox b.Boxes))∧(Imps (eLabBox (q8_1 a i41)) (eLabBox (q8_1 a i41)))∧(Imps (eLabBox (q8_2 b i41)) (eLabBox (q8_2 b i41)))∧((runL (F8_s2 a b i41) j.1 j.2=(runL (F8_s2 a b i41) (((((q8_1 a i41).Rows).length:Int) - 0).toNat + 1) 0)∧Int.toNat ((((q8_1 a i41).Rows).length:Int) - k_) < j.1∧(0:Int) ≤ k_)∧j.1 < i2.1))) j.2) (m2,(k + 1)) (ai (rfl) (ai (rfl) (ai ((Imp.refl _)) (ai ((Imp.refl _)) (ai ((Imp.refl _)) (ai ((Imp.refl _)) (ai ((Imps.refl _)) (ai ((Imps.refl _)) (ai (ai (runL_next hI2 (condT h10 (condF h11 (rfl)))) (ai ((by omega:Int.toNat ((((q8_1 a i41).Rows).length:Int) - (k + 1)) < m2)) ((by omega:(0:Int) ≤ (k + 1))))) hl2)))))))))))))))) (of_decide_eq_true h10)) (fun h10:(decide (k < (((q8_1 a i41).Rows).length:Int)))=false=>(fun _:¬ k < (((q8_1 a i41).Rows).length:Int)=>(fun hD2_12:(runL (F8_s2 a b i41) (((((q8_1 a i41).Rows).length:Int) - 0).toNat + 1) 0)=Lp.done k=>fun (_:((q8_1 a i41).Rows).length ≤ 9223372036854775807)=>fun (_:((q8_1 a i41).Guards).length ≤ 9223372036854775807)=>fun (_:((q8_2 b i41).Rows).length ≤ 9223372036854775807)=>fun (_:((q8_2 b i41).Guards).length ≤ 9223372036854775807)=>ai (ai (rfl) (ai (rfl) (ai ((Imp.refl _)) (ai ((Imp.refl _)) (ai ((Imp.refl _)) (ai ((Imp.refl _)) (ai ((Imps.refl _)) (ai ((Imps.refl _)) ((ai (rfl:runL (F8_s3 a b i41) (((((q8_1 a i41).Guards).length:Int) - 0).toNat + 1) 0=(runL (F8_s3 a b i41) (((((q8_1 a i41).Guards).length:Int) - 0).toNat + 1) 0)) (ai ((Nat.lt_succ_self _:Int.toNat ((((q8_1 a i41).Guards).length:Int) - 0) < (((((q8_1 a i41).Guards).length:Int) - 0).toNat + 1))) ((by omega:(0:Int) ≤ 0)))))))))))):((.int .i64 i41:Value)=.int .i64 i41)∧((.int .i64 0:Value)=.int .i64 0)∧(Imp (.l 2 eLabLink a.Links) (.l 2 eLabLink a.Links))∧(Imp (.l 2 eLabBox a.Boxes) (.l 2 eLabBox a.Boxes))∧(Imp (.l 2 eLabLink b.Links) (.l 2 eLabLink b.Links))∧(Imp (.l 2 eLabBox b.Boxes) (.l 2 eLabBox b.Boxes))∧(Imps (eLabBox (q8_1 a i41)) (eLabBox (q8_1 a i41)))∧(Imps (eLabBox (q8_2 b i41)) (eLabBox (q8_2 b i41)))∧(runL (F8_s3 a b i41) (((((q8_1 a i41).Guards).length:Int) - 0).toNat + 1) 0=(runL (F8_s3 a b i41) (((((q8_1 a i41).Guards).length:Int) - 0).toNat + 1) 0)∧Int.toNat ((((q8_1 a i41).Guards).length:Int) - 0) < (((((q8_1 a i41).Guards).length:Int) - 0).toNat + 1)∧(0:Int) ≤ 0)) (fun (i3:Nat × Int) (hi3:runL (F8_s3 a b i41) i3.1 i3.2=(runL (F8_s3 a b i41) (((((q8_1 a i41).Guards).length:Int) - 0).toNat + 1) 0)∧(fun (k400:Int)=>(Int.toNat ((((q8_1 a i41).Guards).length:Int) - k400) < i3.1∧(0:Int) ≤ k400)) i3.2)=>(fun (m3:Nat) (k400:Int) (hI3:runL (F8_s3 a b i41) (m3 + 1) k400=(runL (F8_s3 a b i41) (((((q8_1 a i41).Guards).length:Int) - 0).toNat + 1) 0)) (_:Int.toNat ((((q8_1 a i41).Guards).length:Int) - k400) < m3 + 1) (hl3:m3 < i3.1) (_:(0:Int) ≤ k400)=>ai (fun h14:(decide (k400 < (((q8_1 a i41).Guards).length:Int)))=true=>(fun _:k400 < (((q8_1 a i41).Guards).length:Int)=>ai ((by omega:0 ≤ k400∧k400 < (((q8_1 a i41).Guards).length:Int))) (ai ((by omega:0 ≤ k400∧k400 < (((q8_2 b i41).Guards).length:Int))) (ai ((Eq.refl (.agg #[.int .i64 ((q8_3 a i41 k400).To),.int .i64 ((q8_3 a i41 k400).Via),.int .i64 ((q8_3 a i41 k400).Push)]:Value))) (ai ((Eq.refl (.agg #[.int .i64 ((q8_4 b i41 k400).To),.int .i64 ((q8_4 b i41 k400).Via),.int .i64 ((q8_4 b i41 k400).Push)]:Value))) (ai (fun h15:(!((((q8_3 a i41 k400).To) == ((q8_4 b i41 k400).To)) && ((((q8_3 a i41 k400).Via) == ((q8_4 b i41 k400).Via)) && (((q8_3 a i41 k400).Push) == ((q8_4 b i41 k400).Push)))))=true=>(fun hF:(false:Bool)=(F8 a b)=>ai (congrArg (fun r:Bool=>(.bool r:Value)) hF) (trivial)) (condF h1 (finD hD0_5 (finR (runL_ret hI1 (condT h7 (condF h8 (finD hD2_12 (finR (runL_ret hI3 (condT h14 (condT h15 (rfl)))) rfl))))) rfl)))) (fun h15:(!((((q8_3 a i41 k400).To) == ((q8_4 b i41 k400).To)) && ((((q8_3 a i41 k400).Via) == ((q8_4 b i41 k400).Via)) && (((q8_3 a i41 k400).Push) == ((q8_4 b i41 k400).Push)))))=false=>ai ((by unfold i64ok; omega:i64ok (k400 + 1))) (Exists.intro (p := fun j:Nat × Int=>(fun (k400_:Int)=>(((.int .i64 i41:Value)=.int .i64 i41)∧((.int .i64 (k400 + 1):Value)=.int .i64 k400_)∧(Imp (.l 2 eLabLink a.Links) (.l 2 eLabLink a.Links))∧(Imp (.l 2 eLabBox a.Boxes) (.l 2 eLabBox a.Boxes))∧(Imp (.l 2 eLabLink b.Links) (.l 2 eLabLink b.Links))∧(Imp (.l 2 eLabBox b.Boxes) (.l 2 eLabBox b.Boxes))∧(Imps (eLabBox (q8_1 a i41)) (eLabBox (q8_1 a i41)))∧(Imps (eLabBox (q8_2 b i41)) (eLabBox (q8_2 b i41)))∧((runL (F8_s3 a b i41) j.1 j.2=(runL (F8_s3 a b i41) (((((q8_1 a i41).Guards).length:Int) - 0).toNat + 1) 0)∧Int.toNat ((((q8_1 a i41).Guards).length:Int) - k400_) < j.1∧(0:Int) ≤ k400_)∧j.1 < i3.1))) j.2) (m3,(k400 + 1)) (ai (rfl) (ai (rfl) (ai ((Imp.refl _)) (ai ((Imp.refl _)) (ai ((Imp.refl _)) (ai ((Imp.refl _)) (ai ((Imps.refl _)) (ai ((Imps.refl _)) (ai (ai (runL_next hI3 (condT h14 (condF h15 (rfl)))) (ai ((by omega:Int.toNat ((((q8_1 a i41).Guards).length:Int) - (k400 + 1)) < m3)) ((by omega:(0:Int) ≤ (k400 + 1))))) hl3)))))))))))))))) (of_decide_eq_true h14)) (fun h14:(decide (k400 < (((q8_1 a i41).Guards).length:Int)))=false=>(fun _:¬ k400 < (((q8_1 a i41).Guards).length:Int)=>(fun hD3_16:(runL (F8_s3 a b i41) (((((q8_1 a i41).Guards).length:Int) - 0).toNat + 1) 0)=Lp.done k400=>ai ((by unfold i64ok; omega:i64ok (i41 + 1))) (Exists.intro (p := fun j:Nat × Int=>(fun (i41_:Int)=>(((.int .i64 (i41 + 1):Value)=.int .i64 i41_)∧(Imp (.l 2 eLabLink a.Links) (.l 2 eLabLink a.Links))∧(Imp (.l 2 eLabBox a.Boxes) (.l 2 eLabBox a.Boxes))∧(Imp (.l 2 eLabLink b.Links) (.l 2 eLabLink b.Links))∧(Imp (.l 2 eLabBox b.Boxes) (.l 2 eLabBox b.Boxes))∧((runL (F8_s1 a b) j.1 j.2=(runL (F8_s1 a b) (((a.Boxes.length:Int) - 0).toNat + 1) 0)∧Int.toNat ((a.Boxes.length:Int) - i41_) < j.1∧(0:Int) ≤ i41_)∧j.1 < i1.1))) j.2) (m1,(i41 + 1)) (ai (rfl) (ai ((Imp.refl _)) (ai ((Imp.refl _)) (ai ((Imp.refl _)) (ai ((Imp.refl _)) (ai (ai (runL_next hI1 (condT h7 (condF h8 (finD hD2_12 (finD hD3_16 (rfl)))))) (ai ((by omega:Int.toNat ((a.Boxes.length:Int) - (i41 + 1)) < m1)) ((by omega:(0:Int) ≤ (i41 + 1))))) hl1)))))))) (runL_done hI3 (condF h14 (rfl)))) (of_decide_eq_false h14))) (i3.1 - 1) i3.2 (hd1 hi3.1 hi3.2.1) (hd2 hi3.2.1) (hd3 hi3.2.1) hi3.2.2)) (runL_done hI2 (condF h10 (rfl)))) (of_decide_eq_false h10))) (i2.1 - 1) i2.2 (hd1 hi2.1 hi2.2.1) (hd2 hi2.2.1) (hd3 hi2.2.1) hi2.2.2)) (bneF (orF1 h8))) (bneF (orF2 h8)))))) (of_decide_eq_true h7)) (fun h7:(decide (i41 < (a.Boxes.length:Int)))=false=>(fun _:¬ i41 < (a.Boxes.length:Int)=>(fun hD1_17:(runL (F8_s1 a b) (((a.Boxes.length:Int) - 0).toNat + 1) 0)=Lp.done i41=>(fun hF:(true:Bool)=(F8 a b)=>ai (congrArg (fun r:Bool=>(.bool r:Value)) hF) (trivial)) (condF h1 (finD hD0_5 (finD hD1_17 (rfl))))) (runL_done hI1 (condF h7 (rfl)))) (of_decide_eq_false h7))) (i1.1 - 1) i1.2 (hd1 hi1.1 hi1.2.1) (hd2 hi1.2.1) (hd3 hi1.2.1) hi1.2.2)) (runL_done hI0 (condF h3 (rfl)))) (of_decide_eq_false h3))) (i0.1 - 1) i0.2 (hd1 hi0.1 hi0.2.1) (hd2 hi0.2.1) (hd3 hi0.2.1) hi0.2.2)) (bneF (orF1 h1))) (bneF (orF2 h1)))) (by kernel_rfl)
def F3_x1 (codeX:SV) (code:List Int):LabNet × Int × Int := (labLay ((F6 codeX code).1) ((F6 codeX code).2.2))
def F3_x2 (codeX:SV) (code:List Int):LabNet × Int × Int := (labLay ((F3_x1 codeX code).1) ((F6 codeX code).2.1))
def F3_x3 (codeX:SV) (code:List Int):LabNet × Int × Int := (labLay (labGuardAll ((F6 codeX code).1)) ((F6 codeX code).2.1))
def F3_x4 (codeX:SV) (code:List Int):LabNet × Int × Int := (labLay ((F3_x3 codeX code).1) ((F6 codeX code).2.2))
def F3_s0 (codeX:SV) (code:List Int):Int → Lp Int Bool := fun down =>
 bif (decide (down < ((((F6 codeX code).1).Links).length:Int))) then (bif (bif (bif ((F12 ((F3_x4 codeX code).1) ([down]:List Int) (⟨(((F6 codeX code).2.1).getD (Int.toNat 0) default),([(F3_x3 codeX code).2.1]:List Int)⟩:LabPacket)).2.2 != (F12 (labGuardAll ((F3_x2 codeX code).1)) ([down]:List Int) (⟨(((F6 codeX code).2.1).getD (Int.toNat 0) default),([(F3_x2 codeX code).2.1]:List Int)⟩:LabPacket)).2.2) then true else ((F12 ((F3_x4 codeX code).1) ([down]:List Int) (⟨(((F6 codeX code).2.1).getD (Int.toNat 0) default),([(F3_x3 codeX code).2.1]:List Int)⟩:LabPacket)).2.1 != (F12 (labGuardAll ((F3_x2 codeX code).1)) ([down]:List Int) (⟨(((F6 codeX code).2.1).getD (Int.toNat 0) default),([(F3_x2 codeX code).2.1]:List Int)⟩:LabPacket)).2.1)) then true else (((F12 ((F3_x4 codeX code).1) ([down]:List Int) (⟨(((F6 codeX code).2.1).getD (Int.toNat 0) default),([(F3_x3 codeX code).2.1]:List Int)⟩:LabPacket)).1).Box != ((F12 (labGuardAll ((F3_x2 codeX code).1)) ([down]:List Int) (⟨(((F6 codeX code).2.1).getD (Int.toNat 0) default),([(F3_x2 codeX code).2.1]:List Int)⟩:LabPacket)).1).Box)) then (.ret false) else (bif (bif (bif ((F12 ((F3_x4 codeX code).1) ([down]:List Int) (⟨(((F6 codeX code).2.2).getD (Int.toNat 0) default),([(F3_x4 codeX code).2.1]:List Int)⟩:LabPacket)).2.2 != (F12 (labGuardAll ((F3_x2 codeX code).1)) ([down]:List Int) (⟨(((F6 codeX code).2.2).getD (Int.toNat 0) default),([(F3_x1 codeX code).2.1]:List Int)⟩:LabPacket)).2.2) then true else ((F12 ((F3_x4 codeX code).1) ([down]:List Int) (⟨(((F6 codeX code).2.2).getD (Int.toNat 0) default),([(F3_x4 codeX code).2.1]:List Int)⟩:LabPacket)).2.1 != (F12 (labGuardAll ((F3_x2 codeX code).1)) ([down]:List Int) (⟨(((F6 codeX code).2.2).getD (Int.toNat 0) default),([(F3_x1 codeX code).2.1]:List Int)⟩:LabPacket)).2.1)) then true else (((F12 ((F3_x4 codeX code).1) ([down]:List Int) (⟨(((F6 codeX code).2.2).getD (Int.toNat 0) default),([(F3_x4 codeX code).2.1]:List Int)⟩:LabPacket)).1).Box != ((F12 (labGuardAll ((F3_x2 codeX code).1)) ([down]:List Int) (⟨(((F6 codeX code).2.2).getD (Int.toNat 0) default),([(F3_x1 codeX code).2.1]:List Int)⟩:LabPacket)).1).Box)) then (.ret false) else (.next (down + 1)))) else (.done down)
def F3 (codeX:SV) (code:List Int):Bool :=
 bif (decide ((code.length:Int) > 1048576)) then true else (bif (bif decide ((((F6 codeX code).2.1).length:Int) < 2) then true else decide ((((F6 codeX code).2.2).length:Int) < 2)) then (bif (netB ((F6 codeX code).1)) then (F8 (labGuardAll ((F6 codeX code).1)) (labGuardAll ((F6 codeX code).1))) else false) else (bif (bif (bif (bif ((F3_x3 codeX code).2.2 != 0) then true else ((F3_x4 codeX code).2.2 != 0)) then true else ((F3_x1 codeX code).2.2 != 0)) then true else ((F3_x2 codeX code).2.2 != 0)) then false else ((runL (F3_s0 codeX code) ((((((F6 codeX code).1).Links).length:Int) - (-1)).toNat + 1) (-1)).fin (fun r=>r) (fun down=>true))))
def S3 (codeX:SV) (code:List Int):Spec := ⟨[.vl (sv codeX) (.l 1 eByte code)],.v (.bool (F3 codeX code)),True⟩
theorem ok3 (codeX:SV) (code:List Int):(S3 codeX code).ok Tryz.prog 3 :=
 fnG_ok mixed (fn := Tryz.f3) (ct := .seqk [(0,0)] (.no) (.seq (.seq (.no) (.cond (.seq (.no) (.no)) (.no))) (.seq (.reg [(1,.call 6 (S6 codeX code) (ok6 codeX code) none)]) (.seq (.seq (.no) (.cond (.seq (.reg [(1,.call 7 (S7 (netB ((F6 codeX code).1)) ((F6 codeX code).1)) (oa7 ((F6 codeX code).1)) none),(4,.call 9 (S9 (labGuardAll ((F6 codeX code).1)) ((F6 codeX code).1)) (oa9 ((F6 codeX code).1)) none),(6,.call 10 (S10 (labGuardAll ((F6 codeX code).1)) ((F6 codeX code).1)) (oa10 ((F6 codeX code).1)) none),(7,.call 8 (S8 (labGuardAll ((F6 codeX code).1)) (labGuardAll ((F6 codeX code).1))) (ok8 (labGuardAll ((F6 codeX code).1)) (labGuardAll ((F6 codeX code).1))) none)]) (.no)) (.no))) (.seq (.reg [(1,.call 9 (S9 (labGuardAll ((F6 codeX code).1)) ((F6 codeX code).1)) (oa9 ((F6 codeX code).1)) none),(3,.call 11 (S11 (F3_x3 codeX code) (labGuardAll ((F6 codeX code).1)) ((F6 codeX code).2.1)) (oa11 (labGuardAll ((F6 codeX code).1)) ((F6 codeX code).2.1)) none)]) (.seq (.reg [(2,.call 11 (S11 (F3_x4 codeX code) ((F3_x3 codeX code).1) ((F6 codeX code).2.2)) (oa11 ((F3_x3 codeX code).1) ((F6 codeX code).2.2)) none)]) (.seq (.reg [(2,.call 11 (S11 (F3_x1 codeX code) ((F6 codeX code).1) ((F6 codeX code).2.2)) (oa11 ((F6 codeX code).1) ((F6 codeX code).2.2)) none)]) (.seq (.reg [(2,.call 11 (S11 (F3_x2 codeX code) ((F3_x1 codeX code).1) ((F6 codeX code).2.1)) (oa11 ((F3_x1 codeX code).1) ((F6 codeX code).2.1)) none)]) (.seq (.reg [(1,.call 9 (S9 (labGuardAll ((F3_x2 codeX code).1)) ((F3_x2 codeX code).1)) (oa9 ((F3_x2 codeX code).1)) none)]) (.seq (.seq (.no) (.cond (.seq (.no) (.no)) (.no))) (.seq (.seqk [(3,0),(3,1),(4,0),(5,0),(6,0),(6,1),(11,0),(11,1)] (.no) (.blk (.loop (ι := Nat × Int) (fun i=>(fun (down:Int)=>(⟨[(3,some (.p 0 0)),(4,some (.h 3 0)),(5,some (.h 4 0)),(6,some (.p 5 0)),(7,some (.v (vI ((F3_x3 codeX code).2.1)))),(9,some (.v (vI ((F3_x4 codeX code).2.1)))),(11,some (.p 8 0)),(12,some (.v (vI ((F3_x1 codeX code).2.1)))),(14,some (.v (vI ((F3_x2 codeX code).2.1)))),(16,some (.v (vI down)))],[(0,some (.box 26 [.h 1 0,.h 2 0])),(1,some (.own 1 (.l 2 eLabLink (((F6 codeX code).1).Links)))),(2,some (.own 2 (.l 2 eLabBox (((F6 codeX code).1).Boxes)))),(3,some (.own 3 (.l 1 eInt ((F6 codeX code).2.1)))),(4,some (.own 4 (.l 1 eInt ((F6 codeX code).2.2)))),(5,some (.box 26 [.h 6 0,.h 7 0])),(6,some (.own 6 (.l 2 eLabLink (((F3_x4 codeX code).1).Links)))),(7,some (.own 7 (.l 2 eLabBox (((F3_x4 codeX code).1).Boxes)))),(8,some (.box 26 [.h 9 0,.h 10 0])),(9,some (.own 9 (.l 2 eLabLink ((labGuardAll ((F3_x2 codeX code).1)).Links)))),(10,some (.own 10 (.l 2 eLabBox ((labGuardAll ((F3_x2 codeX code).1)).Boxes))))],11⟩:St)) i.2) (fun i=>runL (F3_s0 codeX code) i.1 i.2=(runL (F3_s0 codeX code) ((((((F6 codeX code).1).Links).length:Int) - (-1)).toNat + 1) (-1))∧(fun (down:Int)=>(Int.toNat (((((F6 codeX code).1).Links).length:Int) - down) < i.1∧(-1:Int) ≤ down)) i.2) (fun i=>i.1) (((((((F6 codeX code).1).Links).length:Int) - (-1)).toNat + 1),(-1)) (fun i=>(fun (down:Int)=>(.seq (.seq (.no) (.cond (.no) (.no))) (.seq (.blk (.seq (.reg [(2,.dat (.l 1 eInt ([down]:List Int))),(7,.dat (.l 1 eInt ([(F3_x3 codeX code).2.1]:List Int))),(9,.call 12 (S12 ((F3_x4 codeX code).1) ([down]:List Int) (⟨(((F6 codeX code).2.1).getD (Int.toNat 0) default),([(F3_x3 codeX code).2.1]:List Int)⟩:LabPacket)) (ok12 ((F3_x4 codeX code).1) ([down]:List Int) (⟨(((F6 codeX code).2.1).getD (Int.toNat 0) default),([(F3_x3 codeX code).2.1]:List Int)⟩:LabPacket)) none)]) (.seq (.reg [(2,.dat (.l 1 eInt ([down]:List Int))),(7,.dat (.l 1 eInt ([(F3_x2 codeX code).2.1]:List Int))),(9,.call 12 (S12 (labGuardAll ((F3_x2 codeX code).1)) ([down]:List Int) (⟨(((F6 codeX code).2.1).getD (Int.toNat 0) default),([(F3_x2 codeX code).2.1]:List Int)⟩:LabPacket)) (ok12 (labGuardAll ((F3_x2 codeX code).1)) ([down]:List Int) (⟨(((F6 codeX code).2.1).getD (Int.toNat 0) default),([(F3_x2 codeX code).2.1]:List Int)⟩:LabPacket)) none)]) (.seq (.seq (.no) (.cond (.seq (.no) (.no)) (.no))) (.seq (.reg [(2,.dat (.l 1 eInt ([down]:List Int))),(7,.dat (.l 1 eInt ([(F3_x4 codeX code).2.1]:List Int))),(9,.call 12 (S12 ((F3_x4 codeX code).1) ([down]:List Int) (⟨(((F6 codeX code).2.2).getD (Int.toNat 0) default),([(F3_x4 codeX code).2.1]:List Int)⟩:LabPacket)) (ok12 ((F3_x4 codeX code).1) ([down]:List Int) (⟨(((F6 codeX code).2.2).getD (Int.toNat 0) default),([(F3_x4 codeX code).2.1]:List Int)⟩:LabPacket)) none)]) (.seq (.reg [(2,.dat (.l 1 eInt ([down]:List Int))),(7,.dat (.l 1 eInt ([(F3_x1 codeX code).2.1]:List Int))),(9,.call 12 (S12 (labGuardAll ((F3_x2 codeX code).1)) ([down]:List Int) (⟨(((F6 codeX code).2.2).getD (Int.toNat 0) default),([(F3_x1 codeX code).2.1]:List Int)⟩:LabPacket)) (ok12 (labGuardAll ((F3_x2 codeX code).1)) ([down]:List Int) (⟨(((F6 codeX code).2.2).getD (Int.toNat 0) default),([(F3_x1 codeX code).2.1]:List Int)⟩:LabPacket)) none)]) (.seq (.no) (.cond (.seq (.no) (.no)) (.no))))))))) (.reg [(1,.bnd)])))) i.2)))) (.seq (.no) (.no))))))))))))) Tryz.func3 (fun (_:True)=>fun (_:code.length ≤ 9223372036854775807)=>ai (fun h1:(decide ((code.length:Int) > 1048576))=true=>(fun _:(code.length:Int) > 1048576=>(fun hF:(true:Bool)=(F3 codeX code)=>ai (congrArg (fun r:Bool=>(.bool r:Value)) hF) (trivial)) (condT h1 (rfl))) (of_decide_eq_true h1)) (fun h1:(decide ((code.length:Int) > 1048576))=false=>(fun _:¬ (code.length:Int) > 1048576=>ai (trivial) (ai ((Eq.refl (sv codeX))) (ai ((Imp.refl (.l 1 eByte code))) ((fun gv2:((F6 codeX code)).2.1.length ≤ 8∧((F6 codeX code)).2.2.length ≤ 8=>ai (fun h3:(bif decide ((((F6 codeX code).2.1).length:Int) < 2) then true else decide ((((F6 codeX code).2.2).length:Int) < 2))=true=>ai (trivial) (ai ((Imps.refl (eLabNet ((F6 codeX code).1)))) (ai ((fun k4:(netB ((F6 codeX code).1))=true=>(fun _:((F6 codeX code).1).Links.length ≤ 14=>(fun _:((F6 codeX code).1).Boxes.length ≤ 8=>(fun _:NetOk ((F6 codeX code).1)=>trivial) (netB_T ((F6 codeX code).1) k4)) (netB_8 ((F6 codeX code).1) k4)) (netB_14 ((F6 codeX code).1) k4))) (ai ((fun k5:(netB ((F6 codeX code).1))=true=>(fun _:((F6 codeX code).1).Links.length ≤ 14=>(fun _:((F6 codeX code).1).Boxes.length ≤ 8=>(fun _:NetOk ((F6 codeX code).1)=>(Imps.refl (eLabNet ((F6 codeX code).1)))) (netB_T ((F6 codeX code).1) k5)) (netB_8 ((F6 codeX code).1) k5)) (netB_14 ((F6 codeX code).1) k5))) (ai ((fun k6:(netB ((F6 codeX code).1))=true=>(fun _:((F6 codeX code).1).Links.length ≤ 14=>(fun _:((F6 codeX code).1).Boxes.length ≤ 8=>(fun _:NetOk ((F6 codeX code).1)=>trivial) (netB_T ((F6 codeX code).1) k6)) (netB_8 ((F6 codeX code).1) k6)) (netB_14 ((F6 codeX code).1) k6))) (ai ((fun k7:(netB ((F6 codeX code).1))=true=>(fun _:((F6 codeX code).1).Links.length ≤ 14=>(fun _:((F6 codeX code).1).Boxes.length ≤ 8=>(fun _:NetOk ((F6 codeX code).1)=>(Imps.refl (eLabNet ((F6 codeX code).1)))) (netB_T ((F6 codeX code).1) k7)) (netB_8 ((F6 codeX code).1) k7)) (netB_14 ((F6 codeX code).1) k7))) (ai ((fun k8:(netB ((F6 codeX code).1))=true=>(fun _:((F6 codeX code).1).Links.length ≤ 14=>(fun _:((F6 codeX code).1).Boxes.length ≤ 8=>(fun _:NetOk ((F6 codeX code).1)=>trivial) (netB_T ((F6 codeX code).1) k8)) (netB_8 ((F6 codeX code).1) k8)) (netB_14 ((F6 codeX code).1) k8))) (ai ((fun k9:(netB ((F6 codeX code).1))=true=>(fun _:((F6 codeX code).1).Links.length ≤ 14=>(fun _:((F6 codeX code).1).Boxes.length ≤ 8=>(fun _:NetOk ((F6 codeX code).1)=>(Imps.refl (eLabNet (labGuardAll ((F6 codeX code).1))))) (netB_T ((F6 codeX code).1) k9)) (netB_8 ((F6 codeX code).1) k9)) (netB_14 ((F6 codeX code).1) k9))) (ai ((fun k10:(netB ((F6 codeX code).1))=true=>(fun _:((F6 codeX code).1).Links.length ≤ 14=>(fun _:((F6 codeX code).1).Boxes.length ≤ 8=>(fun _:NetOk ((F6 codeX code).1)=>(Imps.refl (eLabNet (labGuardAll ((F6 codeX code).1))))) (netB_T ((F6 codeX code).1) k10)) (netB_8 ((F6 codeX code).1) k10)) (netB_14 ((F6 codeX code).1) k10))) ((fun hF:((bif (netB ((F6 codeX code).1)) then (F8 (labGuardAll ((F6 codeX code).1)) (labGuardAll ((F6 codeX code).1))) else false):Bool)=(F3 codeX code)=>ai (congrArg (fun r:Bool=>(.bool r:Value)) hF) (trivial)) (condF h1 (condT h3 (rfl))))))))))))) (fun h3:(bif decide ((((F6 codeX code).2.1).length:Int) < 2) then true else decide ((((F6 codeX code).2.2).length:Int) < 2))=false=>(fun _:¬ (((F6 codeX code).2.2).length:Int) < 2=>(fun _:¬ (((F6 codeX code).2.1).length:Int) < 2=>ai (trivial) (ai ((Imps.refl (eLabNet ((F6 codeX code).1)))) (ai (trivial) (ai ((Imps.refl (eLabNet (labGuardAll ((F6 codeX code).1))))) (ai ((Imp.refl (.l 1 eInt ((F6 codeX code).2.1)))) (ai (trivial) (ai ((Imps.refl (eLabNet ((F3_x3 codeX code).1)))) (ai ((Imp.refl (.l 1 eInt ((F6 codeX code).2.2)))) (ai (trivial) (ai ((Imps.refl (eLabNet ((F6 codeX code).1)))) (ai ((Imp.refl (.l 1 eInt ((F6 codeX code).2.2)))) (ai (trivial) (ai ((Imps.refl (eLabNet ((F3_x1 codeX code).1)))) (ai ((Imp.refl (.l 1 eInt ((F6 codeX code).2.1)))) (ai (trivial) (ai ((Imps.refl (eLabNet ((F3_x2 codeX code).1)))) (ai (fun h11:(bif (bif (bif ((F3_x3 codeX code).2.2 != 0) then true else ((F3_x4 codeX code).2.2 != 0)) then true else ((F3_x1 codeX code).2.2 != 0)) then true else ((F3_x2 codeX code).2.2 != 0))=true=>(fun hF:(false:Bool)=(F3 codeX code)=>ai (congrArg (fun r:Bool=>(.bool r:Value)) hF) (trivial)) (condF h1 (condF h3 (condT h11 (rfl))))) (fun h11:(bif (bif (bif ((F3_x3 codeX code).2.2 != 0) then true else ((F3_x4 codeX code).2.2 != 0)) then true else ((F3_x1 codeX code).2.2 != 0)) then true else ((F3_x2 codeX code).2.2 != 0))=false=>(fun _:(F3_x2 codeX code).2.2=0=>(fun _:(F3_x1 codeX code).2.2=0=>(fun _:(F3_x4 codeX code).2.2=0=>(fun _:(F3_x3 codeX code).2.2=0=>fun (_:(((F6 codeX code).1).Links).length ≤ 9223372036854775807)=>fun (_:(((F6 codeX code).1).Boxes).length ≤ 9223372036854775807)=>fun (_:((F6 codeX code).2.1).length ≤ 9223372036854775807)=>fun (_:((F6 codeX code).2.2).length ≤ 9223372036854775807)=>fun (_:(((F3_x4 codeX code).1).Links).length ≤ 9223372036854775807)=>fun (_:(((F3_x4 codeX code).1).Boxes).length ≤ 9223372036854775807)=>fun (_:((labGuardAll ((F3_x2 codeX code).1)).Links).length ≤ 9223372036854775807)=>fun (_:((labGuardAll ((F3_x2 codeX code).1)).Boxes).length ≤ 9223372036854775807)=>ai (ai (rfl) (ai (rfl) (ai (rfl) (ai (rfl) (ai (rfl) (ai ((Imp.refl _)) (ai ((Imp.refl _)) (ai ((Imp.refl _)) (ai ((Imp.refl _)) (ai ((Imp.refl _)) (ai ((Imp.refl _)) (ai ((Imp.refl _)) (ai ((Imp.refl _)) ((ai (rfl:runL (F3_s0 codeX code) ((((((F6 codeX code).1).Links).length:Int) - (-1)).toNat + 1) (-1)=(runL (F3_s0 codeX code) ((((((F6 codeX code).1).Links).length:Int) - (-1)).toNat + 1) (-1))) (ai ((Nat.lt_succ_self _:Int.toNat (((((F6 codeX code).1).Links).length:Int) - (-1)) < ((((((F6 codeX code).1).Links).length:Int) - (-1)).toNat + 1))) ((by omega:(-1:Int) ≤ (-1)))))))))))))))))):((.int .i64 ((F3_x3 codeX code).2.1):Value)=.int .i64 ((F3_x3 codeX code).2.1))∧((.int .i64 ((F3_x4 codeX code).2.1):Value)=.int .i64 ((F3_x4 codeX code).2.1))∧((.int .i64 ((F3_x1 codeX code).2.1):Value)=.int .i64 ((F3_x1 codeX code).2.1))∧((.int .i64 ((F3_x2 codeX code).2.1):Value)=.int .i64 ((F3_x2 codeX code).2.1))∧((.int .i64 (-1):Value)=.int .i64 (-1))∧(Imp (.l 2 eLabLink (((F6 codeX code).1).Links)) (.l 2 eLabLink (((F6 codeX code).1).Links)))∧(Imp (.l 2 eLabBox (((F6 codeX code).1).Boxes)) (.l 2 eLabBox (((F6 codeX code).1).Boxes)))∧(Imp (.l 1 eInt ((F6 codeX code).2.1)) (.l 1 eInt ((F6 codeX code).2.1)))∧(Imp (.l 1 eInt ((F6 codeX code).2.2)) (.l 1 eInt ((F6 codeX code).2.2)))∧(Imp (.l 2 eLabLink (((F3_x4 codeX code).1).Links)) (.l 2 eLabLink (((F3_x4 codeX code).1).Links)))∧(Imp (.l 2 eLabBox (((F3_x4 codeX code).1).Boxes)) (.l 2 eLabBox (((F3_x4 codeX code).1).Boxes)))∧(Imp (.l 2 eLabLink ((labGuardAll ((F3_x2 codeX code).1)).Links)) (.l 2 eLabLink ((labGuardAll ((F3_x2 codeX code).1)).Links)))∧(Imp (.l 2 eLabBox ((labGuardAll ((F3_x2 codeX code).1)).Boxes)) (.l 2 eLabBox ((labGuardAll ((F3_x2 codeX code).1)).Boxes)))∧(runL (F3_s0 codeX code) ((((((F6 codeX code).1).Links).length:Int) - (-1)).toNat + 1) (-1)=(runL (F3_s0 codeX code) ((((((F6 codeX code).1).Links).length:Int) - (-1)).toNat + 1) (-1))∧Int.toNat (((((F6 codeX code).1).Links).length:Int) - (-1)) < ((((((F6 codeX code).1).Links).length:Int) - (-1)).toNat + 1)∧(-1:Int) ≤ (-1))) (fun (i0:Nat × Int) (hi0:runL (F3_s0 codeX code) i0.1 i0.2=(runL (F3_s0 codeX code) ((((((F6 codeX code).1).Links).length:Int) - (-1)).toNat + 1) (-1))∧(fun (down:Int)=>(Int.toNat (((((F6 codeX code).1).Links).length:Int) - down) < i0.1∧(-1:Int) ≤ down)) i0.2)=>(fun (m0:Nat) (down:Int) (hI0:runL (F3_s0 codeX code) (m0 + 1) down=(runL (F3_s0 codeX code) ((((((F6 codeX code).1).Links).length:Int) - (-1)).toNat + 1) (-1))) (_:Int.toNat (((((F6 codeX code).1).Links).length:Int) - down) < m0 + 1) (hl0:m0 < i0.1) (_:(-1:Int) ≤ down)=>ai (fun h13:(decide (down < ((((F6 codeX code).1).Links).length:Int)))=true=>(fun _:down < ((((F6 codeX code).1).Links).length:Int)=>ai ((BuildOK.mk eInt ([down]:List Int) rfl (by exact ai (Imp.refl _) (trivial)) (fun _=>rfl):BuildOK 1 1 [.v (vI down)] (.l 1 eInt ([down]:List Int)))) (ai ((by omega:0 ≤ (0:Int)∧(0:Int) < (((F6 codeX code).2.1).length:Int))) (ai ((BuildOK.mk eInt ([(F3_x3 codeX code).2.1]:List Int) rfl (by exact ai (Imp.refl _) (trivial)) (fun _=>rfl):BuildOK 1 1 [.v (vI ((F3_x3 codeX code).2.1))] (.l 1 eInt ([(F3_x3 codeX code).2.1]:List Int)))) (ai (((by first | omega | (simp only [List.length_cons,List.length_nil]; omega):([(F3_x3 codeX code).2.1]:List Int).length ≤ 1000000000))) (ai ((Imps.refl (eLabNet ((F3_x4 codeX code).1)))) (ai ((Imp.refl (.l 1 eInt ([down]:List Int)))) (ai ((Imps.refl (eLabPacket (⟨(((F6 codeX code).2.1).getD (Int.toNat 0) default),([(F3_x3 codeX code).2.1]:List Int)⟩:LabPacket)))) (ai ((BuildOK.mk eInt ([down]:List Int) rfl (by exact ai (Imp.refl _) (trivial)) (fun _=>rfl):BuildOK 1 1 [.v (vI down)] (.l 1 eInt ([down]:List Int)))) (ai ((by omega:0 ≤ (0:Int)∧(0:Int) < (((F6 codeX code).2.1).length:Int))) (ai ((BuildOK.mk eInt ([(F3_x2 codeX code).2.1]:List Int) rfl (by exact ai (Imp.refl _) (trivial)) (fun _=>rfl):BuildOK 1 1 [.v (vI ((F3_x2 codeX code).2.1))] (.l 1 eInt ([(F3_x2 codeX code).2.1]:List Int)))) (ai (((by first | omega | (simp only [List.length_cons,List.length_nil]; omega):([(F3_x2 codeX code).2.1]:List Int).length ≤ 1000000000))) (ai ((Imps.refl (eLabNet (labGuardAll ((F3_x2 codeX code).1))))) (ai ((Imp.refl (.l 1 eInt ([down]:List Int)))) (ai ((Imps.refl (eLabPacket (⟨(((F6 codeX code).2.1).getD (Int.toNat 0) default),([(F3_x2 codeX code).2.1]:List Int)⟩:LabPacket)))) (ai (fun h14:(bif (bif ((F12 ((F3_x4 codeX code).1) ([down]:List Int) (⟨(((F6 codeX code).2.1).getD (Int.toNat 0) default),([(F3_x3 codeX code).2.1]:List Int)⟩:LabPacket)).2.2 != (F12 (labGuardAll ((F3_x2 codeX code).1)) ([down]:List Int) (⟨(((F6 codeX code).2.1).getD (Int.toNat 0) default),([(F3_x2 codeX code).2.1]:List Int)⟩:LabPacket)).2.2) then true else ((F12 ((F3_x4 codeX code).1) ([down]:List Int) (⟨(((F6 codeX code).2.1).getD (Int.toNat 0) default),([(F3_x3 codeX code).2.1]:List Int)⟩:LabPacket)).2.1 != (F12 (labGuardAll ((F3_x2 codeX code).1)) ([down]:List Int) (⟨(((F6 codeX code).2.1).getD (Int.toNat 0) default),([(F3_x2 codeX code).2.1]:List Int)⟩:LabPacket)).2.1)) then true else (((F12 ((F3_x4 codeX code).1) ([down]:List Int) (⟨(((F6 codeX code).2.1).getD (Int.toNat 0) default),([(F3_x3 codeX code).2.1]:List Int)⟩:LabPacket)).1).Box != ((F12 (labGuardAll ((F3_x2 codeX code).1)) ([down]:List Int) (⟨(((F6 codeX code).2.1).getD (Int.toNat 0) default),([(F3_x2 codeX code).2.1]:List Int)⟩:LabPacket)).1).Box))=true=>(fun hF:(false:Bool)=(F3 codeX code)=>ai (congrArg (fun r:Bool=>(.bool r:Value)) hF) (trivial)) (condF h1 (condF h3 (condF h11 (finR (runL_ret hI0 (condT h13 (condT h14 (rfl)))) rfl))))) (fun h14:(bif (bif ((F12 ((F3_x4 codeX code).1) ([down]:List Int) (⟨(((F6 codeX code).2.1).getD (Int.toNat 0) default),([(F3_x3 codeX code).2.1]:List Int)⟩:LabPacket)).2.2 != (F12 (labGuardAll ((F3_x2 codeX code).1)) ([down]:List Int) (⟨(((F6 codeX code).2.1).getD (Int.toNat 0) default),([(F3_x2 codeX code).2.1]:List Int)⟩:LabPacket)).2.2) then true else ((F12 ((F3_x4 codeX code).1) ([down]:List Int) (⟨(((F6 codeX code).2.1).getD (Int.toNat 0) default),([(F3_x3 codeX code).2.1]:List Int)⟩:LabPacket)).2.1 != (F12 (labGuardAll ((F3_x2 codeX code).1)) ([down]:List Int) (⟨(((F6 codeX code).2.1).getD (Int.toNat 0) default),([(F3_x2 codeX code).2.1]:List Int)⟩:LabPacket)).2.1)) then true else (((F12 ((F3_x4 codeX code).1) ([down]:List Int) (⟨(((F6 codeX code).2.1).getD (Int.toNat 0) default),([(F3_x3 codeX code).2.1]:List Int)⟩:LabPacket)).1).Box != ((F12 (labGuardAll ((F3_x2 codeX code).1)) ([down]:List Int) (⟨(((F6 codeX code).2.1).getD (Int.toNat 0) default),([(F3_x2 codeX code).2.1]:List Int)⟩:LabPacket)).1).Box))=false=>(fun _:((F12 ((F3_x4 codeX code).1) ([down]:List Int) (⟨(((F6 codeX code).2.1).getD (Int.toNat 0) default),([(F3_x3 codeX code).2.1]:List Int)⟩:LabPacket)).1).Box=((F12 (labGuardAll ((F3_x2 codeX code).1)) ([down]:List Int) (⟨(((F6 codeX code).2.1).getD (Int.toNat 0) default),([(F3_x2 codeX code).2.1]:List Int)⟩:LabPacket)).1).Box=>(fun _:(F12 ((F3_x4 codeX code).1) ([down]:List Int) (⟨(((F6 codeX code).2.1).getD (Int.toNat 0) default),([(F3_x3 codeX code).2.1]:List Int)⟩:LabPacket)).2.1=(F12 (labGuardAll ((F3_x2 codeX code).1)) ([down]:List Int) (⟨(((F6 codeX code).2.1).getD (Int.toNat 0) default),([(F3_x2 codeX code).2.1]:List Int)⟩:LabPacket)).2.1=>(fun _:(F12 ((F3_x4 codeX code).1) ([down]:List Int) (⟨(((F6 codeX code).2.1).getD (Int.toNat 0) default),([(F3_x3 codeX code).2.1]:List Int)⟩:LabPacket)).2.2=(F12 (labGuardAll ((F3_x2 codeX code).1)) ([down]:List Int) (⟨(((F6 codeX code).2.1).getD (Int.toNat 0) default),([(F3_x2 codeX code).2.1]:List Int)⟩:LabPacket)).2.2=>ai ((BuildOK.mk eInt ([down]:List Int) rfl (by exact ai (Imp.refl _) (trivial)) (fun _=>rfl):BuildOK 1 1 [.v (vI down)] (.l 1 eInt ([down]:List Int)))) (ai ((by omega:0 ≤ (0:Int)∧(0:Int) < (((F6 codeX code).2.2).length:Int))) (ai ((BuildOK.mk eInt ([(F3_x4 codeX code).2.1]:List Int) rfl (by exact ai (Imp.refl _) (trivial)) (fun _=>rfl):BuildOK 1 1 [.v (vI ((F3_x4 codeX code).2.1))] (.l 1 eInt ([(F3_x4 codeX code).2.1]:List Int)))) (ai (((by first | omega | (simp only [List.length_cons,List.length_nil]; omega):([(F3_x4 codeX code).2.1]:List Int).length ≤ 1000000000))) (ai ((Imps.refl (eLabNet ((F3_x4 codeX code).1)))) (ai ((Imp.refl (.l 1 eInt ([down]:List Int)))) (ai ((Imps.refl (eLabPacket (⟨(((F6 codeX code).2.2).getD (Int.toNat 0) default),([(F3_x4 codeX code).2.1]:List Int)⟩:LabPacket)))) (ai ((BuildOK.mk eInt ([down]:List Int) rfl (by exact ai (Imp.refl _) (trivial)) (fun _=>rfl):BuildOK 1 1 [.v (vI down)] (.l 1 eInt ([down]:List Int)))) (ai ((by omega:0 ≤ (0:Int)∧(0:Int) < (((F6 codeX code).2.2).length:Int))) (ai ((BuildOK.mk eInt ([(F3_x1 codeX code).2.1]:List Int) rfl (by exact ai (Imp.refl _) (trivial)) (fun _=>rfl):BuildOK 1 1 [.v (vI ((F3_x1 codeX code).2.1))] (.l 1 eInt ([(F3_x1 codeX code).2.1]:List Int)))) (ai (((by first | omega | (simp only [List.length_cons,List.length_nil]; omega):([(F3_x1 codeX code).2.1]:List Int).length ≤ 1000000000))) (ai ((Imps.refl (eLabNet (labGuardAll ((F3_x2 codeX code).1))))) (ai ((Imp.refl (.l 1 eInt ([down]:List Int)))) (ai ((Imps.refl (eLabPacket (⟨(((F6 codeX code).2.2).getD (Int.toNat 0) default),([(F3_x1 codeX code).2.1]:List Int)⟩:LabPacket)))) (ai (fun h15:(bif (bif ((F12 ((F3_x4 codeX code).1) ([down]:List Int) (⟨(((F6 codeX code).2.2).getD (Int.toNat 0) default),([(F3_x4 codeX code).2.1]:List Int)⟩:LabPacket)).2.2 != (F12 (labGuardAll ((F3_x2 codeX code).1)) ([down]:List Int) (⟨(((F6 codeX code).2.2).getD (Int.toNat 0) default),([(F3_x1 codeX code).2.1]:List Int)⟩:LabPacket)).2.2) then true else ((F12 ((F3_x4 codeX code).1) ([down]:List Int) (⟨(((F6 codeX code).2.2).getD (Int.toNat 0) default),([(F3_x4 codeX code).2.1]:List Int)⟩:LabPacket)).2.1 != (F12 (labGuardAll ((F3_x2 codeX code).1)) ([down]:List Int) (⟨(((F6 codeX code).2.2).getD (Int.toNat 0) default),([(F3_x1 codeX code).2.1]:List Int)⟩:LabPacket)).2.1)) then true else (((F12 ((F3_x4 codeX code).1) ([down]:List Int) (⟨(((F6 codeX code).2.2).getD (Int.toNat 0) default),([(F3_x4 codeX code).2.1]:List Int)⟩:LabPacket)).1).Box != ((F12 (labGuardAll ((F3_x2 codeX code).1)) ([down]:List Int) (⟨(((F6 codeX code).2.2).getD (Int.toNat 0) default),([(F3_x1 codeX code).2.1]:List Int)⟩:LabPacket)).1).Box))=true=>(fun hF:(false:Bool)=(F3 codeX code)=>ai (congrArg (fun r:Bool=>(.bool r:Value)) hF) (trivial)) (condF h1 (condF h3 (condF h11 (finR (runL_ret hI0 (condT h13 (condF h14 (condT h15 (rfl))))) rfl))))) (fun h15:(bif (bif ((F12 ((F3_x4 codeX code).1) ([down]:List Int) (⟨(((F6 codeX code).2.2).getD (Int.toNat 0) default),([(F3_x4 codeX code).2.1]:List Int)⟩:LabPacket)).2.2 != (F12 (labGuardAll ((F3_x2 codeX code).1)) ([down]:List Int) (⟨(((F6 codeX code).2.2).getD (Int.toNat 0) default),([(F3_x1 codeX code).2.1]:List Int)⟩:LabPacket)).2.2) then true else ((F12 ((F3_x4 codeX code).1) ([down]:List Int) (⟨(((F6 codeX code).2.2).getD (Int.toNat 0) default),([(F3_x4 codeX code).2.1]:List Int)⟩:LabPacket)).2.1 != (F12 (labGuardAll ((F3_x2 codeX code).1)) ([down]:List Int) (⟨(((F6 codeX code).2.2).getD (Int.toNat 0) default),([(F3_x1 codeX code).2.1]:List Int)⟩:LabPacket)).2.1)) then true else (((F12 ((F3_x4 codeX code).1) ([down]:List Int) (⟨(((F6 codeX code).2.2).getD (Int.toNat 0) default),([(F3_x4 codeX code).2.1]:List Int)⟩:LabPacket)).1).Box != ((F12 (labGuardAll ((F3_x2 codeX code).1)) ([down]:List Int) (⟨(((F6 codeX code).2.2).getD (Int.toNat 0) default),([(F3_x1 codeX code).2.1]:List Int)⟩:LabPacket)).1).Box))=false=>(fun _:((F12 ((F3_x4 codeX code).1) ([down]:List Int) (⟨(((F6 codeX code).2.2).getD (Int.toNat 0) default),([(F3_x4 codeX code).2.1]:List Int)⟩:LabPacket)).1).Box=((F12 (labGuardAll ((F3_x2 codeX code).1)) ([down]:List Int) (⟨(((F6 codeX code).2.2).getD (Int.toNat 0) default),([(F3_x1 codeX code).2.1]:List Int)⟩:LabPacket)).1).Box=>(fun _:(F12 ((F3_x4 codeX code).1) ([down]:List Int) (⟨(((F6 codeX code).2.2).getD (Int.toNat 0) default),([(F3_x4 codeX code).2.1]:List Int)⟩:LabPacket)).2.1=(F12 (labGuardAll ((F3_x2 codeX code).1)) ([down]:List Int) (⟨(((F6 codeX code).2.2).getD (Int.toNat 0) default),([(F3_x1 codeX code).2.1]:List Int)⟩:LabPacket)).2.1=>(fun _:(F12 ((F3_x4 codeX code).1) ([down]:List Int) (⟨(((F6 codeX code).2.2).getD (Int.toNat 0) default),([(F3_x4 codeX code).2.1]:List Int)⟩:LabPacket)).2.2=(F12 (labGuardAll ((F3_x2 codeX code).1)) ([down]:List Int) (⟨(((F6 codeX code).2.2).getD (Int.toNat 0) default),([(F3_x1 codeX code).2.1]:List Int)⟩:LabPacket)).2.2=>ai ((by unfold i64ok; omega:i64ok (down + 1))) (Exists.intro (p := fun j:Nat × Int=>(fun (down_:Int)=>(((.int .i64 ((F3_x3 codeX code).2.1):Value)=.int .i64 ((F3_x3 codeX code).2.1))∧((.int .i64 ((F3_x4 codeX code).2.1):Value)=.int .i64 ((F3_x4 codeX code).2.1))∧((.int .i64 ((F3_x1 codeX code).2.1):Value)=.int .i64 ((F3_x1 codeX code).2.1))∧((.int .i64 ((F3_x2 codeX code).2.1):Value)=.int .i64 ((F3_x2 codeX code).2.1))∧((.int .i64 (down + 1):Value)=.int .i64 down_)∧(Imp (.l 2 eLabLink (((F6 codeX code).1).Links)) (.l 2 eLabLink (((F6 codeX code).1).Links)))∧(Imp (.l 2 eLabBox (((F6 codeX code).1).Boxes)) (.l 2 eLabBox (((F6 codeX code).1).Boxes)))∧(Imp (.l 1 eInt ((F6 codeX code).2.1)) (.l 1 eInt ((F6 codeX code).2.1)))∧(Imp (.l 1 eInt ((F6 codeX code).2.2)) (.l 1 eInt ((F6 codeX code).2.2)))∧(Imp (.l 2 eLabLink (((F3_x4 codeX code).1).Links)) (.l 2 eLabLink (((F3_x4 codeX code).1).Links)))∧(Imp (.l 2 eLabBox (((F3_x4 codeX code).1).Boxes)) (.l 2 eLabBox (((F3_x4 codeX code).1).Boxes)))∧(Imp (.l 2 eLabLink ((labGuardAll ((F3_x2 codeX code).1)).Links)) (.l 2 eLabLink ((labGuardAll ((F3_x2 codeX code).1)).Links)))∧(Imp (.l 2 eLabBox ((labGuardAll ((F3_x2 codeX code).1)).Boxes)) (.l 2 eLabBox ((labGuardAll ((F3_x2 codeX code).1)).Boxes)))∧((runL (F3_s0 codeX code) j.1 j.2=(runL (F3_s0 codeX code) ((((((F6 codeX code).1).Links).length:Int) - (-1)).toNat + 1) (-1))∧Int.toNat (((((F6 codeX code).1).Links).length:Int) - down_) < j.1∧(-1:Int) ≤ down_)∧j.1 < i0.1))) j.2) (m0,(down + 1)) (ai (rfl) (ai (rfl) (ai (rfl) (ai (rfl) (ai (rfl) (ai ((Imp.refl _)) (ai ((Imp.refl _)) (ai ((Imp.refl _)) (ai ((Imp.refl _)) (ai ((Imp.refl _)) (ai ((Imp.refl _)) (ai ((Imp.refl _)) (ai ((Imp.refl _)) (ai (ai (runL_next hI0 (condT h13 (condF h14 (condF h15 (rfl))))) (ai ((by omega:Int.toNat (((((F6 codeX code).1).Links).length:Int) - (down + 1)) < m0)) ((by omega:(-1:Int) ≤ (down + 1))))) hl0)))))))))))))))) (bneF (orF1 (orF1 h15)))) (bneF (orF2 (orF1 h15)))) (bneF (orF2 h15)))))))))))))))))) (bneF (orF1 (orF1 h14)))) (bneF (orF2 (orF1 h14)))) (bneF (orF2 h14)))))))))))))))))) (of_decide_eq_true h13)) (fun h13:(decide (down < ((((F6 codeX code).1).Links).length:Int)))=false=>(fun _:¬ down < ((((F6 codeX code).1).Links).length:Int)=>(fun hD0_16:(runL (F3_s0 codeX code) ((((((F6 codeX code).1).Links).length:Int) - (-1)).toNat + 1) (-1))=Lp.done down=>(fun hF:(true:Bool)=(F3 codeX code)=>ai (congrArg (fun r:Bool=>(.bool r:Value)) hF) (trivial)) (condF h1 (condF h3 (condF h11 (finD hD0_16 (rfl)))))) (runL_done hI0 (condF h13 (rfl)))) (of_decide_eq_false h13))) (i0.1 - 1) i0.2 (hd1 hi0.1 hi0.2.1) (hd2 hi0.2.1) (hd3 hi0.2.1) hi0.2.2)) (bneF (orF1 (orF1 (orF1 h11))))) (bneF (orF2 (orF1 (orF1 h11))))) (bneF (orF2 (orF1 h11)))) (bneF (orF2 h11)))))))))))))))))))) (of_decide_eq_false (orF1 h3))) (of_decide_eq_false (orF2 h3)))) (two_b codeX code))))) (of_decide_eq_false h1))) (by kernel_rfl)
end Go.Proofs.YtmiolofjlfnohaaGreat
namespace Go.Proofs.YtmiolofjlfnohaaGreat
open Go.RowKit
set_option maxRecDepth 100000
set_option linter.unusedVariables false
set_option linter.unusedSimpArgs false
theorem labWay_sub {n n' : LabNet} (hs : Sub n n') (hn : NetOk n) (hn' : NetOk n') (a b w : Int) : labWay n' a b w = labWay n a b w := by
 unfold labWay
 rw [netB_ok.2 hn, netB_ok.2 hn', hs.len]
 by_cases hb : 0 ≤ b ∧ b ≤ (n.Boxes.length : Int) - 1
 ·rw [wayOf_sub hs hn.frame hn'.frame hb.1 (by omega)]
 ·rw [decide_eq_false hb]; simp
theorem extra_sub {n n' : LabNet} (hs : Sub n n') (hn : NetOk n) (hn' : NetOk n') (p : List Int) (d : Int) : extra n' p d = extra n p d := by
 unfold extra
 simp only [hs.link, labWay_sub hs hn hn']
theorem arr_one {n : LabNet} (hn : NetOk n) (hG : ∀ a b : Int, 0 ≤ linkOf n a b → Gd n a b) {a la : List Int} (Ta : Tun n a la) (ha : PathOk n a) (d : Int) :
  (0 ≤ extra n a d → F12 n [d] (⟨a.getD 0 default, [la.getD 0 default]⟩ : LabPacket) = ((⟨a.getD (a.length - 1) default, []⟩ : LabPacket), (a.length : Int) + extra n a d, 0)) ∧
  (extra n a d < 0 → ∃ (j : Nat) (S : List Int), j + 1 < a.length ∧ linkOf n (a.getD j default) (a.getD (j + 1) default) = d ∧ F12 n [d] (⟨a.getD 0 default, [la.getD 0 default]⟩ : LabPacket) = ((⟨a.getD j default, S⟩ : LabPacket), (j : Int), 5)) := by
 have h2a := ha.two
 have hra := Ta.rng 0 (by omega)
 have hp : packB n (⟨a.getD 0 default, [la.getD 0 default]⟩ : LabPacket) = true := packB_of hra.1 hra.2 (by simp) (fun x hx => by
  simp only [List.mem_cons, List.not_mem_nil, or_false] at hx
  subst hx
  exact Ta.lbl hn (by omega))
 obtain ⟨a1, a2⟩ := tun_go hn hG Ta ha d [] (by simp)
 refine ⟨fun hA => ?_, fun hA => ?_⟩
 ·obtain ⟨m, m1, m2, m3⟩ := a1 hA
  have := labWalk_of hn hp m3 (by omega) (c := 3) (by rw [st_end]) (by decide)
  rw [this, m1]; rfl
 ·obtain ⟨k, q, k2, k3, k4, j, j1, j2, j3, j4⟩ := a2 hA
  have := labWalk_of hn hp k3 (by omega) (c := 5) (by rw [k4]) (by decide)
  obtain ⟨qb, qs⟩ := q
  simp only at j3
  subst j2
  refine ⟨k, qs, j1, j4, ?_⟩
  rw [this, j3]; rfl
theorem two_nets {n x y : LabNet} (hn : NetOk n) (hx : NetOk x) (hy : NetOk y) (sx : Sub n x) (sy : Sub n y) (hGx : ∀ a b : Int, 0 ≤ linkOf n a b → Gd x a b) (hGy : ∀ a b : Int, 0 ≤ linkOf n a b → Gd y a b) {a lx ly : List Int} (Tx : Tun x a lx) (Ty : Tun y a ly) (ha : PathOk n a) (d : Int) :
  (F12 x [d] (⟨a.getD 0 default, [lx.getD 0 default]⟩ : LabPacket)).2.2 = (F12 y [d] (⟨a.getD 0 default, [ly.getD 0 default]⟩ : LabPacket)).2.2 ∧
  (F12 x [d] (⟨a.getD 0 default, [lx.getD 0 default]⟩ : LabPacket)).2.1 = (F12 y [d] (⟨a.getD 0 default, [ly.getD 0 default]⟩ : LabPacket)).2.1 ∧
  (F12 x [d] (⟨a.getD 0 default, [lx.getD 0 default]⟩ : LabPacket)).1.Box = (F12 y [d] (⟨a.getD 0 default, [ly.getD 0 default]⟩ : LabPacket)).1.Box := by
 obtain ⟨x1, x2⟩ := arr_one hx (fun p q h => hGx p q (by rwa [sx.link] at h)) Tx (ha.sub sx) d
 obtain ⟨y1, y2⟩ := arr_one hy (fun p q h => hGy p q (by rwa [sy.link] at h)) Ty (ha.sub sy) d
 rw [extra_sub sx hn hx] at x1 x2
 rw [extra_sub sy hn hy] at y1 y2
 by_cases hA : 0 ≤ extra n a d
 ·rw [x1 hA, y1 hA]; exact ⟨rfl, rfl, rfl⟩
 ·obtain ⟨j, S, j1, j2, j3⟩ := x2 (by omega)
  obtain ⟨k, S', k1, k2, k3⟩ := y2 (by omega)
  rw [sx.link] at j2
  rw [sy.link] at k2
  have e := link_once hn.frame ha j1 k1 (j2.trans k2.symm)
  subst e
  rw [j3, k3]; exact ⟨rfl, rfl, rfl⟩
theorem net_same (x : LabNet) : F8 x x = true := by
 unfold F8
 have e1 : (bif ((x.Links.length : Int) != (x.Links.length : Int)) then true else ((x.Boxes.length : Int) != (x.Boxes.length : Int))) = false := by simp
 rw [e1, cond_false]
 have l0 := runL_rule (step := F8_s0 x x) (fun (k : Nat) (_ : Unit) => (k : Int)) x.Links.length (fun _ _ => True) (fun _ => False)
  (fun k _ hk _ => .inl ⟨(), by simp only [F8_s0, ltD hk, cond_true, beq_self_eq_true, Bool.and_self, Bool.not_true, cond_false]; rfl, trivial⟩)
  (fun _ _ => by simp [F8_s0]) x.Links.length 0 () (by omega) trivial (Int.toNat ((x.Links.length : Int) - 0) + 1) (by omega)
 have l1 := runL_rule (step := F8_s1 x x) (fun (k : Nat) (_ : Unit) => (k : Int)) x.Boxes.length (fun _ _ => True) (fun _ => False)
  (fun k _ hk _ => .inl ⟨(), by
   have l2 := runL_rule (step := F8_s2 x x (k : Int)) (fun (j : Nat) (_ : Unit) => (j : Int)) (x.Boxes.getD k default).Rows.length (fun _ _ => True) (fun _ => False)
    (fun j _ hj _ => .inl ⟨(), by simp only [F8_s2, nn, ltD hj, cond_true, beq_self_eq_true, Bool.and_self, Bool.not_true, cond_false]; rfl, trivial⟩)
    (fun _ _ => by simp [F8_s2]) (x.Boxes.getD k default).Rows.length 0 () (by omega) trivial (Int.toNat (((x.Boxes.getD k default).Rows.length : Int) - 0) + 1) (by omega)
   have l3 := runL_rule (step := F8_s3 x x (k : Int)) (fun (j : Nat) (_ : Unit) => (j : Int)) (x.Boxes.getD k default).Guards.length (fun _ _ => True) (fun _ => False)
    (fun j _ hj _ => .inl ⟨(), by simp only [F8_s3, nn, ltD hj, cond_true, beq_self_eq_true, Bool.and_self, Bool.not_true, cond_false]; rfl, trivial⟩)
    (fun _ _ => by simp [F8_s3]) (x.Boxes.getD k default).Guards.length 0 () (by omega) trivial (Int.toNat (((x.Boxes.getD k default).Guards.length : Int) - 0) + 1) (by omega)
   have e2 : (bif (((x.Boxes.getD k default).Rows.length : Int) != ((x.Boxes.getD k default).Rows.length : Int)) then true else (((x.Boxes.getD k default).Guards.length : Int) != ((x.Boxes.getD k default).Guards.length : Int))) = false := by simp
   simp only [F8_s1, ltD hk, cond_true, nn]
   rw [e2, cond_false]
   rcases l2 with ⟨_, l2, _⟩ | ⟨_, _, l2⟩
   ·rcases l3 with ⟨_, l3, _⟩ | ⟨_, _, l3⟩
    ·have l2' : runL (F8_s2 x x (k : Int)) (Int.toNat (((x.Boxes.getD k default).Rows.length : Int) - 0) + 1) 0 = _ := l2
     have l3' : runL (F8_s3 x x (k : Int)) (Int.toNat (((x.Boxes.getD k default).Guards.length : Int) - 0) + 1) 0 = _ := l3
     rw [l2', l3']; rfl
    ·exact l3.elim
   ·exact l2.elim, trivial⟩)
  (fun _ _ => by simp [F8_s1]) x.Boxes.length 0 () (by omega) trivial (Int.toNat ((x.Boxes.length : Int) - 0) + 1) (by omega)
 rcases l0 with ⟨_, l0, _⟩ | ⟨_, _, l0⟩
 ·rcases l1 with ⟨_, l1, _⟩ | ⟨_, _, l1⟩
  ·have l0' : runL (F8_s0 x x) (Int.toNat ((x.Links.length : Int) - 0) + 1) 0 = _ := l0
   have l1' : runL (F8_s1 x x) (Int.toNat ((x.Boxes.length : Int) - 0) + 1) 0 = _ := l1
   rw [l0', l1']; rfl
  ·exact l1.elim
 ·exact l0.elim
theorem Gd.laid {n : LabNet} (hn : NetOk n) {p : List Int} (hL : LayP n p (labsOf n p)) (hnp : NetOk (laidP n p)) {a b : Int} (hl : 0 ≤ linkOf n a b) (h : Gd n a b) : Gd (laidP n p) a b :=
 h.mono (laid_sub hL) hn.frame hnp.frame hl fun hg => by
  rw [guardIx_none_iff] at hg ⊢
  rw [(laid_box hL a).2.2]; exact hg
theorem plain_3 (codeX : SV) (code : List Int) : F3 codeX code = true := by
 unfold F3
 have h := two_ok codeX code
 cases decide ((code.length : Int) > 1048576) with
 | true => rfl
 | false =>
  rw [cond_false]
  generalize hD : F6 codeX code = D at h
  obtain ⟨n, a, b⟩ := D
  simp only at h
  by_cases hab : a.length < 2 ∨ b.length < 2
  ·have e : (bif decide ((((n, a, b) : LabNet × List Int × List Int).2.1.length : Int) < 2) then true else decide ((((n, a, b) : LabNet × List Int × List Int).2.2.length : Int) < 2)) = true := by
    simp only [Bool.cond_true_left, Bool.or_eq_true, decide_eq_true_eq]; omega
   rw [e, cond_true, netB_ok.2 h.net, cond_true]
   exact net_same _
  ·have e : (bif decide ((((n, a, b) : LabNet × List Int × List Int).2.1.length : Int) < 2) then true else decide ((((n, a, b) : LabNet × List Int × List Int).2.2.length : Int) < 2)) = false := by
    cases hx : (bif decide ((((n, a, b) : LabNet × List Int × List Int).2.1.length : Int) < 2) then true else decide ((((n, a, b) : LabNet × List Int × List Int).2.2.length : Int) < 2)) with
    | false => rfl
    | true => simp only [Bool.cond_true_left, Bool.or_eq_true, decide_eq_true_eq] at hx; omega
   rw [e, cond_false]
   have hn := h.net
   have ha := h.pa.ok (by omega)
   obtain ⟨hb, _⟩ := h.pb (by omega)
   have hb := hb.ok (by omega)
   have hr0 : ∀ i : Int, (bx n i).Rows.length ≤ 0 := fun i => by rw [(h.bare i).1]; exact Nat.le_refl _
   obtain ⟨g1, g2, g3, g4⟩ := gAll_all hn (fun i => (h.bare i).2) (fun i => by have := hr0 i; omega)
   generalize hg : gAll n n.Links.length = g at g1 g2 g3 g4
   obtain ⟨La, _⟩ := layR_of g1 (fun i => by have := g3 i; omega) (ha.sub g2)
   have na : NetOk (laidP g a) := La.netTo _ (Nat.le_refl _)
   have ra : ∀ i : Int, (bx (laidP g a) i).Rows.length ≤ 32 := fun i => by have := (laid_box La i).2.1; have := g3 i; omega
   have sa := laid_sub La
   obtain ⟨Lb, _⟩ := layR_of na (fun i => by have := ra i; omega) ((hb.sub g2).sub sa)
   have nb : NetOk (laidP (laidP g a) b) := Lb.netTo _ (Nat.le_refl _)
   have sb := laid_sub Lb
   have Gx : ∀ p q : Int, 0 ≤ linkOf n p q → Gd (laidP (laidP g a) b) p q := fun p q hl =>
    Gd.laid na Lb nb (by rw [sa.link, g2.link]; exact hl) (Gd.laid g1 La na (by rw [g2.link]; exact hl) (g4 p q hl))
   obtain ⟨Mb, _⟩ := layR_of hn (fun i => by have := hr0 i; omega) hb
   have mb : NetOk (laidP n b) := Mb.netTo _ (Nat.le_refl _)
   have tb := laid_sub Mb
   have rb : ∀ i : Int, (bx (laidP n b) i).Rows.length ≤ 1 := fun i => by have := (laid_box Mb i).2.1; have := hr0 i; omega
   obtain ⟨Ma, _⟩ := layR_of mb (fun i => by have := rb i; omega) (ha.sub tb)
   have ma : NetOk (laidP (laidP n b) a) := Ma.netTo _ (Nat.le_refl _)
   have ta := laid_sub Ma
   obtain ⟨y1, y2, _, y4⟩ := gAll_all ma (fun i => by rw [(laid_box Ma i).2.2, (laid_box Mb i).2.2, (h.bare i).2]) (fun i => by have := (laid_box Ma i).2.1; have := rb i; omega)
   have ey := all_eq ma
   generalize gAll (laidP (laidP n b) a) (laidP (laidP n b) a).Links.length = y at y1 y2 y4 ey
   have sy := (tb.trans ta).trans y2
   have sx := (g2.trans sa).trans sb
   have Gy : ∀ p q : Int, 0 ≤ linkOf n p q → Gd y p q := fun p q hl => y4 p q (by rw [ta.link, tb.link]; exact hl)
   have eg : labGuardAll n = g := by rw [all_eq hn, hg]
   have x3 : F3_x3 codeX code = (laidP g a, (labsOf g a).getD 0 default, 0) := by
    unfold F3_x3
    rw [hD]; simp only
    rw [eg, lay_long g1 (fun i => by have := g3 i; omega) (ha.sub g2)]
   have x4 : F3_x4 codeX code = (laidP (laidP g a) b, (labsOf (laidP g a) b).getD 0 default, 0) := by
    unfold F3_x4
    rw [hD, x3]; simp only
    rw [lay_long na (fun i => by have := ra i; omega) ((hb.sub g2).sub sa)]
   have x1 : F3_x1 codeX code = (laidP n b, (labsOf n b).getD 0 default, 0) := by
    unfold F3_x1
    rw [hD]; simp only
    rw [lay_long hn (fun i => by have := hr0 i; omega) hb]
   have x2 : F3_x2 codeX code = (laidP (laidP n b) a, (labsOf (laidP n b) a).getD 0 default, 0) := by
    unfold F3_x2
    rw [hD, x1]; simp only
    rw [lay_long mb (fun i => by have := rb i; omega) (ha.sub tb)]
   rw [x1, x2, x3, x4]
   simp only [bne_self_eq_false, cond_false]
   have hr := runL_rule (step := F3_s0 codeX code) (fun (k : Nat) (_ : Unit) => (k : Int) - 1) (n.Links.length + 1) (fun _ _ => True) (fun _ => False)
    (fun k _ hk _ => .inl ⟨(), by
     have hd : decide ((k : Int) - 1 < (n.Links.length : Int)) = true := decide_eq_true (by omega)
     simp only [F3_s0, hD, x1, x2, x3, x4, ey]
     rw [hd]
     simp only [cond_true]
     obtain ⟨a1, a2, a3⟩ := two_nets hn nb y1 sx sy Gx Gy ((laid_tun La).mono sb) ((laid_tun Ma).mono y2) ha ((k : Int) - 1)
     obtain ⟨b1, b2, b3⟩ := two_nets hn nb y1 sx sy Gx Gy (laid_tun Lb) (((laid_tun Mb).mono ta).mono y2) hb ((k : Int) - 1)
     have hz : Int.toNat 0 = 0 := rfl
     simp only [hz, a1, a2, a3, b1, b2, b3, bne_self_eq_false, cond_false]
     congr 1
     omega, trivial⟩)
    (fun _ _ => by
     have e2 : decide (((n.Links.length + 1 : Nat) : Int) - 1 < (n.Links.length : Int)) = false := decide_eq_false (by omega)
     simp only [F3_s0, hD, e2, cond_false]) (n.Links.length + 1) 0 () (by omega) trivial (Int.toNat ((n.Links.length : Int) - (-1)) + 1) (by omega)
   rcases hr with ⟨_, hr, _⟩ | ⟨_, _, hr⟩
   ·have hr' : runL (F3_s0 codeX code) (Int.toNat ((n.Links.length : Int) - (-1)) + 1) (-1) = _ := hr
    rw [hr']; rfl
   ·exact hr.elim
end Go.Proofs.YtmiolofjlfnohaaGreat
namespace Go.Proofs.YtmiolofjlfnohaaGreat
open Go.RowKit Go.ChangeShapes Go.WideShapes Go.ChangeAt
set_option maxRecDepth 100000
set_option linter.unusedVariables false
theorem op_5 : OpD Tryz.prog 5 eByte := OpD.byte Tryz.underlying5
theorem op_22 : OpD Tryz.prog 22 (fun xs : List Int => [.l 1 eByte xs]) := OpD.slice 1 Tryz.underlying22 op_5 (fun _ => rfl) (by kernel_rfl) (by decide)
theorem own : ownKnob Tryz.prog.godebug = none := by kernel_rfl
theorem cfA : Tryz.prog.inPlace 3 = Rows.fnLabOrderRow.inPlace := by kernel_rfl
theorem cfB : Tryz.prog.unfollowed 3 = Rows.fnLabOrderRow.unfollowed := by kernel_rfl
theorem cfC : Tryz.prog.recurses 3 = Rows.fnLabOrderRow.recurses := by kernel_rfl
theorem cfD : Tryz.prog.varsNamed 3 = Rows.fnLabOrderRow.named := by kernel_rfl
set_option maxRecDepth 100000 in
theorem lifted_FnLabOrder (os : Os) (started : os.Started) (H : Type) (enc : TypeId × Value → H) :
  ReturnsInHanded {} Tryz.checked os 3 .any (Rows.fnLabOrderSpec.pre6 enc Tryz.prog Tryz.f3 Rows.fnLabOrderRow.domain false) (Rows.fnLabOrderSpec.post enc Tryz.prog Tryz.f3 false true false false) := by
 refine returnsInHanded_of_change (C := Tryz.checked) own started (by kernel_rfl) Tryz.func3
  (ChangeSpec.witness6 (enc := enc) (C := Tryz.checked) false ⟨#[], #[.slice none 0 0], []⟩ 8 (by kernel_rfl) (by kernel_rfl) (by kernel_rfl) (by kernel_rfl)) ?_
 intro W base args ds gs before hval0 hW hcnd _
 have hval : ∀ (j : Nat) t v, Tryz.f3.params[j]? = some t → args[j]? = some v → Value.okWide Tryz.prog W .any base t v := hval0
 have hW' := hW
 obtain ⟨p, q, hA0, hV, rfl, hfz, hnd⟩ := hW
 have hA : DataW.TrodAll enc Tryz.prog W 0 (fun _ => true) true Tryz.f3.params.toList args.toList ds p := hA0
 rw [Tryz.params3] at hA hval
 obtain ⟨v0, vs0, d0, ds0, p0, q0, hargs, rfl, rfl, h0, r0⟩ := trodAll_cons hA
 obtain ⟨rfl, rfl, rfl⟩ := trodAll_nil r0
 obtain rfl : args = #[v0] := by cases args; simp_all
 obtain ⟨rfl, rfl⟩ := trodVars_none hV
 obtain ⟨fu0, t0⟩ := h0
 obtain ⟨a0, n0, c0, rfl⟩ := okWide_slice Tryz.underlying22 (hval 0 22 v0 rfl rfl)
 obtain ⟨x0, u0, us0, e0, o0, -⟩ := op_22 H enc W fu0 _ _ t0
 obtain rfl : u0 = _ := (List.cons.inj e0).1.symm
 have hc := law_call (W := W) (vs := [.slice a0 n0 c0]) (ok3 (⟨a0, n0, c0⟩ : SV) x0) trivial (x := .bool (F3 (⟨a0, n0, c0⟩ : SV) x0)) ⟨_, _, [], [], rfl, ⟨⟨rfl, o0⟩, rfl⟩, ⟨rfl, rfl⟩, rfl, List.nodup_nil⟩ rfl rfl
 rw [plain_3 (⟨a0, n0, c0⟩ : SV) x0] at hc
 refine hc.mono fun e W' ⟨he, hb⟩ => ?_
 subst he
 exact ⟨_, rfl, law_post rfl hW' hb rfl Tryz.underlying4 rfl rfl rfl laid (by decide +kernel)⟩
theorem proved_FnLabOrder : Rows.FnLabOrderSaid :=
 OpenClaim.holds_of_wide 3 Tryz.f3 rfl rfl rfl rfl rfl rfl rfl ⟨rfl, rfl, rfl, rfl, rfl⟩ rfl rfl rfl rfl rfl (by kernel_rfl) Tryz.func3 (by
   show joinedFacts Tryz.prog 3 Tryz.f3 Rows.fnLabOrderSpec Rows.fnLabOrderRow = true
   simp only [joinedFacts, laid, cfMaps, cfKeys, cfLifts, cfHeard, cfEnter, cfMake, cfA, cfB, cfC, cfD, Bool.and_true]
   kernel_rfl)
  (of_decide_eq_true (by kernel_rfl)) (by unfold Func.isWrapper; first | (rw [if_pos (by decide +kernel)]; kernel_rfl) | (rw [if_neg (by decide +kernel)]; exact ⟨rfl, rfl⟩))
  (fun os started H enc _ => lifted_FnLabOrder os started H enc)
#print axioms proved_FnLabOrder
end Go.Proofs.YtmiolofjlfnohaaGreat
