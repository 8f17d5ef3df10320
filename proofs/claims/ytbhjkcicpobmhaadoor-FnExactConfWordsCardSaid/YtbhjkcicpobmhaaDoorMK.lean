/-
  The machine, twentieth part: functions.
-/
import Derived.Test.YtbhjkcicpobmhaaDoorMJ
namespace Go.Proofs.YtbhjkcicpobmhaaDoor
open Go.RowKit
set_option linter.unusedVariables false
set_option linter.unusedSimpArgs false

/-! ### The way in -/

/-- cells of data that are only read: each slice is an item -/
def cellsR : Nat → List Dat → List AV × List (Nat × Option Fact) × Nat
  | n, [] => ([], [], n)
  | n, .v x :: ds => let b := cellsR n ds; (.v x :: b.1, b.2)
  | n, d :: ds => let b := cellsR (n + 1) ds; (.h n 0 :: b.1, (n, some (.shr none d)) :: b.2.1, b.2.2)

def inA (n : Nat) : Arg → AV × List (Nat × Option Fact) × Nat
  | .r (.c (.v x)) => (.v x, [], n)
  | .r (.c d) => (.h n 0, [(n, some (.shr none d))], n + 1)
  | .r (.g ds) => let c := cellsR n ds; (.ag c.1, c.2)
  | .pt T ds _ => let c := cellsB n ds; (.p c.2.2 0, c.2.1 ++ [(c.2.2, some (.box T c.1))], c.2.2 + 1)
  | .rp ds => (.p n 0, [(n, some (.mem none none ds))], n + 1)
  | .ow d _ => (.h n 0, [(n, some (.own n d))], n + 1)
  | .og ds _ => let c := cellsB n ds; (.ag c.1, c.2)
  | .ot ds => let c := cellsB n ds; (.ag c.1, c.2)
  | .vl x d => (.h n 0, [(n, some (.vl x d))], n + 1)
  | .ptg _ T x d ds _ => let c := cellsB (n + 1) ds; (.p c.2.2 0, (n, some (.vl x d)) :: (c.2.1 ++ [(c.2.2, some (.box T ([.h n 0] ++ c.1)))]), c.2.2 + 1)
  | .fn F _ => (.h n 0, [(n, some (.fn F))], n + 1)
def inAs : Nat → List Arg → List AV × List (Nat × Option Fact) × Nat
  | n, [] => ([], [], n)
  | n, a :: as => let x := inA n a; let b := inAs x.2.2 as; (x.1 :: b.1, x.2.1 ++ b.2.1, b.2.2)

/-- slots from number i on -/
def slotsFrom : Nat → List AV → List (Nat × Option AV)
  | _, [] => []
  | i, a :: as => (i, some a) :: slotsFrom (i + 1) as

def stIn (as : List Arg) : St := ⟨slotsFrom 0 (inAs 0 as).1, (inAs 0 as).2.1.reverse, (inAs 0 as).2.2⟩

section
variable {P : Program} {fs : Nat → Option Fact} {β : Nat → Nat → Value} {φ : Nat → List Nat} {dom ψ IN : Nat → Prop} {w0 w : World}

/-- an item that is only read -/
theorem RL.addN {L : List Nat} (H : RL P fs β φ dom ψ IN w0 w L) (n : Nat) (hn : ¬ dom n) (g : Fact) (βn : Nat → Value) (hm : g.mod = false) (hone : ∀ j, (βn j).oneCell' = true) (hF : ∀ fs' φ' dom', FactOK P fs' (up β n βn) φ' dom' ψ w n g) :
    RL P (fupd fs n (some g)) (up β n βn) φ (fun i => dom i ∨ i = n) ψ IN w0 w L ∧ Ext β (up β n βn) dom (fun i => dom i ∨ i = n) n (n + 1) := by
  have hlk : ∀ id g', fupd fs n (some g) id = some g' → (id = n ∧ g' = g) ∨ (id ≠ n ∧ fs id = some g') := by
    intro id g' h
    rw [fupd_eq] at h
    by_cases e : id = n
    · rw [if_pos e] at h; exact .inl ⟨e, (Option.some.inj h).symm⟩
    · rw [if_neg e] at h; exact .inr ⟨e, h⟩
  refine ⟨⟨H.rel.step (NN := (· = n)) (C := fun _ => False) (Chg.of_below (Bel.refl _ _)) (fun id h => ⟨.inl h, up_ne _ _ _ fun e => hn (e ▸ h)⟩) (up_all1 H.rel.all1 _ hone) (fun id g' h => ?_) (fun _ _ => rfl) (fun b _ h => h.elim) (fun id g' hn' h => ?_) (fun id V d hn' h => ?_) (fun id g' hn' h hm' => ?_) (fun i j g1 g2 hi hj _ _ _ _ hne => absurd (hi.trans hj.symm) hne), H.loose.1, fun b hb => ?_⟩, ⟨Nat.le_succ _, fun id h => ⟨.inl h, up_ne _ _ _ fun e => hn (e ▸ h)⟩, fun id h => ?_⟩⟩
  · rcases hlk id g' h with ⟨h, _⟩ | ⟨_, h⟩
    · exact .inl h
    · exact .inr h
  · subst hn'
    rcases hlk id g' h with ⟨_, rfl⟩ | ⟨h, _⟩
    · exact ⟨.inr rfl, hF _ _ _⟩
    · exact absurd rfl h
  · subst hn'
    rcases hlk id _ h with ⟨_, rfl⟩ | ⟨h, _⟩
    · cases hm
    · exact absurd rfl h
  · subst hn'
    rcases hlk id _ h with ⟨_, rfl⟩ | ⟨h, _⟩
    · rw [hm] at hm'; cases hm'
    · exact absurd rfl h
  · obtain ⟨k1, k2, k3, k4⟩ := H.loose.2 b hb
    refine ⟨k1, k2, k3, fun id g' h hm' => ?_⟩
    rcases hlk id g' h with ⟨_, rfl⟩ | ⟨_, h⟩
    · rw [hm] at hm'; cases hm'
    · exact k4 id g' h hm'
  · rcases h with h | rfl
    · exact .inl h
    · exact .inr ⟨Nat.le_refl _, Nat.lt_succ_self _⟩

theorem cellsR_ok : ∀ (ds : List Dat) (n : Nat) (fs : Nat → Option Fact) (β : Nat → Nat → Value) (dom : Nat → Prop) (vs : List Value) (L : List Nat), RL P fs β φ dom ψ IN w0 w L → (∀ id, n ≤ id → ¬ dom id) → RdVs ψ w ds vs →
    ∃ β' dom', RL P (fupds fs (cellsR n ds).2.1) β' φ dom' ψ IN w0 w L ∧ Ext β β' dom dom' n (cellsR n ds).2.2 ∧ vals β' (cellsR n ds).1 = vs ∧ AVs.wf dom' (cellsR n ds).1
  | [], n, fs, β, dom, vs, L, H, hn, ho => by
    obtain rfl : vs = [] := ho
    exact ⟨β, dom, H, Ext.refl _ _ _, rfl, trivial⟩
  | .v x :: ds, n, fs, β, dom, vs, L, H, hn, ho => by
    obtain ⟨u, us, rfl, h1, h2⟩ := ho
    obtain ⟨rfl, hx⟩ := h1
    obtain ⟨β', dom', k1, k2, k3, k4⟩ := cellsR_ok ds n fs β dom us L H hn h2
    exact ⟨β', dom', k1, k2, by simp only [cellsR, vals, val, k3], ⟨trivial, k4⟩⟩
  | @Dat.l α _ sz enc xs :: ds, n, fs, β, dom, vs, L, H, hn, ho => by
    obtain ⟨u, us, rfl, h1, h2⟩ := ho
    obtain ⟨k1, k2⟩ := H.addN n (hn n (Nat.le_refl _)) (.shr none (.l sz enc xs)) (fun _ => u) rfl (fun _ => h1.one) (fun _ _ _ => by show RdV ψ w _ _; rw [up_self]; exact h1)
    obtain ⟨β', dom', m1, m2, m3, m4⟩ := cellsR_ok ds (n + 1) _ _ _ us L k1 (fun id h hd => by
      rcases hd with hd | rfl
      · exact hn id (by omega) hd
      · omega) h2
    obtain ⟨q1, q2⟩ := m2.old n (.inr rfl)
    exact ⟨β', dom', m1, k2.trans m2, by simp only [cellsR, vals, val, m3]; rw [q2, up_self], ⟨q1, m4⟩⟩
  | .any :: ds, n, fs, β, dom, vs, L, H, hn, ho => by
    obtain ⟨u, us, rfl, h1, h2⟩ := ho
    obtain ⟨k1, k2⟩ := H.addN n (hn n (Nat.le_refl _)) (.shr none .any) (fun _ => u) rfl (fun _ => h1.one) (fun _ _ _ => by show RdV ψ w _ _; rw [up_self]; exact h1)
    obtain ⟨β', dom', m1, m2, m3, m4⟩ := cellsR_ok ds (n + 1) _ _ _ us L k1 (fun id h hd => by
      rcases hd with hd | rfl
      · exact hn id (by omega) hd
      · omega) h2
    obtain ⟨q1, q2⟩ := m2.old n (.inr rfl)
    exact ⟨β', dom', m1, k2.trans m2, by simp only [cellsR, vals, val, m3]; rw [q2, up_self], ⟨q1, m4⟩⟩
  | .x XX :: ds, n, fs, β, dom, vs, L, H, hn, ho => by
    obtain ⟨u, us, rfl, h1, h2⟩ := ho
    obtain ⟨k1, k2⟩ := H.addN n (hn n (Nat.le_refl _)) (.shr none (.x XX)) (fun _ => u) rfl (fun _ => h1.one) (fun _ _ _ => by show RdV ψ w _ _; rw [up_self]; exact h1)
    obtain ⟨β', dom', m1, m2, m3, m4⟩ := cellsR_ok ds (n + 1) _ _ _ us L k1 (fun id h hd => by
      rcases hd with hd | rfl
      · exact hn id (by omega) hd
      · omega) h2
    obtain ⟨q1, q2⟩ := m2.old n (.inr rfl)
    exact ⟨β', dom', m1, k2.trans m2, by simp only [cellsR, vals, val, m3]; rw [q2, up_self], ⟨q1, m4⟩⟩
  | .b DD :: ds, n, fs, β, dom, vs, L, H, hn, ho => by
    obtain ⟨u, us, rfl, h1, h2⟩ := ho
    obtain ⟨k1, k2⟩ := H.addN n (hn n (Nat.le_refl _)) (.shr none (.b DD)) (fun _ => u) rfl (fun _ => h1.one) (fun _ _ _ => by show RdV ψ w _ _; rw [up_self]; exact h1)
    obtain ⟨β', dom', m1, m2, m3, m4⟩ := cellsR_ok ds (n + 1) _ _ _ us L k1 (fun id h hd => by
      rcases hd with hd | rfl
      · exact hn id (by omega) hd
      · omega) h2
    obtain ⟨q1, q2⟩ := m2.old n (.inr rfl)
    exact ⟨β', dom', m1, k2.trans m2, by simp only [cellsR, vals, val, m3]; rw [q2, up_self], ⟨q1, m4⟩⟩

theorem inA_ok (hψ : ∀ b, ψ b → b < w.heap.size) : ∀ (a : Arg) (n : Nat) (fs : Nat → Option Fact) (β : Nat → Nat → Value) (φ : Nat → List Nat) (dom : Nat → Prop) (v : Value) (f L : List Nat), RL P fs β φ dom ψ IN w0 w (f ++ L) → (∀ id, n ≤ id → ¬ dom id) → ArgOK P ψ w a v f →
    ∃ β' φ' dom', RL P (fupds fs (inA n a).2.1) β' φ' dom' ψ IN w0 w L ∧ Ext β β' dom dom' n (inA n a).2.2 ∧ val β' (inA n a).1 = v ∧ (inA n a).1.wf dom' := by
  intro a n fs β φ dom v f L H hn ho
  cases a with
  | r a =>
    obtain ⟨h1, rfl⟩ := ho
    cases a with
    | c d =>
      cases d with
      | v x =>
        obtain ⟨rfl, hx⟩ := h1
        exact ⟨β, φ, dom, H, Ext.refl _ _ _, rfl, trivial⟩
      | l sz enc xs =>
        obtain ⟨k1, k2⟩ := H.addN n (hn n (Nat.le_refl _)) (.shr none (.l sz enc xs)) (fun _ => v) rfl (fun _ => RdV.one h1) (fun _ _ _ => by show RdV ψ w _ _; rw [up_self]; exact h1)
        exact ⟨_, _, _, k1, k2, by simp only [inA, val, up_self], .inr rfl⟩
      | any =>
        obtain ⟨k1, k2⟩ := H.addN n (hn n (Nat.le_refl _)) (.shr none .any) (fun _ => v) rfl (fun _ => RdV.one h1) (fun _ _ _ => by show RdV ψ w _ _; rw [up_self]; exact h1)
        exact ⟨_, _, _, k1, k2, by simp only [inA, val, up_self], .inr rfl⟩
      | x XX =>
        obtain ⟨k1, k2⟩ := H.addN n (hn n (Nat.le_refl _)) (.shr none (.x XX)) (fun _ => v) rfl (fun _ => RdV.one h1) (fun _ _ _ => by show RdV ψ w _ _; rw [up_self]; exact h1)
        exact ⟨_, _, _, k1, k2, by simp only [inA, val, up_self], .inr rfl⟩
      | b DD =>
        obtain ⟨k1, k2⟩ := H.addN n (hn n (Nat.le_refl _)) (.shr none (.b DD)) (fun _ => v) rfl (fun _ => RdV.one h1) (fun _ _ _ => by show RdV ψ w _ _; rw [up_self]; exact h1)
        exact ⟨_, _, _, k1, k2, by simp only [inA, val, up_self], .inr rfl⟩
    | g ds =>
      obtain ⟨vs, rfl, h2⟩ := h1
      obtain ⟨β', dom', k1, k2, k3, k4⟩ := cellsR_ok ds n fs β dom vs L H hn h2
      exact ⟨β', φ, dom', k1, k2, by simp only [inA, val, k3], k4⟩
  | pt T ds ds' =>
    obtain ⟨b, vs, f2, rfl, e2, e3, rfl, e4⟩ := ho
    obtain ⟨β1, φ1, dom1, k1, k2, k3, k4⟩ := RL.box (L := L) H [] trivial rfl n (fun id h _ => hn id h) e2 e3
    exact ⟨β1, φ1, dom1, k1, k2, by simp only [inA, val, k3, padd, Nat.zero_add], k4⟩
  | vl x d =>
    obtain ⟨⟨rfl, h1⟩, rfl⟩ := ho
    obtain ⟨k1, k2⟩ := H.addN n (hn n (Nat.le_refl _)) (.vl v d) (fun _ => v) rfl (fun _ => RdV.one h1) (fun _ _ _ => by show up β n (fun _ => v) n 0 = v ∧ RdV ψ w d v; rw [up_self]; exact ⟨rfl, h1⟩)
    exact ⟨_, _, _, k1, k2, by simp only [inA, val, up_self], .inr rfl⟩
  | ptg gi T x d ds ds' =>
    obtain ⟨⟨b, vs, f2, rfl, e2, e3, rfl, e4⟩, h1⟩ := ho
    obtain ⟨k1, k2⟩ := H.addN n (hn n (Nat.le_refl _)) (.vl x d) (fun _ => x) rfl (fun _ => RdV.one h1) (fun _ _ _ => by show up β n (fun _ => x) n 0 = x ∧ RdV ψ w d x; rw [up_self]; exact ⟨rfl, h1⟩)
    obtain ⟨β1, φ1, dom1, m1, m2, m3, m4⟩ := RL.box (L := L) k1 [.h n 0] ⟨.inr rfl, trivial⟩ rfl (n + 1) (fun id h _ hd => by
      rcases k2.new id hd with h3 | h3
      · exact hn id (by omega) h3
      · omega) (by simp only [vals, val, up_self]; exact e2) e3
    exact ⟨β1, φ1, dom1, m1, k2.trans m2, by simp only [inA, val, m3, padd, Nat.zero_add], m4⟩
  | rp ds =>
    obtain ⟨⟨b, o, vs, rfl, e2, e3, e4⟩, rfl⟩ := ho
    let βn : Nat → Value := fun j => match j with
      | 0 => .pointer (some ⟨b, o, none⟩)
      | j + 1 => vs.getD j (.bool false)
    have hl := e4.len
    have hone : ∀ j, (βn j).oneCell' = true := by
      intro j
      cases j with
      | zero => rfl
      | succ j =>
        show (vs.getD j (.bool false)).oneCell' = true
        rw [List.getD_eq_getElem?_getD]
        cases hj : vs[j]? with
        | none => rfl
        | some v => exact List.all_eq_true.1 e4.one v (List.mem_of_getElem? hj)
    have hbv : bv (up β n βn) n ds.length = vs := by
      refine List.ext_getElem (by simp [bv, hl]) fun j h1 h2 => ?_
      simp [bv, up_self, βn, h2]
    obtain ⟨k1, k2⟩ := H.addN n (hn n (Nat.le_refl _)) (.mem none none ds) βn rfl hone (fun _ _ _ => ⟨b, o, by rw [up_self], e2, by rw [hbv]; exact e3, by rw [hbv]; exact e4⟩)
    exact ⟨_, _, _, k1, k2, by simp [inA, val, up_self, padd, βn], .inr rfl⟩
  | og ds ds' =>
    obtain ⟨vs, rfl, h2⟩ := ho
    obtain ⟨β1, φ1, dom1, k1, k2, k3, k4, k5⟩ := cellsB_ok ds n fs β φ dom vs f L H (fun id h h' => hn id h) h2
    exact ⟨β1, φ1, dom1, k1, k2, by simp only [inA, val, k3], k4⟩
  | ot ds =>
    obtain ⟨vs, rfl, h2⟩ := ho
    obtain ⟨β1, φ1, dom1, k1, k2, k3, k4, k5⟩ := cellsB_ok ds n fs β φ dom vs f L H (fun id h h' => hn id h) h2
    exact ⟨β1, φ1, dom1, k1, k2, by simp only [inA, val, k3], k4⟩
  | ow d d' =>
    obtain ⟨β1, φ1, dom1, k1, k2, k3, k4⟩ := H.own n (hn n (Nat.le_refl _)) ho
    exact ⟨β1, φ1, dom1, k1, k2, k3, k4⟩
  | fn F D =>
    obtain ⟨h1, rfl⟩ := ho
    have h1' := h1
    obtain ⟨g, cap, rfl, _⟩ := h1'
    obtain ⟨k1, k2⟩ := H.addN n (hn n (Nat.le_refl _)) (.fn F) (fun _ => .func (.func g) #[] cap) rfl (fun _ => rfl) (fun _ _ _ => by show FnOK false P ψ w F _; rw [up_self]; exact h1.weak)
    exact ⟨_, _, _, k1, k2, by simp only [inA, val, up_self], .inr rfl⟩

theorem inAs_ok (hψ : ∀ b, ψ b → b < w.heap.size) : ∀ (as : List Arg) (n : Nat) (fs : Nat → Option Fact) (β : Nat → Nat → Value) (φ : Nat → List Nat) (dom : Nat → Prop) (vs : List Value) (f L : List Nat), RL P fs β φ dom ψ IN w0 w (f ++ L) → (∀ id, n ≤ id → ¬ dom id) → ArgsOK P ψ w as vs f →
    ∃ β' φ' dom', RL P (fupds fs (inAs n as).2.1) β' φ' dom' ψ IN w0 w L ∧ Ext β β' dom dom' n (inAs n as).2.2 ∧ vals β' (inAs n as).1 = vs ∧ AVs.wf dom' (inAs n as).1
  | [], n, fs, β, φ, dom, vs, f, L, H, hn, ho => by
    obtain ⟨rfl, rfl⟩ := ho
    exact ⟨β, φ, dom, H, Ext.refl _ _ _, rfl, trivial⟩
  | a :: as, n, fs, β, φ, dom, vs, f, L, H, hn, ho => by
    obtain ⟨u, us, f1, g, rfl, h1, h2, rfl, h3⟩ := ho
    rw [List.append_assoc] at H
    obtain ⟨β1, φ1, dom1, k1, k2, k3, k4⟩ := inA_ok hψ a n fs β φ dom u f1 (g ++ L) H hn h1
    obtain ⟨β', φ', dom', m1, m2, m3, m4⟩ := inAs_ok hψ as (inA n a).2.2 _ β1 φ1 dom1 us g L k1 (fun id h hd => by
      rcases k2.new id hd with h3 | h3
      · exact hn id (Nat.le_trans k2.le h) h3
      · omega) h2
    refine ⟨β', φ', dom', by simp only [inAs]; rw [fupds_app]; exact m1, k2.trans m2, ?_, ⟨AV.wf_mono (fun id h => (m2.old id h).1) _ k4, m4⟩⟩
    simp only [inAs, vals, m3]
    rw [val_congr (dom := dom1) (fun id h => (m2.old id h).2) _ k4, k3]

theorem slotsFrom_at : ∀ (as : List AV) (i t : Nat) (av : AV), slG (slotsFrom i as) t = some av → i ≤ t ∧ as[t - i]? = some av
  | [], i, t, av, h => by cases h
  | a :: as, i, t, av, h => by
    simp only [slotsFrom, slG] at h
    cases hb : Nat.beq i t with
    | true =>
      rw [hb] at h
      simp only [cond_true, Option.some.injEq] at h
      have e := Nat.eq_of_beq_eq_true hb
      subst e; subst h
      exact ⟨Nat.le_refl _, by simp⟩
    | false =>
      rw [hb] at h
      obtain ⟨h1, h2⟩ := slotsFrom_at as (i + 1) t av h
      exact ⟨by omega, by rw [show t - i = (t - (i + 1)) + 1 by omega]; simpa using h2⟩

/-- the machine's knowledge at a function's beginning -/
theorem stIn_ok (D : Bool) {sp : Spec} {S : Nat → Prop} {w : World} {vs : List Value} {fp : List Nat} (hS : ∀ b, S b → b < w.heap.size ∧ b ∉ fp) (hG : GOK S w) (h : ArgsOK P S w sp.args vs fp) (hlt : ∀ b ∈ fp, b < w.heap.size) (hnd : fp.Nodup) {N : Nat} (hN : vs.length ≤ N) :
    Holds P N S (· ∈ fp) (atD D w) (stIn sp.args) { tmps := vs.toArray ++ Array.replicate (N - vs.toArray.size) undef, defers := [] } w := by
  have H0 : RL P (fun _ => none) (fun _ _ => .bool false) (fun _ => []) (fun _ => False) S (· ∈ fp) (atD D w) w (fp ++ []) := by
    refine ⟨⟨fun id f hf => (by cases hf), fun i j f g hf => (by cases hf), fun id f hf => (by cases hf), fun b hb => (hS b hb).1, fun _ _ => rfl, (Chg.of_below (Bel.refl _ _)).toD D, hG⟩, by simpa using hnd, fun b hb => ?_⟩
    have hb' : b ∈ fp := by simpa using hb
    exact ⟨hlt b hb', .inr hb', fun hp => (hS b hp).2 hb', fun id f hf => by cases hf⟩
  obtain ⟨β, φ, dom, k1, k2, k3, k4⟩ := inAs_ok (fun b hb => (hS b hb).1) sp.args 0 _ _ _ _ vs fp [] H0 (fun _ _ h => h) h
  refine ⟨β, φ, dom, ?_, rfl, fun t av ht => ?_, k1.rel.sub fun id f hf => ?_, fun id hid => ?_⟩
  · simp; omega
  · obtain ⟨_, h2⟩ := slotsFrom_at _ 0 t av ht
    rw [Nat.sub_zero] at h2
    have hv : vs[t]? = some (val β av) := by rw [← k3, vals_map, List.getElem?_map, h2]; rfl
    refine ⟨?_, AVs.wf_iff.1 k4 av (List.mem_of_getElem? h2)⟩
    have hlt := (List.getElem?_eq_some_iff.1 hv).1
    rw [Array.getElem?_append_left (by simpa using hlt)]
    simpa using hv
  · have e : fsG (stIn sp.args).fs id = (setsGet (inAs 0 sp.args).2.1 id).getD none := by
      have h3 := fsG_rev (fun o => o.2) [] id (inAs 0 sp.args).2.1
      simp only [List.append_nil] at h3
      have h4 : ((inAs 0 sp.args).2.1.map fun p => (p.1, p.2)) = (inAs 0 sp.args).2.1 := by simp
      rw [h4] at h3
      show fsG (inAs 0 sp.args).2.1.reverse id = _
      rw [h3]
      cases setsGet (inAs 0 sp.args).2.1 id <;> rfl
    rw [e] at hf
    rw [fupds_get]
    exact hf
  · rcases k2.new id hid with h | h
    · exact h.elim
    · exact h.2

end
end Go.Proofs.YtbhjkcicpobmhaaDoor
