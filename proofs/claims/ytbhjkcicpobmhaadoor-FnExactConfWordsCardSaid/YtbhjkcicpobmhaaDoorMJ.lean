/-
  The machine, nineteenth part: code.
-/
import Derived.Test.YtbhjkcicpobmhaaDoorMI
import Derived.Deep.LoopGhost
namespace Go.Proofs.YtbhjkcicpobmhaaDoor
open Go.RowKit
set_option linter.unusedVariables false
set_option linter.unusedSimpArgs false

/-- how code goes out -/
inductive Ex where
  | n
  | x (id : Nat)
  | r
def Ex.to : Ex → Exit
  | .n => .normal
  | .x id => .exit id
  | .r => .ret

/-- what is said of code, ahead of the reckoning: what operations are told; of a loop what holds at each round's head; where ways meet what holds there -/
inductive Cert (D : Bool) (P : Program) : Type 1 where
  | no
  | reg (hs : List (Nat × Hint D P))
  | seq (a b : Cert D P)
  | cond (a b : Cert D P)
  | condT (a : Cert D P)
  | condF (a : Cert D P)
  | blk (a : Cert D P)
  | loop {ι : Type} (Sf : ι → St) (I : ι → Prop) (μ : ι → Nat) (i0 : ι) (a : ι → Cert D P)
  | cut {ι : Type} (Sf : ι → St) (I : ι → Prop) (a : Cert D P) (b : ι → Cert D P)
  | seqk (ks : List (Nat × Nat)) (a b : Cert D P)
  | seqg (t gi g : Nat) (x : Value) (d : Dat) (a b : Cert D P)

/-- this state, as that one -/
def subP (s S : St) (K : Prop) : Prop := match subV s S with
  | some ps => ps.foldr And K
  | none => False

/-- the length of a slice: slot t; of an aggregate, its part j -/
def lenAt (s : St) (t j : Nat) : Option Nat := match slG s.sl t with
  | some a => (match datOf (fsG s.fs) (match a with | .ag cs => cs.getD j a | .p id off => (match cellsAt (fsG s.fs) id with | some cs => cs.getD (off + j) a | none => a) | _ => a) with
    | some (@Dat.l _ _ _ _ xs, _) => some xs.length
    | _ => none)
  | none => none
/-- slices are no longer than memory lets them be -/
def knw (s : St) : List (Nat × Nat) → Prop → Prop
  | [], K => K
  | (t, j) :: ks, K => match lenAt s t j with
    | some n => n ≤ 9223372036854775807 → knw s ks K
    | none => False

/-- a known value in a variable's first cell: it reads so (out of item gi) -/
def ghostS (s : St) (t gi g : Nat) (x : Value) (d : Dat) : Option (List Prop × St) := match slG s.sl t with
  | some (.p id 0) => (match fsG s.fs id, fsG s.fs gi with
    | some (.box T (.v x0 :: cs)), some (.vl x1 d1) => bif Nat.ble s.nx g then some ([x0 = x, GD x1 d1 x d], ⟨s.sl, (g, some (.vl x d)) :: (id, some (.box T (.h g 0 :: cs))) :: s.fs, g + 1⟩) else none
    | _, _ => none)
  | _ => none
/-- what is to be shown of code -/
def cwp {D : Bool} (P : Program) (N : Nat) : Code → Cert D P → St → (Ex → St → Prop) → Prop
  | .skip, _, s, Q => Q .n s
  | .ret, _, s, Q => Q .r s
  | .exit id, _, s, Q => Q (.x id) s
  | .region _ ops d, .reg hs, s, Q => match regSt P N s ops.toList d hs with
    | some (vcs, s') => vcs.foldr And (Q .n s')
    | none => False
  | .region _ ops d, .no, s, Q => match regSt P N s ops.toList d ([] : List (Nat × Hint D P)) with
    | some (vcs, s') => vcs.foldr And (Q .n s')
    | none => False
  | .seq a b, .seq ca cb, s, Q => cwp P N a ca s fun e s' => match e with
    | .n => cwp P N b cb s' Q
    | .x id => Q (.x id) s'
    | .r => Q .r s'
  | .seq a b, .seqk ks ca cb, s, Q => cwp P N a ca s fun e s' => match e with
    | .n => knw s' ks (cwp P N b cb s' Q)
    | .x id => Q (.x id) s'
    | .r => Q .r s'
  | .seq a b, .seqg t gi g x d ca cb, s, Q => cwp P N a ca s fun e s' => match e with
    | .n => (match ghostS s' t gi g x d with | some (ps, s2) => ps.foldr And (cwp P N b cb s2 Q) | none => False)
    | .x id => Q (.x id) s'
    | .r => Q .r s'
  | .seq a b, .cut Sf I ca cb, s, Q => (cwp P N a ca s fun e s' => match e with
    | .n => ∃ j, subP s' (Sf j) (I j)
    | .x id => Q (.x id) s'
    | .r => Q .r s') ∧ ∀ j, I j → cwp P N b (cb j) (Sf j) Q
  | .cond c a b, .cond ca cb, s, Q => match opA (slG s.sl) c with
    | some (.v (.bool B)) => (B = true → cwp P N a ca s Q) ∧ (B = false → cwp P N b cb s Q)
    | _ => False
  | .cond c a _, .condT ca, s, Q => match opA (slG s.sl) c with
    | some (.v (.bool B)) => B = true ∧ cwp P N a ca s Q
    | _ => False
  | .cond c _ b, .condF cb, s, Q => match opA (slG s.sl) c with
    | some (.v (.bool B)) => B = false ∧ cwp P N b cb s Q
    | _ => False
  | .block id c, .blk cc, s, Q => cwp P N c cc s fun e s' => match e with
    | .n => Q .n s'
    | .x id' => bif Nat.beq id' id then Q .n s' else Q (.x id') s'
    | .r => Q .r s'
  | .loop c, .loop Sf I μ i0 cc, s, Q => subP s (Sf i0) (I i0) ∧ ∀ i, I i → cwp P N c (cc i) (Sf i) fun e s' => match e with
    | .n => ∃ j, subP s' (Sf j) (I j ∧ μ j < μ i)
    | .x id => Q (.x id) s'
    | .r => Q .r s'
  | _, _, _, _ => False

theorem foldr_and {ps : List Prop} {K : Prop} (h : ps.foldr And K) : AllP ps ∧ K := by
  induction ps with
  | nil => exact ⟨trivial, h⟩
  | cons p ps ih => exact ⟨⟨h.1, (ih h.2).1⟩, (ih h.2).2⟩

section
variable {D : Bool} {P : Program} {N : Nat} {ψ IN : Nat → Prop} {w0 : World}

theorem subP_ok {s S : St} {K : Prop} (h : subP s S K) {a : Act} {w : World} (H : Holds P N ψ IN w0 s a w) : Holds P N ψ IN w0 S a w ∧ K := by
  unfold subP at h
  split at h
  · rename_i ps hp
    obtain ⟨h1, h2⟩ := foldr_and h
    exact ⟨subV_ok hp h1 H, h2⟩
  · exact h.elim

theorem opA_holds {s : St} {c : Operand} {av : AV} (h : opA (slG s.sl) c = some av) {a : Act} {w : World} {β : Nat → Nat → Value} {φ : Nat → List Nat} {dom : Nat → Prop} (V : StOK P N ψ IN w0 s a w β φ dom) : a.eval c = val β av := by
  cases c with
  | tmp t => have := (V.has t av h).1; simp [Act.eval, this]
  | const v => simp only [opA, Option.some.injEq] at h; subst h; rfl
  | func f => simp only [opA, Option.some.injEq] at h; subst h; rfl
  | global g => simp [opA] at h

theorem lenAt_ok {s : St} {t j n : Nat} (h : lenAt s t j = some n) {a : Act} {w : World} (H : Holds P N ψ IN w0 s a w) : n ≤ 9223372036854775807 := by
  obtain ⟨β, φ, dom, V⟩ := H
  unfold lenAt at h
  split at h
  · split at h
    · rename_i hd
      simp only [Option.some.injEq] at h
      subst h
      obtain ⟨k1, _⟩ := datOf_ok V.rel (fun _ _ h => h) hd
      obtain ⟨_, _, _, _, h3, _⟩ := k1
      exact h3
    · cases h
  · cases h
theorem knw_ok {s : St} {K : Prop} : ∀ {ks : List (Nat × Nat)}, knw s ks K → ∀ {a : Act} {w : World}, Holds P N ψ IN w0 s a w → K
  | [], h, _, _, _ => h
  | (t, j) :: ks, h, a, w, H => by
    simp only [knw] at h
    split at h
    · rename_i n hn
      exact knw_ok (h (lenAt_ok hn H)) H
    · exact h.elim

theorem ghostS_ok {s s2 : St} {t gi g : Nat} {x : Value} {d : Dat} {ps : List Prop} (h : ghostS s t gi g x d = some (ps, s2)) (hv : AllP ps) {a : Act} {w : World} (H : Holds P N ψ IN w0 s a w) : Holds P N ψ IN w0 s2 a w := by
  obtain ⟨β, φ, dom, V⟩ := H
  unfold ghostS at h
  split at h
  · rename_i id hid
    split at h
    · rename_i T x0 cs x1 d1 hb hg
      cases hge : Nat.ble s.nx g with
      | false => rw [hge] at h; cases h
      | true =>
      rw [hge] at h
      cases h
      have hge := Nat.le_of_ble_eq_true hge
      obtain ⟨rfl, hgd, _⟩ := hv
      obtain ⟨hd1, ⟨hw, hone⟩, b, e1, e2, e3⟩ := V.rel.ok id _ hb
      obtain ⟨hd2, m1, m2⟩ := V.rel.ok gi _ hg
      have hr := hgd ψ w m2
      have hn : ¬ dom g := fun h => by have := V.bound _ h; omega
      have hne : id ≠ g := fun e => hn (e ▸ hd1)
      have hvc : vals (up β g fun _ => x0) cs = vals β cs := vals_congr (β := β) (dom := dom) (fun i hi => up_ne _ _ _ (fun e : i = g => hn (e ▸ hi))) _ hw.2
      refine ⟨up β g (fun _ => x0), φ, fun i => dom i ∨ i = g, V.size, V.defers, fun t' av ht => ?_, ?_, fun i hi => ?_⟩
      · obtain ⟨k1, k2⟩ := V.has t' av ht
        refine ⟨?_, AV.wf_mono (fun _ h => .inl h) _ k2⟩
        rw [val_congr (β := β) (dom := dom) (fun i hi => up_ne _ _ _ (fun e : i = g => hn (e ▸ hi))) _ k2]
        exact k1
      · have hlk : ∀ i f, fsG ((g, some (.vl x0 d)) :: (id, some (.box T (.h g 0 :: cs))) :: s.fs) i = some f → (i = g ∧ f = .vl x0 d) ∨ (i = id ∧ f = .box T (.h g 0 :: cs)) ∨ (i ≠ g ∧ i ≠ id ∧ fsG s.fs i = some f) := by
          intro i f hf
          simp only [fsG] at hf
          cases h1 : Nat.beq g i with
          | true =>
            rw [h1] at hf
            simp only [cond_true, Option.some.injEq] at hf
            exact .inl ⟨(Nat.eq_of_beq_eq_true h1).symm, hf.symm⟩
          | false =>
            rw [h1] at hf
            simp only [cond_false] at hf
            have n1 : i ≠ g := fun e => by rw [e] at h1; simp at h1
            cases h2 : Nat.beq id i with
            | true =>
              rw [h2] at hf
              simp only [cond_true, Option.some.injEq] at hf
              exact .inr (.inl ⟨(Nat.eq_of_beq_eq_true h2).symm, hf.symm⟩)
            | false =>
              rw [h2] at hf
              exact .inr (.inr ⟨n1, fun e => by rw [e] at h2; simp at h2, by simpa using hf⟩)
        refine V.rel.step (NN := fun i => i = g ∨ i = id) (C := fun _ => False) (Chg.of_below (Bel.refl _ _)) (fun i h => ⟨.inl h, up_ne _ _ _ fun e => hn (e ▸ h)⟩) (up_all1 V.rel.all1 _ fun _ => hr.one) (fun i f hf => ?_) (fun _ _ => rfl) (fun _ _ h => h.elim) (fun i f hi hf => ?_) (fun i V' d' hi hf => ?_) (fun i f hi hf hm b' hb' => ?_) (fun i j f f2 hi hj hf hg' hmf hmg hij => ?_)
        · rcases hlk i f hf with ⟨h, _⟩ | ⟨h, _⟩ | ⟨_, _, h⟩
          · exact .inl (.inl h)
          · exact .inl (.inr h)
          · exact .inr h
        · rcases hlk i f hf with ⟨rfl, rfl⟩ | ⟨rfl, rfl⟩ | ⟨h1, h2, _⟩
          · exact ⟨.inr rfl, by show up β i _ i 0 = x0 ∧ RdV ψ w d x0; rw [up_self]; exact ⟨rfl, hr⟩⟩
          · refine ⟨.inl hd1, ⟨⟨.inr rfl, AVs.wf_mono (fun _ h => .inl h) _ hw.2⟩, ?_⟩, b, by rw [up_ne _ _ _ hne]; exact e1, ?_, e3⟩
            · simp only [List.all_cons, Bool.and_eq_true] at hone ⊢
              exact ⟨rfl, hone.2⟩
            · simp only [vals, val, up_self, hvc]
              simpa only [vals, val] using e2
          · rcases hi with h | h
            · exact absurd h h1
            · exact absurd h h2
        · rcases hlk i _ hf with ⟨_, h⟩ | ⟨_, h⟩ | ⟨h1, h2, _⟩
          · cases h
          · cases h
          · rcases hi with h | h
            · exact absurd h h1
            · exact absurd h h2
        · rcases hlk i f hf with ⟨_, rfl⟩ | ⟨rfl, rfl⟩ | ⟨h1, h2, _⟩
          · cases hm
          · exact ⟨(V.rel.lt i _ hb rfl b' hb').1, .inr ⟨i, _, .inr rfl, hb, rfl, hb'⟩⟩
          · rcases hi with h | h
            · exact absurd h h1
            · exact absurd h h2
        · rcases hlk i f hf with ⟨_, rfl⟩ | ⟨e1', rfl⟩ | ⟨h1, h2, _⟩
          · cases hmf
          · rcases hlk j f2 hg' with ⟨_, rfl⟩ | ⟨e2', rfl⟩ | ⟨h1, h2, _⟩
            · cases hmg
            · exact absurd (e1'.trans e2'.symm) hij
            · rcases hj with h | h
              · exact absurd h h1
              · exact absurd h h2
          · rcases hi with h | h
            · exact absurd h h1
            · exact absurd h h2
      · rcases hi with h | h
        · have := V.bound i h; show i < g + 1; omega
        · show i < g + 1; omega
    · cases h
  · cases h

/-- nothing is put into these slots -/
def parC (n : List Nat) : Code → Bool
  | .region _ ops _ => parL n ops.toList
  | .seq a b => parC n a && parC n b
  | .cond _ a b => parC n a && parC n b
  | .block _ a => parC n a
  | .loop a => parC n a
  | _ => true

theorem Par.trans {n : List Nat} {a b c : Act} (h : Par n a b) (h' : Par n b c) : Par n a c := fun t ht => (h' t ht).trans (h t ht)

theorem cwp_reg (hD : D = false → w0.drawn = 0) (hm : P.follows .mixedOrders = true) {id : Nat} {ops : Array Oper} {d : Bool} {hs : List (Nat × Hint D P)} {s : St} {Q : Ex → St → Prop} (h : match regSt P N s ops.toList d hs with
    | some (vcs, s') => vcs.foldr And (Q .n s')
    | none => False) {a : Act} {w : World} (H : Holds P N ψ IN w0 s a w) {Qm : Exit → Act → World → Prop} {n : List Nat} (hpar : parL n ops.toList = true) (hQ : ∀ s' a' w', Q .n s' → Holds P N ψ IN w0 s' a' w' → Par n a a' → Qm .normal a' w') : (Code.region id ops d).wp P Qm a w := by
  split at h
  · rename_i vcs s' hr
    obtain ⟨h1, h2⟩ := foldr_and h
    have := regSt_ok (id := id) hD hm hr h1 H (Q := Qm) hpar fun a' w' H' hp => hQ s' a' w' h2 H' hp
    simpa using this
  · exact h.elim

/-- **CODE.** -/
theorem cwp_ok (hD : D = false → w0.drawn = 0) (hm : P.follows .mixedOrders = true) {n : List Nat} (a0 : Act) : ∀ (c : Code) (ct : Cert D P) (s : St) (Q : Ex → St → Prop), parC n c = true → cwp P N c ct s Q → ∀ (a : Act) (w : World), Holds P N ψ IN w0 s a w → Par n a0 a → ∀ (Qm : Exit → Act → World → Prop), (∀ e s' a' w', Q e s' → Holds P N ψ IN w0 s' a' w' → Par n a0 a' → Qm e.to a' w') → c.wp P Qm a w
  | .skip, ct, s, Q, hc, h, a, w, H, hp, Qm, hQ => wp_skip (hQ .n s a w (by cases ct <;> exact h) H hp)
  | .ret, ct, s, Q, hc, h, a, w, H, hp, Qm, hQ => wp_ret (hQ .r s a w (by cases ct <;> exact h) H hp)
  | .exit id, ct, s, Q, hc, h, a, w, H, hp, Qm, hQ => wp_exit (hQ (.x id) s a w (by cases ct <;> exact h) H hp)
  | .region id ops d, ct, s, Q, hc, h, a, w, H, hp, Qm, hQ => by
    cases ct with
    | reg hs => exact cwp_reg hD hm h H hc fun s' a' w' h1 h2 h3 => hQ .n s' a' w' h1 h2 (hp.trans h3)
    | no => exact cwp_reg hD hm h H hc fun s' a' w' h1 h2 h3 => hQ .n s' a' w' h1 h2 (hp.trans h3)
    | _ => simp [cwp] at h
  | .seq x y, ct, s, Q, hc, h, a, w, H, hp, Qm, hQ => by
    simp only [parC, Bool.and_eq_true] at hc
    cases ct with
    | seq cx cy =>
      refine wp_seq (cwp_ok hD hm a0 x cx s _ hc.1 h a w H hp _ fun e s' a' w' h1 h2 h3 => ?_)
      cases e with
      | n => exact cwp_ok hD hm a0 y cy s' Q hc.2 h1 a' w' h2 h3 Qm hQ
      | x id => exact hQ _ _ _ _ h1 h2 h3
      | r => exact hQ _ _ _ _ h1 h2 h3
    | seqk ks cx cy =>
      refine wp_seq (cwp_ok hD hm a0 x cx s _ hc.1 h a w H hp _ fun e s' a' w' h1 h2 h3 => ?_)
      cases e with
      | n => exact cwp_ok hD hm a0 y cy s' Q hc.2 (knw_ok h1 h2) a' w' h2 h3 Qm hQ
      | x id => exact hQ _ _ _ _ h1 h2 h3
      | r => exact hQ _ _ _ _ h1 h2 h3
    | seqg t gi g x d cx cy =>
      refine wp_seq (cwp_ok hD hm a0 _ cx s _ hc.1 h a w H hp _ fun e s' a' w' h1 h2 h3 => ?_)
      cases e with
      | n =>
        simp only at h1
        split at h1
        · rename_i ps s2 hs2
          obtain ⟨q1, q2⟩ := foldr_and h1
          exact cwp_ok hD hm a0 _ cy s2 Q hc.2 q2 a' w' (ghostS_ok hs2 q1 h2) h3 Qm hQ
        · exact h1.elim
      | x id => exact hQ _ _ _ _ h1 h2 h3
      | r => exact hQ _ _ _ _ h1 h2 h3
    | cut Sf I cx cy =>
      obtain ⟨h, h'⟩ := h
      refine wp_seq (cwp_ok hD hm a0 x cx s _ hc.1 h a w H hp _ fun e s' a' w' h1 h2 h6 => ?_)
      cases e with
      | n =>
        obtain ⟨j, h3⟩ := h1
        obtain ⟨h4, h5⟩ := subP_ok h3 h2
        exact cwp_ok hD hm a0 y (cy j) (Sf j) Q hc.2 (h' j h5) a' w' h4 h6 Qm hQ
      | x id => exact hQ _ _ _ _ h1 h2 h6
      | r => exact hQ _ _ _ _ h1 h2 h6
    | _ => simp [cwp] at h
  | .cond c x y, ct, s, Q, hc, h, a, w, H, hp, Qm, hQ => by
    simp only [parC, Bool.and_eq_true] at hc
    cases ct with
    | cond cx cy =>
      simp only [cwp] at h
      split at h
      · rename_i B hB
        have hev : a.eval c = .bool B := by
          obtain ⟨β, φ, dom, V⟩ := H
          exact opA_holds hB V
        exact wp_cond_split hev (fun hb => cwp_ok hD hm a0 x cx s Q hc.1 (h.1 hb) a w H hp Qm hQ) (fun hb => cwp_ok hD hm a0 y cy s Q hc.2 (h.2 hb) a w H hp Qm hQ)
      · exact h.elim
    | condT cx =>
      simp only [cwp] at h
      split at h
      · rename_i B hB
        have hev : a.eval c = .bool B := by
          obtain ⟨β, φ, dom, V⟩ := H
          exact opA_holds hB V
        exact wp_cond_split hev (fun hb => cwp_ok hD hm a0 x cx s Q hc.1 h.2 a w H hp Qm hQ) (fun hb => by rw [h.1] at hb; cases hb)
      · exact h.elim
    | condF cy =>
      simp only [cwp] at h
      split at h
      · rename_i B hB
        have hev : a.eval c = .bool B := by
          obtain ⟨β, φ, dom, V⟩ := H
          exact opA_holds hB V
        exact wp_cond_split hev (fun hb => by rw [h.1] at hb; cases hb) (fun hb => cwp_ok hD hm a0 y cy s Q hc.2 h.2 a w H hp Qm hQ)
      · exact h.elim
    | _ => simp [cwp] at h
  | .block id c, ct, s, Q, hc, h, a, w, H, hp, Qm, hQ => by
    cases ct with
    | blk cc =>
      refine wp_block (cwp_ok hD hm a0 c cc s _ hc h a w H hp _ fun e s' a' w' h1 h2 h3 => ?_)
      cases e with
      | n => exact hQ .n s' a' w' h1 h2 h3
      | x id' =>
        simp only at h1
        cases hb : Nat.beq id' id with
        | true =>
          rw [hb] at h1
          have e := Nat.eq_of_beq_eq_true hb
          subst e
          simp only [Ex.to, Exit.inBlock, if_true]
          exact hQ .n s' a' w' h1 h2 h3
        | false =>
          rw [hb] at h1
          have hne : id' ≠ id := fun e => by rw [e] at hb; simp at hb
          simp only [Ex.to, Exit.inBlock, if_neg hne]
          exact hQ (.x id') s' a' w' h1 h2 h3
      | r => exact hQ .r s' a' w' h1 h2 h3
    | _ => simp [cwp] at h
  | .loop c, ct, s, Q, hc, h, a, w, H, hp, Qm, hQ => by
    cases ct with
    | loop Sf I μ i0 cc =>
      obtain ⟨h, h'⟩ := h
      obtain ⟨h1, h2⟩ := subP_ok h H
      refine wp_loop_ghost (fun n' a w => ∃ i, μ i = n' ∧ Holds P N ψ IN w0 (Sf i) a w ∧ I i ∧ Par n a0 a) (μ i0) ⟨i0, rfl, h1, h2, hp⟩ ?_
      rintro n' a w ⟨i, rfl, hf, hI, hp⟩
      refine Code.wp_mono ?_ (cwp_ok hD hm a0 c (cc i) (Sf i) _ hc (h' i hI) a w hf hp (Exit.then (fun a' w' => ∃ j, Holds P N ψ IN w0 (Sf j) a' w' ∧ I j ∧ μ j < μ i ∧ Par n a0 a') Qm) fun e s' a' w' h1 h2 h7 => ?_)
      · intro e a' w' hq
        cases e with
        | normal => obtain ⟨j, h1, h2, h3, h4⟩ := hq; exact ⟨μ j, h3, j, rfl, h1, h2, h4⟩
        | exit id => exact hq
        | goto l => exact hq
        | ret => exact hq
        | panic ch => exact hq
        | outgrown => exact hq
      · cases e with
        | n =>
          obtain ⟨j, h3⟩ := h1
          obtain ⟨h4, h5, h6⟩ := subP_ok h3 h2
          exact ⟨j, h4, h5, h6, h7⟩
        | x id => exact hQ _ _ _ _ h1 h2 h7
        | r => exact hQ _ _ _ _ h1 h2 h7
    | _ => simp [cwp] at h
  | .scope _, ct, s, Q, hc, h, a, w, H, hp, Qm, hQ => by cases ct <;> simp [cwp] at h
  | .label _, ct, s, Q, hc, h, a, w, H, hp, Qm, hQ => by cases ct <;> simp [cwp] at h
  | .goto _, ct, s, Q, hc, h, a, w, H, hp, Qm, hQ => by cases ct <;> simp [cwp] at h
  | .refuse _, ct, s, Q, hc, h, a, w, H, hp, Qm, hQ => by cases ct <;> simp [cwp] at h
  | .rangeFunc .., ct, s, Q, hc, h, a, w, H, hp, Qm, hQ => by cases ct <;> simp [cwp] at h

end
end Go.Proofs.YtbhjkcicpobmhaaDoor
