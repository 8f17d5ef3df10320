/- Texts put together: MJ, MK, ML, MN, K3, MQ, CF, MR, MS, MT, MY, MP, MX, LY, DEC, VC0, PS1, VC1, PS2; then what leads to it. -/
import Derived.Deep.LoopGhost
import Derived.ProofKit
import Derived.Test.YtmjamlboilmbfaaGreatDoorRows
import Derived.Shelf.Strings.Cut
import Derived.Shelf.Strings.Split
import Derived.Shelf.Strings.OnBuilder
import Derived.Shelf.Slices.In.SortAlone
import Derived.Shelf.Slices.In.SortNone
import Derived.Sort.EveryDepth
import Derived.Shelf.LaysM
import Derived.Shelf.Strconv.AtoiAll
import Derived.Shelf.Strconv.Itoa3
import Derived.WalkKit
import Derived.BigCall
import Derived.BigGuard
import Derived.Lib.Walk
import Derived.Lib.Hide
import Derived.Lib.IndexBytes
import Derived.Lib.SplitLaws
import Derived.Lib.CutLaws
import Derived.Test.YtmjamlboilmbfaaGreatDoorZC34B
namespace Go.Proofs.YtmjamlboilmbfaaGreatDoor
open Go.RowKit
set_option linter.unusedVariables false
set_option linter.unusedSimpArgs false
inductive Ex where
  | n
  | x (id : Nat)
  | r
def Ex.to : Ex → Exit
  | .n => .normal
  | .x id => .exit id
  | .r => .ret
inductive Cert (D : Bool) (P : Program) : Type 1 where
  | no
  | reg (hs : List (Nat × Hint D P))
  | seq (a b : Cert D P)
  | cond (a b : Cert D P)
  | condT (a : Cert D P)
  | condF (a : Cert D P)
  | blk (a : Cert D P)
  | loop {ι : Type} (Sf : ι → St) (I : ι → Prop) (μ : ι → Nat) (i0 : ι) (a : ι → Cert D P)
  | cut {ι : Type} (Sf : ι → St) (I : ι → Prop) (a : Cert D P) (b : ι → Cert D P)
  | seqk (ks : List (Nat × Nat)) (a b : Cert D P)
  | seqg (t gi g : Nat) (x : Value) (d : Dat) (a b : Cert D P)
  | hnd {ι κ : Type} (S1 : ι → St) (I1 : ι → Prop) (S2 : κ → St) (I2 : κ → Prop) (a : Cert D P) (b : κ → Cert D P)
def subP (s S : St) (K : Prop) : Prop := match subV s S with
  | some ps => ps.foldr And K
  | none => False
def lenAt (s : St) (t j : Nat) : Option Nat := match slG s.sl t with
  | some a => (match datOf (fsG s.fs) (match a with | .ag cs => cs.getD j a | .p id off => (match cellsAt (fsG s.fs) id with | some cs => cs.getD (off + j) a | none => a) | _ => a) with
    | some (@Dat.l _ _ _ _ xs, _) => some xs.length
    | _ => none)
  | none => none
def knw (s : St) : List (Nat × Nat) → Prop → Prop
  | [], K => K
  | (t, j) :: ks, K => match lenAt s t j with
    | some n => n ≤ 9223372036854775807 → knw s ks K
    | none => False
def ghostS (s : St) (t gi g : Nat) (x : Value) (d : Dat) : Option (List Prop × St) := match slG s.sl t with
  | some (.p id 0) => (match fsG s.fs id, fsG s.fs gi with
    | some (.box T (.v x0 :: cs)), some (.vl x1 d1) => bif Nat.ble s.nx g then some ([x0 = x, GD x1 d1 x d], ⟨s.sl, (g, some (.vl x d)) :: (id, some (.box T (.h g 0 :: cs))) :: s.fs, g + 1⟩) else none
    | _, _ => none)
  | _ => none
def HandOK (P : Program) (N : Nat) {ι κ : Type} (S1 : ι → St) (I1 : ι → Prop) (S2 : κ → St) (I2 : κ → Prop) : Prop :=
  ∀ (ψ IN : Nat → Prop) (w0 w : World) (a : Act) (i : ι), I1 i → Holds P N ψ IN w0 (S1 i) a w → ∃ j, I2 j ∧ Holds P N ψ IN w0 (S2 j) a w
def cwp {D : Bool} (P : Program) (N : Nat) : Code → Cert D P → St → (Ex → St → Prop) → Prop
  | .skip, _, s, Q => Q .n s
  | .ret, _, s, Q => Q .r s
  | .exit id, _, s, Q => Q (.x id) s
  | .region _ ops d, .reg hs, s, Q => match regSt P N s ops.toList d hs with
    | some (vcs, s') => vcs.foldr And (Q .n s')
    | none => False
  | .region _ ops d, .no, s, Q => match regSt P N s ops.toList d ([] : List (Nat × Hint D P)) with
    | some (vcs, s') => vcs.foldr And (Q .n s')
    | none => False
  | .seq a b, .seq ca cb, s, Q => cwp P N a ca s fun e s' => match e with
    | .n => cwp P N b cb s' Q
    | .x id => Q (.x id) s'
    | .r => Q .r s'
  | .seq a b, .seqk ks ca cb, s, Q => cwp P N a ca s fun e s' => match e with
    | .n => knw s' ks (cwp P N b cb s' Q)
    | .x id => Q (.x id) s'
    | .r => Q .r s'
  | .seq a b, .seqg t gi g x d ca cb, s, Q => cwp P N a ca s fun e s' => match e with
    | .n => (match ghostS s' t gi g x d with | some (ps, s2) => ps.foldr And (cwp P N b cb s2 Q) | none => False)
    | .x id => Q (.x id) s'
    | .r => Q .r s'
  | .seq a b, .cut Sf I ca cb, s, Q => (cwp P N a ca s fun e s' => match e with
    | .n => ∃ j, subP s' (Sf j) (I j)
    | .x id => Q (.x id) s'
    | .r => Q .r s') ∧ ∀ j, I j → cwp P N b (cb j) (Sf j) Q
  | .seq a b, .hnd S1 I1 S2 I2 ca cb, s, Q => (cwp P N a ca s fun e s' => match e with
    | .n => ∃ j, subP s' (S1 j) (I1 j)
    | .x id => Q (.x id) s'
    | .r => Q .r s') ∧ HandOK P N S1 I1 S2 I2 ∧ ∀ j, I2 j → cwp P N b (cb j) (S2 j) Q
  | .cond c a b, .cond ca cb, s, Q => match opA (slG s.sl) c with
    | some (.v (.bool B)) => (B = true → cwp P N a ca s Q) ∧ (B = false → cwp P N b cb s Q)
    | _ => False
  | .cond c a _, .condT ca, s, Q => match opA (slG s.sl) c with
    | some (.v (.bool B)) => B = true ∧ cwp P N a ca s Q
    | _ => False
  | .cond c _ b, .condF cb, s, Q => match opA (slG s.sl) c with
    | some (.v (.bool B)) => B = false ∧ cwp P N b cb s Q
    | _ => False
  | .block id c, .blk cc, s, Q => cwp P N c cc s fun e s' => match e with
    | .n => Q .n s'
    | .x id' => bif Nat.beq id' id then Q .n s' else Q (.x id') s'
    | .r => Q .r s'
  | .loop c, .loop Sf I μ i0 cc, s, Q => subP s (Sf i0) (I i0) ∧ ∀ i, I i → cwp P N c (cc i) (Sf i) fun e s' => match e with
    | .n => ∃ j, subP s' (Sf j) (I j ∧ μ j < μ i)
    | .x id => Q (.x id) s'
    | .r => Q .r s'
  | _, _, _, _ => False
theorem foldr_and {ps : List Prop} {K : Prop} (h : ps.foldr And K) : AllP ps ∧ K := by
  induction ps with
  | nil => exact ⟨trivial, h⟩
  | cons p ps ih => exact ⟨⟨h.1, (ih h.2).1⟩, (ih h.2).2⟩
section
variable {D : Bool} {P : Program} {N : Nat} {ψ IN : Nat → Prop} {w0 : World}
theorem subP_ok {s S : St} {K : Prop} (h : subP s S K) {a : Act} {w : World} (H : Holds P N ψ IN w0 s a w) : Holds P N ψ IN w0 S a w ∧ K := by
  unfold subP at h
  split at h
  · rename_i ps hp
    obtain ⟨h1, h2⟩ := foldr_and h
    exact ⟨subV_ok hp h1 H, h2⟩
  · exact h.elim
theorem opA_holds {s : St} {c : Operand} {av : AV} (h : opA (slG s.sl) c = some av) {a : Act} {w : World} {β : Nat → Nat → Value} {φ : Nat → List Nat} {dom : Nat → Prop} (V : StOK P N ψ IN w0 s a w β φ dom) : a.eval c = val β av := by
  cases c with
  | tmp t => have := (V.has t av h).1; simp [Act.eval, this]
  | const v => simp only [opA, Option.some.injEq] at h; subst h; rfl
  | func f => simp only [opA, Option.some.injEq] at h; subst h; rfl
  | global g => simp [opA] at h
theorem lenAt_ok {s : St} {t j n : Nat} (h : lenAt s t j = some n) {a : Act} {w : World} (H : Holds P N ψ IN w0 s a w) : n ≤ 9223372036854775807 := by
  obtain ⟨β, φ, dom, V⟩ := H
  unfold lenAt at h
  split at h
  · split at h
    · rename_i hd
      simp only [Option.some.injEq] at h
      subst h
      obtain ⟨k1, _⟩ := datOf_ok V.rel (fun _ _ h => h) hd
      obtain ⟨_, _, _, _, h3, _⟩ := k1
      exact h3
    · cases h
  · cases h
theorem knw_ok {s : St} {K : Prop} : ∀ {ks : List (Nat × Nat)}, knw s ks K → ∀ {a : Act} {w : World}, Holds P N ψ IN w0 s a w → K
  | [], h, _, _, _ => h
  | (t, j) :: ks, h, a, w, H => by
    simp only [knw] at h
    split at h
    · rename_i n hn
      exact knw_ok (h (lenAt_ok hn H)) H
    · exact h.elim
theorem ghostS_ok {s s2 : St} {t gi g : Nat} {x : Value} {d : Dat} {ps : List Prop} (h : ghostS s t gi g x d = some (ps, s2)) (hv : AllP ps) {a : Act} {w : World} (H : Holds P N ψ IN w0 s a w) : Holds P N ψ IN w0 s2 a w := by
  obtain ⟨β, φ, dom, V⟩ := H
  unfold ghostS at h
  split at h
  · rename_i id hid
    split at h
    · rename_i T x0 cs x1 d1 hb hg
      cases hge : Nat.ble s.nx g with
      | false => rw [hge] at h; cases h
      | true =>
      rw [hge] at h
      cases h
      have hge := Nat.le_of_ble_eq_true hge
      obtain ⟨rfl, hgd, _⟩ := hv
      obtain ⟨hd1, ⟨hw, hone⟩, b, e1, e2, e3⟩ := V.rel.ok id _ hb
      obtain ⟨hd2, m1, m2⟩ := V.rel.ok gi _ hg
      have hr := hgd ψ w m2
      have hn : ¬ dom g := fun h => by have := V.bound _ h; omega
      have hne : id ≠ g := fun e => hn (e ▸ hd1)
      have hvc : vals (up β g fun _ => x0) cs = vals β cs := vals_congr (β := β) (dom := dom) (fun i hi => up_ne _ _ _ (fun e : i = g => hn (e ▸ hi))) _ hw.2
      refine ⟨up β g (fun _ => x0), φ, fun i => dom i ∨ i = g, V.size, V.defers, fun t' av ht => ?_, ?_, fun i hi => ?_⟩
      · obtain ⟨k1, k2⟩ := V.has t' av ht
        refine ⟨?_, AV.wf_mono (fun _ h => .inl h) _ k2⟩
        rw [val_congr (β := β) (dom := dom) (fun i hi => up_ne _ _ _ (fun e : i = g => hn (e ▸ hi))) _ k2]
        exact k1
      · have hlk : ∀ i f, fsG ((g, some (.vl x0 d)) :: (id, some (.box T (.h g 0 :: cs))) :: s.fs) i = some f → (i = g ∧ f = .vl x0 d) ∨ (i = id ∧ f = .box T (.h g 0 :: cs)) ∨ (i ≠ g ∧ i ≠ id ∧ fsG s.fs i = some f) := by
          intro i f hf
          simp only [fsG] at hf
          cases h1 : Nat.beq g i with
          | true =>
            rw [h1] at hf
            simp only [cond_true, Option.some.injEq] at hf
            exact .inl ⟨(Nat.eq_of_beq_eq_true h1).symm, hf.symm⟩
          | false =>
            rw [h1] at hf
            simp only [cond_false] at hf
            have n1 : i ≠ g := fun e => by rw [e] at h1; simp at h1
            cases h2 : Nat.beq id i with
            | true =>
              rw [h2] at hf
              simp only [cond_true, Option.some.injEq] at hf
              exact .inr (.inl ⟨(Nat.eq_of_beq_eq_true h2).symm, hf.symm⟩)
            | false =>
              rw [h2] at hf
              exact .inr (.inr ⟨n1, fun e => by rw [e] at h2; simp at h2, by simpa using hf⟩)
        refine V.rel.step (NN := fun i => i = g ∨ i = id) (C := fun _ => False) (Chg.of_below (Bel.refl _ _)) (fun i h => ⟨.inl h, up_ne _ _ _ fun e => hn (e ▸ h)⟩) (up_all1 V.rel.all1 _ fun _ => hr.one) (fun i f hf => ?_) (fun _ _ => rfl) (fun _ _ h => h.elim) (fun i f hi hf => ?_) (fun i V' d' hi hf => ?_) (fun i f hi hf hm b' hb' => ?_) (fun i j f f2 hi hj hf hg' hmf hmg hij => ?_)
        · rcases hlk i f hf with ⟨h, _⟩ | ⟨h, _⟩ | ⟨_, _, h⟩
          · exact .inl (.inl h)
          · exact .inl (.inr h)
          · exact .inr h
        · rcases hlk i f hf with ⟨rfl, rfl⟩ | ⟨rfl, rfl⟩ | ⟨h1, h2, _⟩
          · exact ⟨.inr rfl, by show up β i _ i 0 = x0 ∧ RdV ψ w d x0; rw [up_self]; exact ⟨rfl, hr⟩⟩
          · refine ⟨.inl hd1, ⟨⟨.inr rfl, AVs.wf_mono (fun _ h => .inl h) _ hw.2⟩, ?_⟩, b, by rw [up_ne _ _ _ hne]; exact e1, ?_, e3⟩
            · simp only [List.all_cons, Bool.and_eq_true] at hone ⊢
              exact ⟨rfl, hone.2⟩
            · simp only [vals, val, up_self, hvc]
              simpa only [vals, val] using e2
          · rcases hi with h | h
            · exact absurd h h1
            · exact absurd h h2
        · rcases hlk i _ hf with ⟨_, h⟩ | ⟨_, h⟩ | ⟨h1, h2, _⟩
          · cases h
          · cases h
          · rcases hi with h | h
            · exact absurd h h1
            · exact absurd h h2
        · rcases hlk i f hf with ⟨_, rfl⟩ | ⟨rfl, rfl⟩ | ⟨h1, h2, _⟩
          · cases hm
          · exact ⟨(V.rel.lt i _ hb rfl b' hb').1, .inr ⟨i, _, .inr rfl, hb, rfl, hb'⟩⟩
          · rcases hi with h | h
            · exact absurd h h1
            · exact absurd h h2
        · rcases hlk i f hf with ⟨_, rfl⟩ | ⟨e1', rfl⟩ | ⟨h1, h2, _⟩
          · cases hmf
          · rcases hlk j f2 hg' with ⟨_, rfl⟩ | ⟨e2', rfl⟩ | ⟨h1, h2, _⟩
            · cases hmg
            · exact absurd (e1'.trans e2'.symm) hij
            · rcases hj with h | h
              · exact absurd h h1
              · exact absurd h h2
          · rcases hi with h | h
            · exact absurd h h1
            · exact absurd h h2
      · rcases hi with h | h
        · have := V.bound i h; show i < g + 1; omega
        · show i < g + 1; omega
    · cases h
  · cases h
def parC (n : List Nat) : Code → Bool
  | .region _ ops _ => parL n ops.toList
  | .seq a b => parC n a && parC n b
  | .cond _ a b => parC n a && parC n b
  | .block _ a => parC n a
  | .loop a => parC n a
  | _ => true
theorem Par.trans {n : List Nat} {a b c : Act} (h : Par n a b) (h' : Par n b c) : Par n a c := fun t ht => (h' t ht).trans (h t ht)
theorem cwp_reg (hD : D = false → w0.drawn = 0) (hm : P.follows .mixedOrders = true) {id : Nat} {ops : Array Oper} {d : Bool} {hs : List (Nat × Hint D P)} {s : St} {Q : Ex → St → Prop} (h : match regSt P N s ops.toList d hs with
    | some (vcs, s') => vcs.foldr And (Q .n s')
    | none => False) {a : Act} {w : World} (H : Holds P N ψ IN w0 s a w) {Qm : Exit → Act → World → Prop} {n : List Nat} (hpar : parL n ops.toList = true) (hQ : ∀ s' a' w', Q .n s' → Holds P N ψ IN w0 s' a' w' → Par n a a' → Qm .normal a' w') : (Code.region id ops d).wp P Qm a w := by
  split at h
  · rename_i vcs s' hr
    obtain ⟨h1, h2⟩ := foldr_and h
    have := regSt_ok (id := id) hD hm hr h1 H (Q := Qm) hpar fun a' w' H' hp => hQ s' a' w' h2 H' hp
    simpa using this
  · exact h.elim
theorem cwp_ok (hD : D = false → w0.drawn = 0) (hm : P.follows .mixedOrders = true) {n : List Nat} (a0 : Act) : ∀ (c : Code) (ct : Cert D P) (s : St) (Q : Ex → St → Prop), parC n c = true → cwp P N c ct s Q → ∀ (a : Act) (w : World), Holds P N ψ IN w0 s a w → Par n a0 a → ∀ (Qm : Exit → Act → World → Prop), (∀ e s' a' w', Q e s' → Holds P N ψ IN w0 s' a' w' → Par n a0 a' → Qm e.to a' w') → c.wp P Qm a w
  | .skip, ct, s, Q, hc, h, a, w, H, hp, Qm, hQ => wp_skip (hQ .n s a w (by cases ct <;> exact h) H hp)
  | .ret, ct, s, Q, hc, h, a, w, H, hp, Qm, hQ => wp_ret (hQ .r s a w (by cases ct <;> exact h) H hp)
  | .exit id, ct, s, Q, hc, h, a, w, H, hp, Qm, hQ => wp_exit (hQ (.x id) s a w (by cases ct <;> exact h) H hp)
  | .region id ops d, ct, s, Q, hc, h, a, w, H, hp, Qm, hQ => by
    cases ct with
    | reg hs => exact cwp_reg hD hm h H hc fun s' a' w' h1 h2 h3 => hQ .n s' a' w' h1 h2 (hp.trans h3)
    | no => exact cwp_reg hD hm h H hc fun s' a' w' h1 h2 h3 => hQ .n s' a' w' h1 h2 (hp.trans h3)
    | _ => simp [cwp] at h
  | .seq x y, ct, s, Q, hc, h, a, w, H, hp, Qm, hQ => by
    simp only [parC, Bool.and_eq_true] at hc
    cases ct with
    | seq cx cy =>
      refine wp_seq (cwp_ok hD hm a0 x cx s _ hc.1 h a w H hp _ fun e s' a' w' h1 h2 h3 => ?_)
      cases e with
      | n => exact cwp_ok hD hm a0 y cy s' Q hc.2 h1 a' w' h2 h3 Qm hQ
      | x id => exact hQ _ _ _ _ h1 h2 h3
      | r => exact hQ _ _ _ _ h1 h2 h3
    | seqk ks cx cy =>
      refine wp_seq (cwp_ok hD hm a0 x cx s _ hc.1 h a w H hp _ fun e s' a' w' h1 h2 h3 => ?_)
      cases e with
      | n => exact cwp_ok hD hm a0 y cy s' Q hc.2 (knw_ok h1 h2) a' w' h2 h3 Qm hQ
      | x id => exact hQ _ _ _ _ h1 h2 h3
      | r => exact hQ _ _ _ _ h1 h2 h3
    | seqg t gi g x d cx cy =>
      refine wp_seq (cwp_ok hD hm a0 _ cx s _ hc.1 h a w H hp _ fun e s' a' w' h1 h2 h3 => ?_)
      cases e with
      | n =>
        simp only at h1
        split at h1
        · rename_i ps s2 hs2
          obtain ⟨q1, q2⟩ := foldr_and h1
          exact cwp_ok hD hm a0 _ cy s2 Q hc.2 q2 a' w' (ghostS_ok hs2 q1 h2) h3 Qm hQ
        · exact h1.elim
      | x id => exact hQ _ _ _ _ h1 h2 h3
      | r => exact hQ _ _ _ _ h1 h2 h3
    | cut Sf I cx cy =>
      obtain ⟨h, h'⟩ := h
      refine wp_seq (cwp_ok hD hm a0 x cx s _ hc.1 h a w H hp _ fun e s' a' w' h1 h2 h6 => ?_)
      cases e with
      | n =>
        obtain ⟨j, h3⟩ := h1
        obtain ⟨h4, h5⟩ := subP_ok h3 h2
        exact cwp_ok hD hm a0 y (cy j) (Sf j) Q hc.2 (h' j h5) a' w' h4 h6 Qm hQ
      | x id => exact hQ _ _ _ _ h1 h2 h6
      | r => exact hQ _ _ _ _ h1 h2 h6
    | hnd S1 I1 S2 I2 cx cy =>
      obtain ⟨h, hh, h'⟩ := h
      refine wp_seq (cwp_ok hD hm a0 x cx s _ hc.1 h a w H hp _ fun e s' a' w' h1 h2 h6 => ?_)
      cases e with
      | n =>
        obtain ⟨j, h3⟩ := h1
        obtain ⟨h4, h5⟩ := subP_ok h3 h2
        obtain ⟨k, h7, h8⟩ := hh ψ IN w0 w' a' j h5 h4
        exact cwp_ok hD hm a0 y (cy k) (S2 k) Q hc.2 (h' k h7) a' w' h8 h6 Qm hQ
      | x id => exact hQ _ _ _ _ h1 h2 h6
      | r => exact hQ _ _ _ _ h1 h2 h6
    | _ => simp [cwp] at h
  | .cond c x y, ct, s, Q, hc, h, a, w, H, hp, Qm, hQ => by
    simp only [parC, Bool.and_eq_true] at hc
    cases ct with
    | cond cx cy =>
      simp only [cwp] at h
      split at h
      · rename_i B hB
        have hev : a.eval c = .bool B := by
          obtain ⟨β, φ, dom, V⟩ := H
          exact opA_holds hB V
        exact wp_cond_split hev (fun hb => cwp_ok hD hm a0 x cx s Q hc.1 (h.1 hb) a w H hp Qm hQ) (fun hb => cwp_ok hD hm a0 y cy s Q hc.2 (h.2 hb) a w H hp Qm hQ)
      · exact h.elim
    | condT cx =>
      simp only [cwp] at h
      split at h
      · rename_i B hB
        have hev : a.eval c = .bool B := by
          obtain ⟨β, φ, dom, V⟩ := H
          exact opA_holds hB V
        exact wp_cond_split hev (fun hb => cwp_ok hD hm a0 x cx s Q hc.1 h.2 a w H hp Qm hQ) (fun hb => by rw [h.1] at hb; cases hb)
      · exact h.elim
    | condF cy =>
      simp only [cwp] at h
      split at h
      · rename_i B hB
        have hev : a.eval c = .bool B := by
          obtain ⟨β, φ, dom, V⟩ := H
          exact opA_holds hB V
        exact wp_cond_split hev (fun hb => by rw [h.1] at hb; cases hb) (fun hb => cwp_ok hD hm a0 y cy s Q hc.2 h.2 a w H hp Qm hQ)
      · exact h.elim
    | _ => simp [cwp] at h
  | .block id c, ct, s, Q, hc, h, a, w, H, hp, Qm, hQ => by
    cases ct with
    | blk cc =>
      refine wp_block (cwp_ok hD hm a0 c cc s _ hc h a w H hp _ fun e s' a' w' h1 h2 h3 => ?_)
      cases e with
      | n => exact hQ .n s' a' w' h1 h2 h3
      | x id' =>
        simp only at h1
        cases hb : Nat.beq id' id with
        | true =>
          rw [hb] at h1
          have e := Nat.eq_of_beq_eq_true hb
          subst e
          simp only [Ex.to, Exit.inBlock, if_true]
          exact hQ .n s' a' w' h1 h2 h3
        | false =>
          rw [hb] at h1
          have hne : id' ≠ id := fun e => by rw [e] at hb; simp at hb
          simp only [Ex.to, Exit.inBlock, if_neg hne]
          exact hQ (.x id') s' a' w' h1 h2 h3
      | r => exact hQ .r s' a' w' h1 h2 h3
    | _ => simp [cwp] at h
  | .loop c, ct, s, Q, hc, h, a, w, H, hp, Qm, hQ => by
    cases ct with
    | loop Sf I μ i0 cc =>
      obtain ⟨h, h'⟩ := h
      obtain ⟨h1, h2⟩ := subP_ok h H
      refine wp_loop_ghost (fun n' a w => ∃ i, μ i = n' ∧ Holds P N ψ IN w0 (Sf i) a w ∧ I i ∧ Par n a0 a) (μ i0) ⟨i0, rfl, h1, h2, hp⟩ ?_
      rintro n' a w ⟨i, rfl, hf, hI, hp⟩
      refine Code.wp_mono ?_ (cwp_ok hD hm a0 c (cc i) (Sf i) _ hc (h' i hI) a w hf hp (Exit.then (fun a' w' => ∃ j, Holds P N ψ IN w0 (Sf j) a' w' ∧ I j ∧ μ j < μ i ∧ Par n a0 a') Qm) fun e s' a' w' h1 h2 h7 => ?_)
      · intro e a' w' hq
        cases e with
        | normal => obtain ⟨j, h1, h2, h3, h4⟩ := hq; exact ⟨μ j, h3, j, rfl, h1, h2, h4⟩
        | exit id => exact hq
        | goto l => exact hq
        | ret => exact hq
        | panic ch => exact hq
        | outgrown => exact hq
      · cases e with
        | n =>
          obtain ⟨j, h3⟩ := h1
          obtain ⟨h4, h5, h6⟩ := subP_ok h3 h2
          exact ⟨j, h4, h5, h6, h7⟩
        | x id => exact hQ _ _ _ _ h1 h2 h7
        | r => exact hQ _ _ _ _ h1 h2 h7
    | _ => simp [cwp] at h
  | .scope _, ct, s, Q, hc, h, a, w, H, hp, Qm, hQ => by cases ct <;> simp [cwp] at h
  | .label _, ct, s, Q, hc, h, a, w, H, hp, Qm, hQ => by cases ct <;> simp [cwp] at h
  | .goto _, ct, s, Q, hc, h, a, w, H, hp, Qm, hQ => by cases ct <;> simp [cwp] at h
  | .refuse _, ct, s, Q, hc, h, a, w, H, hp, Qm, hQ => by cases ct <;> simp [cwp] at h
  | .rangeFunc .., ct, s, Q, hc, h, a, w, H, hp, Qm, hQ => by cases ct <;> simp [cwp] at h
end
end Go.Proofs.YtmjamlboilmbfaaGreatDoor
namespace Go.Proofs.YtmjamlboilmbfaaGreatDoor
open Go.RowKit
set_option linter.unusedVariables false
set_option linter.unusedSimpArgs false
def cellsR : Nat → List Dat → List AV × List (Nat × Option Fact) × Nat
  | n, [] => ([], [], n)
  | n, .v x :: ds => let b := cellsR n ds; (.v x :: b.1, b.2)
  | n, d :: ds => let b := cellsR (n + 1) ds; (.h n 0 :: b.1, (n, some (.shr none d)) :: b.2.1, b.2.2)
def inA (n : Nat) : Arg → AV × List (Nat × Option Fact) × Nat
  | .r (.c (.v x)) => (.v x, [], n)
  | .r (.c d) => (.h n 0, [(n, some (.shr none d))], n + 1)
  | .r (.g ds) => let c := cellsR n ds; (.ag c.1, c.2)
  | .pt T ds _ => let c := cellsB n ds; (.p c.2.2 0, c.2.1 ++ [(c.2.2, some (.box T c.1))], c.2.2 + 1)
  | .rp ds => (.p n 0, [(n, some (.mem none none ds))], n + 1)
  | .ow d _ => (.h n 0, [(n, some (.own n d))], n + 1)
  | .og ds _ => let c := cellsB n ds; (.ag c.1, c.2)
  | .ot ds => let c := cellsB n ds; (.ag c.1, c.2)
  | .vl x d => (.h n 0, [(n, some (.vl x d))], n + 1)
  | .ptg _ T x d ds _ => let c := cellsB (n + 1) ds; (.p c.2.2 0, (n, some (.vl x d)) :: (c.2.1 ++ [(c.2.2, some (.box T ([.h n 0] ++ c.1)))]), c.2.2 + 1)
  | .fn F _ => (.h n 0, [(n, some (.fn F))], n + 1)
def inAs : Nat → List Arg → List AV × List (Nat × Option Fact) × Nat
  | n, [] => ([], [], n)
  | n, a :: azz => let x := inA n a; let b := inAs x.2.2 azz; (x.1 :: b.1, x.2.1 ++ b.2.1, b.2.2)
def slotsFrom : Nat → List AV → List (Nat × Option AV)
  | _, [] => []
  | i, a :: azz => (i, some a) :: slotsFrom (i + 1) azz
def stIn (azz : List Arg) : St := ⟨slotsFrom 0 (inAs 0 azz).1, (inAs 0 azz).2.1.reverse, (inAs 0 azz).2.2⟩
section
variable {P : Program} {fs : Nat → Option Fact} {β : Nat → Nat → Value} {φ : Nat → List Nat} {dom ψ IN : Nat → Prop} {w0 w : World}
theorem RL.addN {L : List Nat} (H : RL P fs β φ dom ψ IN w0 w L) (n : Nat) (hn : ¬ dom n) (g : Fact) (βn : Nat → Value) (hm : g.mod = false) (hone : ∀ j, (βn j).oneCell' = true) (hF : ∀ fs' φ' dom', FactOK P fs' (up β n βn) φ' dom' ψ w n g) :
    RL P (fupd fs n (some g)) (up β n βn) φ (fun i => dom i ∨ i = n) ψ IN w0 w L ∧ Ext β (up β n βn) dom (fun i => dom i ∨ i = n) n (n + 1) := by
  have hlk : ∀ id g', fupd fs n (some g) id = some g' → (id = n ∧ g' = g) ∨ (id ≠ n ∧ fs id = some g') := by
    intro id g' h
    rw [fupd_eq] at h
    by_cases e : id = n
    · rw [if_pos e] at h; exact .inl ⟨e, (Option.some.inj h).symm⟩
    · rw [if_neg e] at h; exact .inr ⟨e, h⟩
  refine ⟨⟨H.rel.step (NN := (· = n)) (C := fun _ => False) (Chg.of_below (Bel.refl _ _)) (fun id h => ⟨.inl h, up_ne _ _ _ fun e => hn (e ▸ h)⟩) (up_all1 H.rel.all1 _ hone) (fun id g' h => ?_) (fun _ _ => rfl) (fun b _ h => h.elim) (fun id g' hn' h => ?_) (fun id V d hn' h => ?_) (fun id g' hn' h hm' => ?_) (fun i j g1 g2 hi hj _ _ _ _ hne => absurd (hi.trans hj.symm) hne), H.loose.1, fun b hb => ?_⟩, ⟨Nat.le_succ _, fun id h => ⟨.inl h, up_ne _ _ _ fun e => hn (e ▸ h)⟩, fun id h => ?_⟩⟩
  · rcases hlk id g' h with ⟨h, _⟩ | ⟨_, h⟩
    · exact .inl h
    · exact .inr h
  · subst hn'
    rcases hlk id g' h with ⟨_, rfl⟩ | ⟨h, _⟩
    · exact ⟨.inr rfl, hF _ _ _⟩
    · exact absurd rfl h
  · subst hn'
    rcases hlk id _ h with ⟨_, rfl⟩ | ⟨h, _⟩
    · cases hm
    · exact absurd rfl h
  · subst hn'
    rcases hlk id _ h with ⟨_, rfl⟩ | ⟨h, _⟩
    · rw [hm] at hm'; cases hm'
    · exact absurd rfl h
  · obtain ⟨k1, k2, k3, k4⟩ := H.loose.2 b hb
    refine ⟨k1, k2, k3, fun id g' h hm' => ?_⟩
    rcases hlk id g' h with ⟨_, rfl⟩ | ⟨_, h⟩
    · rw [hm] at hm'; cases hm'
    · exact k4 id g' h hm'
  · rcases h with h | rfl
    · exact .inl h
    · exact .inr ⟨Nat.le_refl _, Nat.lt_succ_self _⟩
theorem cellsR_ok : ∀ (ds : List Dat) (n : Nat) (fs : Nat → Option Fact) (β : Nat → Nat → Value) (dom : Nat → Prop) (vs : List Value) (L : List Nat), RL P fs β φ dom ψ IN w0 w L → (∀ id, n ≤ id → ¬ dom id) → RdVs ψ w ds vs →
    ∃ β' dom', RL P (fupds fs (cellsR n ds).2.1) β' φ dom' ψ IN w0 w L ∧ Ext β β' dom dom' n (cellsR n ds).2.2 ∧ vals β' (cellsR n ds).1 = vs ∧ AVs.wf dom' (cellsR n ds).1
  | [], n, fs, β, dom, vs, L, H, hn, ho => by
    obtain rfl : vs = [] := ho
    exact ⟨β, dom, H, Ext.refl _ _ _, rfl, trivial⟩
  | .v x :: ds, n, fs, β, dom, vs, L, H, hn, ho => by
    obtain ⟨u, us, rfl, h1, h2⟩ := ho
    obtain ⟨rfl, hx⟩ := h1
    obtain ⟨β', dom', k1, k2, k3, k4⟩ := cellsR_ok ds n fs β dom us L H hn h2
    exact ⟨β', dom', k1, k2, by simp only [cellsR, vals, val, k3], ⟨trivial, k4⟩⟩
  | @Dat.l α _ sz enc xs :: ds, n, fs, β, dom, vs, L, H, hn, ho => by
    obtain ⟨u, us, rfl, h1, h2⟩ := ho
    obtain ⟨k1, k2⟩ := H.addN n (hn n (Nat.le_refl _)) (.shr none (.l sz enc xs)) (fun _ => u) rfl (fun _ => h1.one) (fun _ _ _ => by show RdV ψ w _ _; rw [up_self]; exact h1)
    obtain ⟨β', dom', m1, m2, m3, m4⟩ := cellsR_ok ds (n + 1) _ _ _ us L k1 (fun id h hd => by
      rcases hd with hd | rfl
      · exact hn id (by omega) hd
      · omega) h2
    obtain ⟨q1, q2⟩ := m2.old n (.inr rfl)
    exact ⟨β', dom', m1, k2.trans m2, by simp only [cellsR, vals, val, m3]; rw [q2, up_self], ⟨q1, m4⟩⟩
  | .any :: ds, n, fs, β, dom, vs, L, H, hn, ho => by
    obtain ⟨u, us, rfl, h1, h2⟩ := ho
    obtain ⟨k1, k2⟩ := H.addN n (hn n (Nat.le_refl _)) (.shr none .any) (fun _ => u) rfl (fun _ => h1.one) (fun _ _ _ => by show RdV ψ w _ _; rw [up_self]; exact h1)
    obtain ⟨β', dom', m1, m2, m3, m4⟩ := cellsR_ok ds (n + 1) _ _ _ us L k1 (fun id h hd => by
      rcases hd with hd | rfl
      · exact hn id (by omega) hd
      · omega) h2
    obtain ⟨q1, q2⟩ := m2.old n (.inr rfl)
    exact ⟨β', dom', m1, k2.trans m2, by simp only [cellsR, vals, val, m3]; rw [q2, up_self], ⟨q1, m4⟩⟩
  | .x XX :: ds, n, fs, β, dom, vs, L, H, hn, ho => by
    obtain ⟨u, us, rfl, h1, h2⟩ := ho
    obtain ⟨k1, k2⟩ := H.addN n (hn n (Nat.le_refl _)) (.shr none (.x XX)) (fun _ => u) rfl (fun _ => h1.one) (fun _ _ _ => by show RdV ψ w _ _; rw [up_self]; exact h1)
    obtain ⟨β', dom', m1, m2, m3, m4⟩ := cellsR_ok ds (n + 1) _ _ _ us L k1 (fun id h hd => by
      rcases hd with hd | rfl
      · exact hn id (by omega) hd
      · omega) h2
    obtain ⟨q1, q2⟩ := m2.old n (.inr rfl)
    exact ⟨β', dom', m1, k2.trans m2, by simp only [cellsR, vals, val, m3]; rw [q2, up_self], ⟨q1, m4⟩⟩
  | .b DD :: ds, n, fs, β, dom, vs, L, H, hn, ho => by
    obtain ⟨u, us, rfl, h1, h2⟩ := ho
    obtain ⟨k1, k2⟩ := H.addN n (hn n (Nat.le_refl _)) (.shr none (.b DD)) (fun _ => u) rfl (fun _ => h1.one) (fun _ _ _ => by show RdV ψ w _ _; rw [up_self]; exact h1)
    obtain ⟨β', dom', m1, m2, m3, m4⟩ := cellsR_ok ds (n + 1) _ _ _ us L k1 (fun id h hd => by
      rcases hd with hd | rfl
      · exact hn id (by omega) hd
      · omega) h2
    obtain ⟨q1, q2⟩ := m2.old n (.inr rfl)
    exact ⟨β', dom', m1, k2.trans m2, by simp only [cellsR, vals, val, m3]; rw [q2, up_self], ⟨q1, m4⟩⟩
theorem inA_ok (hψ : ∀ b, ψ b → b < w.heap.size) : ∀ (a : Arg) (n : Nat) (fs : Nat → Option Fact) (β : Nat → Nat → Value) (φ : Nat → List Nat) (dom : Nat → Prop) (v : Value) (f L : List Nat), RL P fs β φ dom ψ IN w0 w (f ++ L) → (∀ id, n ≤ id → ¬ dom id) → ArgOK P ψ w a v f →
    ∃ β' φ' dom', RL P (fupds fs (inA n a).2.1) β' φ' dom' ψ IN w0 w L ∧ Ext β β' dom dom' n (inA n a).2.2 ∧ val β' (inA n a).1 = v ∧ (inA n a).1.wf dom' := by
  intro a n fs β φ dom v f L H hn ho
  cases a with
  | r a =>
    obtain ⟨h1, rfl⟩ := ho
    cases a with
    | c d =>
      cases d with
      | v x =>
        obtain ⟨rfl, hx⟩ := h1
        exact ⟨β, φ, dom, H, Ext.refl _ _ _, rfl, trivial⟩
      | l sz enc xs =>
        obtain ⟨k1, k2⟩ := H.addN n (hn n (Nat.le_refl _)) (.shr none (.l sz enc xs)) (fun _ => v) rfl (fun _ => RdV.one h1) (fun _ _ _ => by show RdV ψ w _ _; rw [up_self]; exact h1)
        exact ⟨_, _, _, k1, k2, by simp only [inA, val, up_self], .inr rfl⟩
      | any =>
        obtain ⟨k1, k2⟩ := H.addN n (hn n (Nat.le_refl _)) (.shr none .any) (fun _ => v) rfl (fun _ => RdV.one h1) (fun _ _ _ => by show RdV ψ w _ _; rw [up_self]; exact h1)
        exact ⟨_, _, _, k1, k2, by simp only [inA, val, up_self], .inr rfl⟩
      | x XX =>
        obtain ⟨k1, k2⟩ := H.addN n (hn n (Nat.le_refl _)) (.shr none (.x XX)) (fun _ => v) rfl (fun _ => RdV.one h1) (fun _ _ _ => by show RdV ψ w _ _; rw [up_self]; exact h1)
        exact ⟨_, _, _, k1, k2, by simp only [inA, val, up_self], .inr rfl⟩
      | b DD =>
        obtain ⟨k1, k2⟩ := H.addN n (hn n (Nat.le_refl _)) (.shr none (.b DD)) (fun _ => v) rfl (fun _ => RdV.one h1) (fun _ _ _ => by show RdV ψ w _ _; rw [up_self]; exact h1)
        exact ⟨_, _, _, k1, k2, by simp only [inA, val, up_self], .inr rfl⟩
    | g ds =>
      obtain ⟨vs, rfl, h2⟩ := h1
      obtain ⟨β', dom', k1, k2, k3, k4⟩ := cellsR_ok ds n fs β dom vs L H hn h2
      exact ⟨β', φ, dom', k1, k2, by simp only [inA, val, k3], k4⟩
  | pt T ds ds' =>
    obtain ⟨b, vs, f2, rfl, e2, e3, rfl, e4⟩ := ho
    obtain ⟨β1, φ1, dom1, k1, k2, k3, k4⟩ := RL.box (L := L) H [] trivial rfl n (fun id h _ => hn id h) e2 e3
    exact ⟨β1, φ1, dom1, k1, k2, by simp only [inA, val, k3, padd, Nat.zero_add], k4⟩
  | vl x d =>
    obtain ⟨⟨rfl, h1⟩, rfl⟩ := ho
    obtain ⟨k1, k2⟩ := H.addN n (hn n (Nat.le_refl _)) (.vl v d) (fun _ => v) rfl (fun _ => RdV.one h1) (fun _ _ _ => by show up β n (fun _ => v) n 0 = v ∧ RdV ψ w d v; rw [up_self]; exact ⟨rfl, h1⟩)
    exact ⟨_, _, _, k1, k2, by simp only [inA, val, up_self], .inr rfl⟩
  | ptg gi T x d ds ds' =>
    obtain ⟨⟨b, vs, f2, rfl, e2, e3, rfl, e4⟩, h1⟩ := ho
    obtain ⟨k1, k2⟩ := H.addN n (hn n (Nat.le_refl _)) (.vl x d) (fun _ => x) rfl (fun _ => RdV.one h1) (fun _ _ _ => by show up β n (fun _ => x) n 0 = x ∧ RdV ψ w d x; rw [up_self]; exact ⟨rfl, h1⟩)
    obtain ⟨β1, φ1, dom1, m1, m2, m3, m4⟩ := RL.box (L := L) k1 [.h n 0] ⟨.inr rfl, trivial⟩ rfl (n + 1) (fun id h _ hd => by
      rcases k2.new id hd with h3 | h3
      · exact hn id (by omega) h3
      · omega) (by simp only [vals, val, up_self]; exact e2) e3
    exact ⟨β1, φ1, dom1, m1, k2.trans m2, by simp only [inA, val, m3, padd, Nat.zero_add], m4⟩
  | rp ds =>
    obtain ⟨⟨b, o, vs, rfl, e2, e3, e4⟩, rfl⟩ := ho
    let βn : Nat → Value := fun j => match j with
      | 0 => .pointer (some ⟨b, o, none⟩)
      | j + 1 => vs.getD j (.bool false)
    have hl := e4.len
    have hone : ∀ j, (βn j).oneCell' = true := by
      intro j
      cases j with
      | zero => rfl
      | succ j =>
        show (vs.getD j (.bool false)).oneCell' = true
        rw [List.getD_eq_getElem?_getD]
        cases hj : vs[j]? with
        | none => rfl
        | some v => exact List.all_eq_true.1 e4.one v (List.mem_of_getElem? hj)
    have hbv : bv (up β n βn) n ds.length = vs := by
      refine List.ext_getElem (by simp [bv, hl]) fun j h1 h2 => ?_
      simp [bv, up_self, βn, h2]
    obtain ⟨k1, k2⟩ := H.addN n (hn n (Nat.le_refl _)) (.mem none none ds) βn rfl hone (fun _ _ _ => ⟨b, o, by rw [up_self], e2, by rw [hbv]; exact e3, by rw [hbv]; exact e4⟩)
    exact ⟨_, _, _, k1, k2, by simp [inA, val, up_self, padd, βn], .inr rfl⟩
  | og ds ds' =>
    obtain ⟨vs, rfl, h2⟩ := ho
    obtain ⟨β1, φ1, dom1, k1, k2, k3, k4, k5⟩ := cellsB_ok ds n fs β φ dom vs f L H (fun id h h' => hn id h) h2
    exact ⟨β1, φ1, dom1, k1, k2, by simp only [inA, val, k3], k4⟩
  | ot ds =>
    obtain ⟨vs, rfl, h2⟩ := ho
    obtain ⟨β1, φ1, dom1, k1, k2, k3, k4, k5⟩ := cellsB_ok ds n fs β φ dom vs f L H (fun id h h' => hn id h) h2
    exact ⟨β1, φ1, dom1, k1, k2, by simp only [inA, val, k3], k4⟩
  | ow d d' =>
    obtain ⟨β1, φ1, dom1, k1, k2, k3, k4⟩ := H.own n (hn n (Nat.le_refl _)) ho
    exact ⟨β1, φ1, dom1, k1, k2, k3, k4⟩
  | fn F D =>
    obtain ⟨h1, rfl⟩ := ho
    have h1' := h1
    obtain ⟨g, cap, rfl, _⟩ := h1'
    obtain ⟨k1, k2⟩ := H.addN n (hn n (Nat.le_refl _)) (.fn F) (fun _ => .func (.func g) #[] cap) rfl (fun _ => rfl) (fun _ _ _ => by show FnOK false P ψ w F _; rw [up_self]; exact h1.weak)
    exact ⟨_, _, _, k1, k2, by simp only [inA, val, up_self], .inr rfl⟩
theorem inAs_ok (hψ : ∀ b, ψ b → b < w.heap.size) : ∀ (azz : List Arg) (n : Nat) (fs : Nat → Option Fact) (β : Nat → Nat → Value) (φ : Nat → List Nat) (dom : Nat → Prop) (vs : List Value) (f L : List Nat), RL P fs β φ dom ψ IN w0 w (f ++ L) → (∀ id, n ≤ id → ¬ dom id) → ArgsOK P ψ w azz vs f →
    ∃ β' φ' dom', RL P (fupds fs (inAs n azz).2.1) β' φ' dom' ψ IN w0 w L ∧ Ext β β' dom dom' n (inAs n azz).2.2 ∧ vals β' (inAs n azz).1 = vs ∧ AVs.wf dom' (inAs n azz).1
  | [], n, fs, β, φ, dom, vs, f, L, H, hn, ho => by
    obtain ⟨rfl, rfl⟩ := ho
    exact ⟨β, φ, dom, H, Ext.refl _ _ _, rfl, trivial⟩
  | a :: azz, n, fs, β, φ, dom, vs, f, L, H, hn, ho => by
    obtain ⟨u, us, f1, g, rfl, h1, h2, rfl, h3⟩ := ho
    rw [List.append_assoc] at H
    obtain ⟨β1, φ1, dom1, k1, k2, k3, k4⟩ := inA_ok hψ a n fs β φ dom u f1 (g ++ L) H hn h1
    obtain ⟨β', φ', dom', m1, m2, m3, m4⟩ := inAs_ok hψ azz (inA n a).2.2 _ β1 φ1 dom1 us g L k1 (fun id h hd => by
      rcases k2.new id hd with h3 | h3
      · exact hn id (Nat.le_trans k2.le h) h3
      · omega) h2
    refine ⟨β', φ', dom', by simp only [inAs]; rw [fupds_app]; exact m1, k2.trans m2, ?_, ⟨AV.wf_mono (fun id h => (m2.old id h).1) _ k4, m4⟩⟩
    simp only [inAs, vals, m3]
    rw [val_congr (dom := dom1) (fun id h => (m2.old id h).2) _ k4, k3]
theorem slotsFrom_at : ∀ (azz : List AV) (i t : Nat) (av : AV), slG (slotsFrom i azz) t = some av → i ≤ t ∧ azz[t - i]? = some av
  | [], i, t, av, h => by cases h
  | a :: azz, i, t, av, h => by
    simp only [slotsFrom, slG] at h
    cases hb : Nat.beq i t with
    | true =>
      rw [hb] at h
      simp only [cond_true, Option.some.injEq] at h
      have e := Nat.eq_of_beq_eq_true hb
      subst e; subst h
      exact ⟨Nat.le_refl _, by simp⟩
    | false =>
      rw [hb] at h
      obtain ⟨h1, h2⟩ := slotsFrom_at azz (i + 1) t av h
      exact ⟨by omega, by rw [show t - i = (t - (i + 1)) + 1 by omega]; simpa using h2⟩
theorem stIn_ok (D : Bool) {sp : Spec} {S : Nat → Prop} {w : World} {vs : List Value} {fp : List Nat} (hS : ∀ b, S b → b < w.heap.size ∧ b ∉ fp) (hG : GOK S w) (h : ArgsOK P S w sp.args vs fp) (hlt : ∀ b ∈ fp, b < w.heap.size) (hnd : fp.Nodup) {N : Nat} (hN : vs.length ≤ N) :
    Holds P N S (· ∈ fp) (atD D w) (stIn sp.args) { tmps := vs.toArray ++ Array.replicate (N - vs.toArray.size) undef, defers := [] } w := by
  have H0 : RL P (fun _ => none) (fun _ _ => .bool false) (fun _ => []) (fun _ => False) S (· ∈ fp) (atD D w) w (fp ++ []) := by
    refine ⟨⟨fun id f hf => (by cases hf), fun i j f g hf => (by cases hf), fun id f hf => (by cases hf), fun b hb => (hS b hb).1, fun _ _ => rfl, (Chg.of_below (Bel.refl _ _)).toD D, hG⟩, by simpa using hnd, fun b hb => ?_⟩
    have hb' : b ∈ fp := by simpa using hb
    exact ⟨hlt b hb', .inr hb', fun hp => (hS b hp).2 hb', fun id f hf => by cases hf⟩
  obtain ⟨β, φ, dom, k1, k2, k3, k4⟩ := inAs_ok (fun b hb => (hS b hb).1) sp.args 0 _ _ _ _ vs fp [] H0 (fun _ _ h => h) h
  refine ⟨β, φ, dom, ?_, rfl, fun t av ht => ?_, k1.rel.sub fun id f hf => ?_, fun id hid => ?_⟩
  · simp; omega
  · obtain ⟨_, h2⟩ := slotsFrom_at _ 0 t av ht
    rw [Nat.sub_zero] at h2
    have hv : vs[t]? = some (val β av) := by rw [← k3, vals_map, List.getElem?_map, h2]; rfl
    refine ⟨?_, AVs.wf_iff.1 k4 av (List.mem_of_getElem? h2)⟩
    have hlt := (List.getElem?_eq_some_iff.1 hv).1
    rw [Array.getElem?_append_left (by simpa using hlt)]
    simpa using hv
  · have e : fsG (stIn sp.args).fs id = (setsGet (inAs 0 sp.args).2.1 id).getD none := by
      have h3 := fsG_rev (fun o => o.2) [] id (inAs 0 sp.args).2.1
      simp only [List.append_nil] at h3
      have h4 : ((inAs 0 sp.args).2.1.map fun p => (p.1, p.2)) = (inAs 0 sp.args).2.1 := by simp
      rw [h4] at h3
      show fsG (inAs 0 sp.args).2.1.reverse id = _
      rw [h3]
      cases setsGet (inAs 0 sp.args).2.1 id <;> rfl
    rw [e] at hf
    rw [fupds_get]
    exact hf
  · rcases k2.new id hid with h | h
    · exact h.elim
    · exact h.2
end
end Go.Proofs.YtmjamlboilmbfaaGreatDoor
namespace Go.Proofs.YtmjamlboilmbfaaGreatDoor
open Go.RowKit
set_option linter.unusedVariables false
set_option linter.unusedSimpArgs false
def resAV (P : Program) (s : St) : ResultVar → Option AV
  | .tmp t => slG s.sl t
  | .cell t T => match slG s.sl t with
    | some a => (match eLoad P (fsG s.fs) T a with | some r => some r.av | none => none)
    | none => none
def resAVs (P : Program) (s : St) : List ResultVar → Option (List AV)
  | [] => some []
  | r :: rs => match resAV P s r, resAVs P s rs with
    | some a, some azz => some (a :: azz)
    | _, _ => none
def plainC (fs : Nat → Option Fact) : List AV → List AV
  | .h id 0 :: cs => (match fs id with | some (.vl x _) => bif x.oneCell' then .v x else .h id 0 | _ => .h id 0) :: plainC fs cs
  | c :: cs => c :: plainC fs cs
  | [] => []
def mPtv (fs : Nat → Option Fact) (id : Nat) (T : TypeId) (ds : List Dat) : Option MA := match fs id with
  | some (.box T0 cs) => bif Nat.beq T T0 then (match ownDats fs (plainC fs cs) with
    | some (d0s, ids) => some ⟨[Imps d0s ds], id :: ids, []⟩
    | none => none) else none
  | _ => none
mutual
def mRes (P : Program) (fs : Nat → Option Fact) : AV → RT → Option (List Prop × List Nat)
  | av, .v x => (match av with | .v y => bif y.oneCell' then some ([y = x], []) else none | _ => none)
  | av, .ow d => (match d with
    | .any => bif av.one then some ([], []) else none
    | d => (match mArg P fs none av (.ow d none) with | some m => some (m.vcs, m.cons) | none => none))
  | av, .ag l => (match aggCells av with | some cs => bif cs.all AV.one then mRess P fs cs l else none | none => none)
  | av, .tu l => (match av with | .tu cs => mRess P fs cs l | _ => none)
  | av, .cl f l => (match av with | .cl f' cs => bif Nat.beq f f' then mRess P fs cs l else none | _ => none)
  | av, .pt T ds => (match av with | .p id 0 => (match mPtv fs id T ds with | some m => some (m.vcs, m.cons) | none => none) | _ => none)
def mRess (P : Program) (fs : Nat → Option Fact) : List AV → List RT → Option (List Prop × List Nat)
  | [], [] => some ([], [])
  | a :: azz, r :: rs => match mRes P fs a r, mRess P fs azz rs with
    | some m, some n => some (m.1 ++ n.1, m.2 ++ n.2)
    | _, _ => none
  | _, _ => none
end
def mBeh (P : Program) (s : St) (i : Nat) : Arg → Option (List Prop × List Nat)
  | .pt T _ ds' => match slG s.sl i with
    | some av => (match mArg P (fsG s.fs) none av (.pt T ds' ds') with | some m => some (m.vcs, m.cons) | none => none)
    | none => none
  | .ptg _ T x _ _ ds' => match slG s.sl i with
    | some av => (match av with | .p id 0 => (match mPtv (fsG s.fs) id T (.v x :: ds') with | some m => some (m.vcs, m.cons) | none => none) | _ => none)
    | none => none
  | .og _ ds' => match slG s.sl i with
    | some av => (match mArg P (fsG s.fs) none av (.og ds' ds') with | some m => some (m.vcs, m.cons) | none => none)
    | none => none
  | .ow _ (some d') => match slG s.sl i with
    | some av => (match mArg P (fsG s.fs) none av (.ow d' none) with | some m => some (m.vcs, m.cons) | none => none)
    | none => none
  | _ => some ([], [])
def mBehs (P : Program) (s : St) : Nat → List Arg → Option (List Prop × List Nat)
  | _, [] => some ([], [])
  | i, a :: azz => match mBeh P s i a, mBehs P s (i + 1) azz with
    | some m, some n => some (m.1 ++ n.1, m.2 ++ n.2)
    | _, _ => none
def keepT : Nat → List Arg → List Nat
  | _, [] => []
  | i, .pt _ _ _ :: azz => i :: keepT (i + 1) azz
  | i, .ptg _ _ _ _ _ _ :: azz => i :: keepT (i + 1) azz
  | i, .ow _ (some _) :: azz => i :: keepT (i + 1) azz
  | i, .og _ _ :: azz => i :: keepT (i + 1) azz
  | i, _ :: azz => keepT (i + 1) azz
def resOf : List AV → AV
  | [a] => a
  | azz => .tu azz
def finV (P : Program) (fn : Func) (sp : Spec) (s : St) : Option (List Prop) :=
  match resAVs P s fn.results.toList with
  | some azz => (match mRes P (fsG s.fs) (resOf azz) sp.res, mBehs P s 0 sp.args with
    | some m, some n => bif nodupB (m.2 ++ n.2) then some (m.1 ++ n.1) else none
    | _, _ => none)
  | none => none
def finP (P : Program) (fn : Func) (sp : Spec) (s : St) : Prop := match finV P fn sp s with
  | some ps => ps.foldr And True
  | none => False
def fnP {D : Bool} (P : Program) (fn : Func) (c : Code) (ct : Cert D P) (sp : Spec) : Prop := cwp P fn.ntmps c ct (stIn sp.args) fun e s => match e with
  | .x _ => False
  | _ => finP P fn sp s
section
variable {D : Bool} {P : Program} {N : Nat} {β : Nat → Nat → Value} {φ : Nat → List Nat} {dom ψ IN : Nat → Prop} {w0 w : World} {s : St} {a : Act}
theorem resAV_ok (V : StOK P N ψ IN w0 s a w β φ dom) : ∀ {r : ResultVar} {av : AV}, resAV P s r = some av → (rvSem a.tmps r).run P w = .ok (val β av) w ∧ av.wf dom
  | .tmp t, av, h => by
    obtain ⟨h1, h2⟩ := V.has t av h
    exact ⟨by simp [rvSem, h1], h2⟩
  | .cell t T, av, h => by
    simp only [resAV] at h
    split at h
    · rename_i p hp
      split at h
      · rename_i r hr
        simp only [Option.some.injEq] at h
        subst h
        obtain ⟨h1, h2⟩ := V.has t p hp
        obtain ⟨k1, k2, _⟩ := eLoad_ok V.rel (fun _ _ h => h) hr
        refine ⟨?_, k2⟩
        cases p <;> simp only [eLoad] at hr <;> first | cases hr | skip
        rename_i id off
        split at hr
        · rename_i cs hcs
          obtain ⟨b, o, g1, _⟩ := cellsAt_ok V.rel (fun _ _ h => h) hcs
          have e : val β (.p id off) = .pointer (some ⟨b, o + off, none⟩) := by simp [val, g1, padd]
          rw [e] at k1 h1
          simp only [Instr.loadAt, Instr.sureAddr, Sem.run_bind, Sem.run_pure, Result.andThen_ok] at k1
          simp [rvSem, h1, asAddr, k1]
        · cases hr
      · cases h
    · cases h
theorem resAVs_ok (V : StOK P N ψ IN w0 s a w β φ dom) : ∀ {rs : List ResultVar} {azz : List AV}, resAVs P s rs = some azz → (rs.mapM (rvSem a.tmps)).run P w = .ok (vals β azz) w ∧ AVs.wf dom azz
  | [], azz, h => by
    simp only [resAVs, Option.some.injEq] at h
    subst h
    exact ⟨by simp [vals], trivial⟩
  | r :: rs, azz, h => by
    simp only [resAVs] at h
    split at h
    · rename_i av avs h1 h2
      simp only [Option.some.injEq] at h
      subst h
      obtain ⟨k1, k2⟩ := resAV_ok V h1
      obtain ⟨m1, m2⟩ := resAVs_ok V h2
      exact ⟨by simp [List.mapM_cons, k1, m1, vals], k2, m2⟩
    · cases h
theorem results_ok (V : StOK P N ψ IN w0 s a w β φ dom) {fn : Func} {azz : List AV} (h : resAVs P s fn.results.toList = some azz) : (results fn a.tmps).run P w = .ok (val β (resOf azz)) w ∧ (resOf azz).wf dom := by
  obtain ⟨h1, h2⟩ := resAVs_ok V h
  rw [results_eq]
  have e : (fn.results.mapM (rvSem a.tmps)).run P w = .ok (vals β azz).toArray w := by
    rw [Array.mapM_eq_mapM_toList]
    simp [h1]
  cases azz with
  | nil => exact ⟨by simp [e, resOf, vals, val], trivial⟩
  | cons x azz =>
    cases azz with
    | nil => exact ⟨by simp [e, resOf, vals], h2.1⟩
    | cons y azz => exact ⟨by simp [e, resOf, vals, val], h2⟩
def FPo (φ : Nat → List Nat) (f ids : List Nat) : Prop := f.Nodup ∧ ∀ b, b ∈ f ↔ ∃ id ∈ ids, b ∈ φ id
theorem FPo.nil : FPo φ [] [] := ⟨List.nodup_nil, fun b => ⟨fun h => (by cases h), fun ⟨_, h, _⟩ => (by cases h)⟩⟩
theorem FPo.app {fs : Nat → Option Fact} (R : Rel P fs β φ dom ψ IN w0 w) {f g i j : List Nat} (hf : FPo φ f i) (hg : FPo φ g j) (hnd : (i ++ j).Nodup) (hm : ∀ id ∈ i ++ j, ∃ x, fs id = some x ∧ x.mod = true) : FPo φ (f ++ g) (i ++ j) := by
  obtain ⟨n1, n2, n3⟩ := List.nodup_append.1 hnd
  refine ⟨List.nodup_append.2 ⟨hf.1, hg.1, fun b hb b' hb' e => ?_⟩, fun b => ?_⟩
  · subst e
    obtain ⟨x, hx, hbx⟩ := (hf.2 b).1 hb
    obtain ⟨y, hy, hby⟩ := (hg.2 b).1 hb'
    obtain ⟨fx, ex, mx⟩ := hm x (List.mem_append_left _ hx)
    obtain ⟨fy, ey, my⟩ := hm y (List.mem_append_right _ hy)
    exact R.dis x y _ _ ex ey mx my (n3 x hx y hy) b hbx hby
  · rw [List.mem_append, hf.2, hg.2]
    constructor
    · rintro (⟨x, h1, h2⟩ | ⟨x, h1, h2⟩)
      · exact ⟨x, List.mem_append_left _ h1, h2⟩
      · exact ⟨x, List.mem_append_right _ h1, h2⟩
    · rintro ⟨x, h1, h2⟩
      rcases List.mem_append.1 h1 with h1 | h1
      · exact .inl ⟨x, h1, h2⟩
      · exact .inr ⟨x, h1, h2⟩
theorem mArg_out {fs : Nat → Option Fact} (R : Rel P fs β φ dom ψ IN w0 w) {av : AV} {ar : Arg} {m : MA} (hk : (match ar with | .pt _ _ _ => true | .ow _ none => true | .og _ _ => true | _ => false) = true) (h : mArg P fs none av ar = some m) (hv : AllP m.vcs) (hnd : m.cons.Nodup) :
    ∃ fp, ArgOK P (Outs φ w m.cons) w ar (val β av) fp ∧ FPo φ fp m.cons ∧ ∀ id ∈ m.cons, ∃ x, fs id = some x ∧ x.mod = true := by
  have hC := mArg_cons (fun _ _ h => h) R h
  have hr : m.reads = [] := by
    cases ar with
    | pt T ds ds' =>
      simp only [mArg, mPt] at h
      split at h
      · split at h
        · rename_i T0 cs hid
          cases hT : Nat.beq T T0 with
          | false => rw [hT] at h; cases h
          | true =>
            rw [hT] at h
            simp only [cond_true] at h
            split at h
            · cases h; rfl
            · cases h
        · cases h
      · cases h
    | og ds ds' =>
      simp only [mArg] at h
      split at h
      · simp only [mOg] at h
        split at h
        · cases h; rfl
        · cases h
      · cases h
    | ow d d' =>
      cases d' with
      | none =>
        simp only [mArg, mOw] at h
        split at h
        · cases h; rfl
        · cases h
      | some d' => simp at hk
    | _ => simp at hk
  obtain ⟨fp, h1, h2, _, _, h5⟩ := mArg_ok R (fun _ _ h => h) hC h hv (fun X hX => by rw [hr] at hX; cases hX) hnd
  exact ⟨fp, h1, ⟨h5, h2⟩, hC⟩
theorem aggCells_wf {av : AV} {cs : List AV} (h : aggCells av = some cs) (hw : av.wf dom) : AVs.wf dom cs := by
  cases av with
  | ag cs' => simp only [aggCells, Option.some.injEq] at h; subst h; exact hw
  | v x =>
    cases x <;> simp only [aggCells, Option.some.injEq] at h <;> first | cases h | skip
    all_goals exact AVs.wf_v _
  | _ => simp [aggCells] at h
theorem plainC_ok {fs : Nat → Option Fact} (R : Rel P fs β φ dom ψ IN w0 w) : ∀ cs : List AV, vals β (plainC fs cs) = vals β cs
  | [] => rfl
  | c :: cs => by
    have ih := plainC_ok R cs
    cases c with
    | h id j =>
      cases j with
      | zero =>
        simp only [plainC, vals, ih]
        congr 1
        split
        · rename_i x d hf
          cases hx : x.oneCell' with
          | false => rfl
          | true => exact (R.ok id _ hf).2.1.symm
        · rfl
      | succ j => simp only [plainC, vals, ih]
    | _ => simp only [plainC, vals, ih]
theorem mPtv_ok {fs : Nat → Option Fact} (R : Rel P fs β φ dom ψ IN w0 w) {id : Nat} {T : TypeId} {ds : List Dat} {m : MA} (h : mPtv fs id T ds = some m) (hv : AllP m.vcs) (hnd : m.cons.Nodup) :
    ∃ fp, (∃ b vs f, val β (.p id 0) = .pointer (some ⟨b, 0, none⟩) ∧ Box w b T vs ∧ OwVs w ds vs f ∧ fp = b :: f ∧ fp.Nodup) ∧ FPo φ fp m.cons ∧ ∀ id ∈ m.cons, ∃ x, fs id = some x ∧ x.mod = true := by
  simp only [mPtv] at h
  split at h
  · rename_i T0 cs hid
    cases hT : Nat.beq T T0 with
    | false => rw [hT] at h; cases h
    | true =>
      rw [hT] at h
      simp only [cond_true] at h
      have hT' := Nat.eq_of_beq_eq_true hT
      subst hT'
      split at h
      · rename_i d0s ids hds
        cases h
        obtain ⟨k1, ⟨g0, g0'⟩, b, g1, g2, g3⟩ := R.ok id _ hid
        obtain ⟨fp, q1, q2, q3, q4, q5, q6, q7⟩ := ownDats_ok R (fun _ _ h => h) hds
        rw [plainC_ok R] at q1
        obtain ⟨n1, n2⟩ := List.nodup_cons.1 hnd
        have hbid : b ∈ φ id := by rw [g3]; exact List.mem_cons_self
        have hbf : b ∉ fp := fun hb => by
          obtain ⟨i, h1, h2⟩ := q2 b hb
          obtain ⟨V, d, hd⟩ := q5 i h1
          exact R.dis id i _ _ hid hd rfl rfl (fun e => n1 (e ▸ h1)) b hbid h2
        have hfp : ∀ b', (∃ i ∈ ids, b' ∈ φ i) → b' ∈ fp := fun b' ⟨i, h1, h2⟩ => q7 i h1 b' h2
        refine ⟨b :: fp, ⟨b, _, fp, by simp [val, g1, padd], g2, hv.1.ow q1, rfl, List.nodup_cons.2 ⟨hbf, q1.nd⟩⟩, ⟨List.nodup_cons.2 ⟨hbf, q1.nd⟩, fun b' => ⟨fun hb' => ?_, fun ⟨i, h1, h2⟩ => ?_⟩⟩, fun i hi => ?_⟩
        · rcases List.mem_cons.1 hb' with rfl | hb'
          · exact ⟨id, List.mem_cons_self, hbid⟩
          · obtain ⟨i, h1, h2⟩ := q2 b' hb'
            exact ⟨i, List.mem_cons_of_mem _ h1, h2⟩
        · rcases List.mem_cons.1 h1 with rfl | h1
          · rw [g3] at h2
            simp only [List.mem_singleton] at h2
            subst h2
            exact List.mem_cons_self
          · exact List.mem_cons_of_mem _ (hfp b' ⟨i, h1, h2⟩)
        · rcases List.mem_cons.1 hi with rfl | hi
          · exact ⟨_, hid, rfl⟩
          · obtain ⟨V, d, hd⟩ := q5 i hi
            exact ⟨_, hd, rfl⟩
      · cases h
  · cases h
mutual
theorem mRes_ok {fs : Nat → Option Fact} (R : Rel P fs β φ dom ψ IN w0 w) : ∀ (av : AV) (rt : RT) (m : List Prop × List Nat), mRes P fs av rt = some m → AllP m.1 → m.2.Nodup → av.wf dom →
    ∃ fp, RTOK w rt (val β av) fp ∧ FPo φ fp m.2 ∧ ∀ id ∈ m.2, ∃ x, fs id = some x ∧ x.mod = true
  | av, .v x, m, h, hv, hnd, hw => by
    unfold mRes at h
    split at h
    · rename_i y
      cases hy : y.oneCell' with
      | false => rw [hy] at h; cases h
      | true =>
        simp only [hy, cond_true, Option.some.injEq] at h
        subst h
        obtain ⟨rfl, _⟩ := hv
        exact ⟨[], ⟨rfl, hy, rfl⟩, FPo.nil, fun id hid => by cases hid⟩
    · cases h
  | av, .ow d, m, h, hv, hnd, hw => by
    unfold mRes at h
    split at h
    · cases ho : av.one with
      | false => rw [ho] at h; cases h
      | true =>
        rw [ho] at h
        simp only [cond_true, Option.some.injEq] at h
        subst h
        exact ⟨[], ⟨AV.one_val R.one ho hw, rfl⟩, FPo.nil, fun id hid => by cases hid⟩
    · split at h
      · rename_i m' hm'
        cases h
        exact mArg_out R rfl hm' hv hnd
      · cases h
  | av, .ag l, m, h, hv, hnd, hw => by
    unfold mRes at h
    split at h
    · rename_i cs hcs
      cases ho : cs.all AV.one with
      | false => rw [ho] at h; cases h
      | true =>
        rw [ho] at h
        obtain ⟨e1, e2'⟩ := aggCells_ok (β := β) (dom := dom) hcs
        have e2 := aggCells_wf hcs hw
        obtain ⟨fp, k1, k2, k3⟩ := mRess_ok R cs l m h hv hnd e2
        exact ⟨fp, ⟨_, e1, vals_one R.one ho e2, k1⟩, k2, k3⟩
    · cases h
  | av, .tu l, m, h, hv, hnd, hw => by
    unfold mRes at h
    split at h
    · rename_i cs
      obtain ⟨fp, k1, k2, k3⟩ := mRess_ok R cs l m h hv hnd hw
      exact ⟨fp, ⟨_, rfl, k1⟩, k2, k3⟩
    · cases h
  | av, .cl f l, m, h, hv, hnd, hw => by
    unfold mRes at h
    split at h
    · rename_i f' cs
      cases hb : Nat.beq f f' with
      | false => rw [hb] at h; cases h
      | true =>
        rw [hb] at h
        have e := Nat.eq_of_beq_eq_true hb
        subst e
        obtain ⟨fp, k1, k2, k3⟩ := mRess_ok R cs l m h hv hnd hw
        exact ⟨fp, ⟨_, rfl, k1⟩, k2, k3⟩
    · cases h
  | av, .pt T ds, m, h, hv, hnd, hw => by
    unfold mRes at h
    split at h
    · rename_i id
      split at h
      · rename_i m' hm'
        cases h
        obtain ⟨fp, k1, k2, k3⟩ := mPtv_ok R hm' hv hnd
        exact ⟨fp, k1, k2, k3⟩
      · cases h
    · cases h
theorem mRess_ok {fs : Nat → Option Fact} (R : Rel P fs β φ dom ψ IN w0 w) : ∀ (azz : List AV) (rs : List RT) (m : List Prop × List Nat), mRess P fs azz rs = some m → AllP m.1 → m.2.Nodup → AVs.wf dom azz →
    ∃ fp, RTsOK w rs (vals β azz) fp ∧ FPo φ fp m.2 ∧ ∀ id ∈ m.2, ∃ x, fs id = some x ∧ x.mod = true
  | [], [], m, h, hv, hnd, hw => by
    simp only [mRess, Option.some.injEq] at h
    subst h
    exact ⟨[], ⟨rfl, rfl⟩, FPo.nil, fun id hid => by cases hid⟩
  | a :: azz, r :: rs, m, h, hv, hnd, hw => by
    simp only [mRess] at h
    split at h
    · rename_i m1 m2 h1 h2
      cases h
      obtain ⟨v1, v2⟩ := AllP.app hv
      obtain ⟨n1, n2, n3⟩ := List.nodup_append.1 hnd
      obtain ⟨f1, k1, k2, k3⟩ := mRes_ok R a r m1 h1 v1 n1 hw.1
      obtain ⟨f2, q1, q2, q3⟩ := mRess_ok R azz rs m2 h2 v2 n2 hw.2
      have hm : ∀ id ∈ m1.2 ++ m2.2, ∃ x, fs id = some x ∧ x.mod = true := fun id hid => (List.mem_append.1 hid).elim (k3 id) (q3 id)
      exact ⟨f1 ++ f2, ⟨_, _, f1, f2, rfl, k1, q1, rfl⟩, FPo.app R k2 q2 hnd hm, hm⟩
    · cases h
  | [], _ :: _, m, h, _, _, _ => by simp [mRess] at h
  | _ :: _, [], m, h, _, _, _ => by simp [mRess] at h
end
theorem mBehs_ok (V : StOK P N ψ IN w0 s a w β φ dom) : ∀ (azz : List Arg) (i : Nat) (us : List Value) (m : List Prop × List Nat), (∀ j, i + j ∈ keepT i azz → a.tmps[i + j]? = us[j]?) → us.length = azz.length → mBehs P s i azz = some m → AllP m.1 → m.2.Nodup →
    ∃ fp, BehsOK w azz us fp ∧ FPo φ fp m.2 ∧ ∀ id ∈ m.2, ∃ x, fsG s.fs id = some x ∧ x.mod = true
  | [], i, us, m, hp, hl, h, hv, hnd => by
    simp only [mBehs, Option.some.injEq] at h
    subst h
    exact ⟨[], rfl, FPo.nil, fun id hid => by cases hid⟩
  | ar :: azz, i, us, m, hp, hl, h, hv, hnd => by
    simp only [mBehs] at h
    split at h
    · rename_i m1 m2 h1 h2
      cases h
      obtain ⟨v1, v2⟩ := AllP.app hv
      obtain ⟨n1, n2, n3⟩ := List.nodup_append.1 hnd
      cases us with
      | nil => simp at hl
      | cons u us =>
        have hu : i ∈ keepT i (ar :: azz) → a.tmps[i]? = some u := fun h => by simpa using hp 0 (by simpa using h)
        obtain ⟨f2, q1, q2, q3⟩ := mBehs_ok V azz (i + 1) us m2 (fun j hj => by
          have := hp (j + 1) (by
            rw [show i + (j + 1) = i + 1 + j by omega]
            unfold keepT
            split <;> first | exact List.mem_cons_of_mem _ hj | exact hj | (rename_i e; cases e <;> first | exact List.mem_cons_of_mem _ hj | exact hj))
          rw [show i + 1 + j = i + (j + 1) by omega]; simpa using this) (by simpa using hl) h2 v2 n2
        obtain ⟨f1, k1, k2, k3⟩ : ∃ f1, BehOK w ar u f1 ∧ FPo φ f1 m1.2 ∧ ∀ id ∈ m1.2, ∃ x, fsG s.fs id = some x ∧ x.mod = true := by
          cases ar with
          | pt T ds ds' =>
            simp only [mBeh] at h1
            split at h1
            · rename_i av hav
              split at h1
              · rename_i m' hm'
                cases h1
                obtain ⟨fp, g1, g2, g3⟩ := mArg_out V.rel rfl hm' v1 n1
                have e := (V.has i av hav).1
                rw [hu (by simp [keepT])] at e
                cases e
                obtain ⟨b, vs, f, e1, e2, e3, e4, _⟩ := g1
                exact ⟨fp, ⟨b, vs, f, e1, e2, e3, e4⟩, g2, g3⟩
              · cases h1
            · cases h1
          | ptg gi T x d ds ds' =>
            simp only [mBeh] at h1
            split at h1
            · rename_i av hav
              split at h1
              · rename_i id
                split at h1
                · rename_i m' hm'
                  cases h1
                  obtain ⟨fp, g1, g2, g3⟩ := mPtv_ok V.rel hm' v1 n1
                  have e := (V.has i (.p id 0) hav).1
                  rw [hu (by simp [keepT])] at e
                  cases e
                  obtain ⟨b, vs, f, e1, e2, e3, e4, _⟩ := g1
                  obtain ⟨u2, us2, f1, f2, rfl, ⟨rfl, _, rfl⟩, q2, rfl, _⟩ := e3
                  exact ⟨fp, ⟨b, us2, _, e1, e2, q2, e4⟩, g2, g3⟩
                · cases h1
              · cases h1
            · cases h1
          | og ds ds' =>
            simp only [mBeh] at h1
            split at h1
            · rename_i av hav
              split at h1
              · rename_i m' hm'
                cases h1
                obtain ⟨fp, g1, g2, g3⟩ := mArg_out V.rel rfl hm' v1 n1
                have e := (V.has i av hav).1
                rw [hu (by simp [keepT])] at e
                cases e
                exact ⟨fp, g1, g2, g3⟩
              · cases h1
            · cases h1
          | ow d d' =>
            cases d' with
            | none =>
              simp only [mBeh, Option.some.injEq] at h1
              subst h1
              exact ⟨[], rfl, FPo.nil, fun id hid => by cases hid⟩
            | some d' =>
              simp only [mBeh] at h1
              split at h1
              · rename_i av hav
                split at h1
                · rename_i m' hm'
                  cases h1
                  obtain ⟨fp, g1, g2, g3⟩ := mArg_out V.rel rfl hm' v1 n1
                  have e := (V.has i av hav).1
                  rw [hu (by simp [keepT])] at e
                  cases e
                  exact ⟨fp, g1, g2, g3⟩
                · cases h1
              · cases h1
          | _ =>
            simp only [mBeh, Option.some.injEq] at h1
            subst h1
            exact ⟨[], rfl, FPo.nil, fun id hid => by cases hid⟩
        have hm : ∀ id ∈ m1.2 ++ m2.2, ∃ x, fsG s.fs id = some x ∧ x.mod = true := fun id hid => (List.mem_append.1 hid).elim (k3 id) (q3 id)
        exact ⟨f1 ++ f2, ⟨_, _, f1, f2, rfl, k1, q1, rfl⟩, FPo.app V.rel k2 q2 hnd hm, hm⟩
    · cases h
theorem ArgsOK.len {S : Nat → Prop} : ∀ {azz : List Arg} {vs : List Value} {fp : List Nat}, ArgsOK P S w azz vs fp → vs.length = azz.length
  | [], vs, fp, h => by rw [h.1]; rfl
  | a :: azz, vs, fp, h => by
    obtain ⟨u, us, f, g, rfl, _, h2, _⟩ := h
    simp [ArgsOK.len h2]
theorem ArgOK.lt {S : Nat → Prop} : ∀ {a : Arg} {v : Value} {fp : List Nat}, ArgOK P S w a v fp → (∀ b ∈ fp, b < w.heap.size) ∧ fp.Nodup
  | .r a, v, fp, h => by rw [h.2]; exact ⟨fun b hb => (by cases hb), List.nodup_nil⟩
  | .rp ds, v, fp, h => by rw [h.2]; exact ⟨fun b hb => (by cases hb), List.nodup_nil⟩
  | .fn F _, v, fp, h => by rw [h.2]; exact ⟨fun b hb => (by cases hb), List.nodup_nil⟩
  | .ow d d', v, fp, h => ⟨OwV.lt _ _ _ h, OwV.nd h⟩
  | .og ds ds', v, fp, h => by
    obtain ⟨vs, _, h⟩ := h
    exact ⟨OwVs.lt _ _ _ h, OwVs.nd h⟩
  | .ot ds, v, fp, h => by
    obtain ⟨vs, _, h⟩ := h
    exact ⟨OwVs.lt _ _ _ h, OwVs.nd h⟩
  | .pt T ds ds', v, fp, h => by
    obtain ⟨b, vs, f, rfl, h2, h3, rfl, h5⟩ := h
    refine ⟨fun b' hb => ?_, h5⟩
    rcases List.mem_cons.1 hb with rfl | hb
    · exact h2.lt
    · exact OwVs.lt _ _ _ h3 b' hb
  | .ptg gi T x d ds ds', v, fp, h => by
    obtain ⟨⟨b, vs, f, rfl, h2, h3, rfl, h5⟩, _⟩ := h
    refine ⟨fun b' hb => ?_, h5⟩
    rcases List.mem_cons.1 hb with rfl | hb
    · exact h2.lt
    · exact OwVs.lt _ _ _ h3 b' hb
  | .vl x d, v, fp, h => by rw [h.2]; exact ⟨fun b hb => (by cases hb), List.nodup_nil⟩
theorem ArgsOK.lt {S : Nat → Prop} : ∀ {azz : List Arg} {vs : List Value} {fp : List Nat}, ArgsOK P S w azz vs fp → (∀ b ∈ fp, b < w.heap.size) ∧ fp.Nodup
  | [], vs, fp, h => by rw [h.2]; exact ⟨fun b hb => (by cases hb), List.nodup_nil⟩
  | a :: azz, vs, fp, h => by
    obtain ⟨u, us, f, g, rfl, h1, h2, rfl, h4⟩ := h
    exact ⟨fun b hb => (List.mem_append.1 hb).elim ((ArgOK.lt h1).1 b) ((ArgsOK.lt h2).1 b), h4⟩
theorem keepT_lt : ∀ (azz : List Arg) (i t : Nat), t ∈ keepT i azz → t < i + azz.length
  | [], i, t, h => by cases h
  | a :: azz, i, t, h => by
    have key : t = i ∨ t ∈ keepT (i + 1) azz := by
      unfold keepT at h
      split at h
      · rename_i e; cases e
      · rename_i e; cases e; exact List.mem_cons.1 h
      · rename_i e; cases e; exact List.mem_cons.1 h
      · rename_i e; cases e; exact List.mem_cons.1 h
      · rename_i e; cases e; exact List.mem_cons.1 h
      · rename_i e; cases e; exact .inr h
    rcases key with h | h
    · subst h; simp
    · have := keepT_lt azz (i + 1) t h
      simp; omega
theorem fn_ok {f : FuncId} {fn : Func} {c : Code} {ct : Cert D P} {sp : Spec} (hm : P.follows .mixedOrders = true) (hf : P.funcs[f]? = some fn) (hb : fn.body = some c) (hn : Nat.ble sp.args.length fn.ntmps = true) (hpar : parC (keepT 0 sp.args) c = true) (h : sp.pre → fnP P fn c ct sp) : Spec.ok P f sp D := by
  intro hpre S w vs fp hS hG ha
  have hlen := ArgsOK.len ha
  obtain ⟨hlt, hnd⟩ := ArgsOK.lt ha
  have hN := Nat.le_of_ble_eq_true hn
  refine calls_of_wp hf hb ?_
  have H0 := stIn_ok D (N := fn.ntmps) hS hG ha hlt hnd (by omega)
  have hD0 : D = false → (atD D w).drawn = 0 := fun h => by rw [h]; rfl
  refine cwp_ok hD0 hm (n := keepT 0 sp.args) _ c ct _ _ hpar (h hpre) _ w H0 (fun _ _ => rfl) _ fun e s' a' w' hq hH hp => ?_
  have key : finP P fn sp s' → a'.defers = [] ∧ ∃ v, (results fn a'.tmps).run P w' = .ok v w' ∧ ∃ rv fr fb, Ending.returned v = .returned rv ∧ RTOK w' sp.res rv fr ∧ BehsOK w' sp.args vs fb ∧ (fr ++ fb).Nodup ∧ (∀ b ∈ fr ++ fb, b < w'.heap.size ∧ (b ∈ fp ∨ w.heap.size ≤ b)) ∧ Chg (· ∈ fp) (atD D w) w' := by
    intro hfin
    obtain ⟨β, φ, dom, V⟩ := hH
    unfold finP at hfin
    split at hfin
    · rename_i ps hps
      obtain ⟨hv, _⟩ := foldr_and hfin
      unfold finV at hps
      split at hps
      · rename_i azz has
        split at hps
        · rename_i m n h1 h2
          cases hb : nodupB (m.2 ++ n.2) with
          | false => rw [hb] at hps; cases hps
          | true =>
            simp only [hb, cond_true, Option.some.injEq] at hps
            subst hps
            have hnn := nodupB_ok hb
            obtain ⟨n1, n2, n3⟩ := List.nodup_append.1 hnn
            obtain ⟨v1, v2⟩ := AllP.app hv
            obtain ⟨r1, r2⟩ := results_ok V has
            obtain ⟨fr, k1, k2, k3⟩ := mRes_ok V.rel _ _ m h1 v1 n1 r2
            obtain ⟨fb, q1, q2, q3⟩ := mBehs_ok V sp.args 0 vs n (fun j hj => by
              have hj' : j < vs.length := by have := keepT_lt sp.args 0 _ hj; omega
              rw [hp (0 + j) hj, Nat.zero_add]
              simp only
              rw [Array.getElem?_append_left (by simpa using hj')]
              simp) hlen h2 v2 n2
            have hmm : ∀ id ∈ m.2 ++ n.2, ∃ x, fsG s'.fs id = some x ∧ x.mod = true := fun id hid => (List.mem_append.1 hid).elim (k3 id) (q3 id)
            obtain ⟨g1, g2⟩ := FPo.app V.rel k2 q2 hnn hmm
            refine ⟨V.defers, _, r1, _, fr, fb, rfl, k1, q1, g1, fun b hb => ?_, V.rel.chg⟩
            obtain ⟨id, hid, hbi⟩ := (g2 b).1 hb
            obtain ⟨x, hx, hxm⟩ := hmm id hid
            obtain ⟨l1, l2, _⟩ := V.rel.lt id x hx hxm b hbi
            exact ⟨l1, l2.symm⟩
        · cases hps
      · cases hps
    · exact hfin.elim
  cases e with
  | n => exact key hq
  | r => exact key hq
  | x id => exact hq.elim
def fnG {D : Bool} (P : Program) (fn : Func) (ct : Cert D P) (sp : Spec) : Prop := match fn.body with
  | some c => bif Nat.ble sp.args.length fn.ntmps && parC (keepT 0 sp.args) c then sp.pre → fnP P fn c ct sp else False
  | none => False
theorem fnG_ok (hm : P.follows .mixedOrders = true) {f : FuncId} {fn : Func} {ct : Cert D P} {sp : Spec} (hf : P.funcs[f]? = some fn) {A : Prop} (h : A) (e : A = fnG P fn ct sp) : Spec.ok P f sp D := by
  rw [e] at h
  unfold fnG at h
  split at h
  · rename_i c hc
    cases hb : (Nat.ble sp.args.length fn.ntmps && parC (keepT 0 sp.args) c) with
    | false => rw [hb] at h; exact h.elim
    | true =>
      rw [hb] at h
      simp only [Bool.and_eq_true] at hb
      exact fn_ok hm hf hc hb.1 hb.2 h
  · exact h.elim
end
end Go.Proofs.YtmjamlboilmbfaaGreatDoor
namespace Go.Proofs.YtmjamlboilmbfaaGreatDoor
open Go.RowKit
inductive Lp (σ ρ : Type) where
  | next (s : σ)
  | done (s : σ)
  | ret (r : ρ)
def runL {σ ρ : Type} (step : σ → Lp σ ρ) : Nat → σ → Lp σ ρ
  | 0, s => .next s
  | m + 1, s => match step s with
    | .next s' => runL step m s'
    | .done s' => .done s'
    | .ret r => .ret r
def Lp.fin {σ ρ τ : Type} (x : Lp σ ρ) (f : ρ → τ) (g : σ → τ) : τ := match x with
  | .ret r => f r
  | .done s => g s
  | .next s => g s
theorem runL_next {σ ρ : Type} {step : σ → Lp σ ρ} {m : Nat} {s s' : σ} {X : Lp σ ρ} (h : runL step (m + 1) s = X) (e : Lp.next s' = step s) : runL step m s' = X := by
  rw [← h]; simp [runL, ← e]
theorem runL_done {σ ρ : Type} {step : σ → Lp σ ρ} {m : Nat} {s s' : σ} {X : Lp σ ρ} (h : runL step (m + 1) s = X) (e : Lp.done s' = step s) : X = .done s' := by
  rw [← h]; simp [runL, ← e]
theorem runL_ret {σ ρ : Type} {step : σ → Lp σ ρ} {m : Nat} {s : σ} {r : ρ} {X : Lp σ ρ} (h : runL step (m + 1) s = X) (e : Lp.ret r = step s) : X = .ret r := by
  rw [← h]; simp [runL, ← e]
theorem finD {σ ρ τ : Type} {x : Lp σ ρ} {f : ρ → τ} {g : σ → τ} {s : σ} {v : τ} (h : x = .done s) (e : v = g s) : v = x.fin f g := by rw [h]; exact e
theorem finR {σ ρ τ : Type} {x : Lp σ ρ} {f : ρ → τ} {g : σ → τ} {r : ρ} {v : τ} (h : x = .ret r) (e : v = f r) : v = x.fin f g := by rw [h]; exact e
theorem condT {α : Type} {c : Bool} {a b v : α} (h : c = true) (e : v = a) : v = bif c then a else b := by rw [h]; exact e
theorem condF {α : Type} {c : Bool} {a b v : α} (h : c = false) (e : v = b) : v = bif c then a else b := by rw [h]; exact e
theorem hd1 {σ ρ : Type} {step : σ → Lp σ ρ} {m k : Nat} {s : σ} {X : Lp σ ρ} (h : runL step m s = X) (h' : k < m) : runL step (m - 1 + 1) s = X := by
  rw [Nat.sub_add_cancel (by omega)]; exact h
theorem hd2 {m k : Nat} (h : k < m) : k < m - 1 + 1 := by omega
theorem hd3 {m k : Nat} (h : k < m) : m - 1 < m := by omega
def Lp.all {σ ρ : Type} (I : σ → Prop) (J : ρ → Prop) : Lp σ ρ → Prop
  | .next s => I s
  | .done s => I s
  | .ret r => J r
theorem runL_inv {σ ρ : Type} {step : σ → Lp σ ρ} (I : σ → Prop) (J : ρ → Prop) (h : ∀ s, I s → (step s).all I J) : ∀ (m : Nat) (s : σ), I s → (runL step m s).all I J
  | 0, s, hs => hs
  | m + 1, s, hs => by
    have h1 := h s hs
    simp only [runL]
    cases e : step s with
    | next s' => rw [e] at h1; exact runL_inv I J h m s' h1
    | done s' => rw [e] at h1; exact h1
    | ret r => rw [e] at h1; exact h1
theorem fin_inv {σ ρ τ : Type} {x : Lp σ ρ} {f : ρ → τ} {g : σ → τ} {I : σ → Prop} {J : ρ → Prop} {K : τ → Prop} (h : x.all I J) (hf : ∀ r, J r → K (f r)) (hg : ∀ s, I s → K (g s)) : K (x.fin f g) := by
  cases x with
  | next s => exact hg s h
  | done s => exact hg s h
  | ret r => exact hf r h
theorem getD_rep {α : Type} [Inhabited α] (n : Nat) (x : α) (h : x = default) (k : Nat) : (List.replicate n x).getD k default = x := by
  rw [List.getD_eq_getElem?_getD, List.getElem?_replicate]
  split
  · rfl
  · exact h.symm
theorem notET {b : Bool} (h : (!b) = true) : b = false := by simpa using h
theorem notEF {b : Bool} (h : (!b) = false) : b = true := by simpa using h
theorem beqF {a b : Int} (h : (a == b) = false) : ¬ a = b := by simpa using h
theorem bneT {a b : Int} (h : (a != b) = true) : ¬ a = b := by simpa using h
theorem bneF {a b : Int} (h : (a != b) = false) : a = b := by simpa using h
theorem andT1 {c x : Bool} (h : (bif c then x else false) = true) : c = true := by cases c <;> simp_all
theorem andT2 {c x : Bool} (h : (bif c then x else false) = true) : x = true := by cases c <;> simp_all
theorem orF1 {c x : Bool} (h : (bif c then true else x) = false) : c = false := by cases c <;> simp_all
theorem orF2 {c x : Bool} (h : (bif c then true else x) = false) : x = false := by cases c <;> simp_all
theorem lens : (∀ {α : Type} (l : List α) (i : Nat) (x : α), (l.set i x).length = l.length) ∧ (∀ {α : Type} (l m : List α), (l ++ m).length = l.length + m.length) ∧ (∀ {α : Type} (x : α) (l : List α), (x :: l).length = l.length + 1) ∧ (∀ {α : Type}, ([] : List α).length = 0) ∧
    (∀ {α : Type} (n : Nat) (x : α), (List.replicate n x).length = n) ∧ (∀ {α : Type} (n : Nat) (l : List α), (l.take n).length = min n l.length) ∧ (∀ {α : Type} (n : Nat) (l : List α), (l.drop n).length = l.length - n) ∧ (∀ {α β : Type} (f : α → β) (l : List α), (l.map f).length = l.length) :=
  ⟨by simp, by simp, by simp, by simp, by simp, by simp, by simp, by simp⟩
def eInt (x : Int) : List Dat := [.v (.int .i64 x)]
def eByte (x : Int) : List Dat := [.v (.int .u8 (x % 256))]
def eBool (x : Bool) : List Dat := [.v (.bool x)]
def eStr (x : ByteArray) : List Dat := [.v (.string x)]
def eL {α : Type} [Inhabited α] (sz : Nat) (enc : α → List Dat) (xs : List α) : List Dat := [.l sz enc xs]
def strOfB (xs : List Int) : ByteArray := strOfNums (xs.map fun x => x % 256)
theorem strOfB_size (xs : List Int) : (strOfB xs).size = xs.length := by simp [strOfB, strOfNums_size]
theorem size_app (a b : ByteArray) : (a ++ b).size = a.size + b.size := by simp
theorem Imp.u8 {a b : Int} (h : a = b) : Imp (.v (.int .u8 a)) (.v (.int .u8 b)) := Imp.of_eq (by rw [h])
theorem u8a (b : UInt8) : (b.toNat : Int) = (b.toNat : Int) % 256 := by have := b.toNat_lt; omega
theorem u8m (x : Int) : x % 256 = x % 256 % 256 := by omega
theorem u8w (x : Int) : IntKind.u8.wrap x = IntKind.u8.wrap x % 256 := by
  have h1 : IntKind.u8.wrap x = x % 256 := by
    simp [IntKind.wrap, IntKind.signed, IntKind.bits]
  rw [h1]; omega
theorem sz0 : (⟨#[]⟩ : ByteArray).size = 0 := rfl
end Go.Proofs.YtmjamlboilmbfaaGreatDoor
namespace Go.Proofs.YtmjamlboilmbfaaGreatDoor
open Go.RowKit Go.ChangeShapes Go.WideShapes Go.ChangeAt
def Opens {α : Type} (P : Program) (t : TypeId) (r : Rp α) : Prop :=
  ∀ (H : Type) (enc : TypeId × Value → H) (W : World) (fuel : Nat) (cs : List Value) (y : DataW H × List MemPlace), DataW.trod enc P W 0 (fun _ => true) true fuel t cs = some y → ∃ x, r.rd W cs x
section
variable {P : Program} {t : TypeId}
theorem Opens.int (hu : P.underlying t = some (.int .i64)) : Opens P t rpInt := by
  intro H enc W fuel cs y h
  cases fuel with
  | zero => simp [DataW.trod] at h
  | succ fuel =>
    simp only [DataW.trod, hu] at h
    split at h <;> simp_all [rpInt, Rp.flat]
theorem Opens.byte (hu : P.underlying t = some (.int .u8)) : Opens P t rpByte := by
  intro H enc W fuel cs y h
  cases fuel with
  | zero => simp [DataW.trod] at h
  | succ fuel =>
    have key : ∀ n : Int, (Lit.int .u8 n).wf = true → ∃ x : UInt8, n = (x.toNat : Int) := by
      intro n h1
      simp only [Lit.wf, Bool.and_eq_true, decide_eq_true_eq] at h1
      have a : IntKind.u8.min = 0 := rfl
      have b : IntKind.u8.max = 255 := rfl
      rw [a, b] at h1
      refine ⟨UInt8.ofNat n.toNat, ?_⟩
      rw [UInt8.toNat_ofNat']
      omega
    simp only [DataW.trod, hu] at h
    split at h <;> simp_all [rpByte, Rp.flat]
    all_goals
      obtain ⟨⟨h0, h1⟩, _⟩ := h
      first | (subst h0; exact key _ h1) | exact key _ h1
theorem Opens.bool (hu : P.underlying t = some .bool) : Opens P t rpBool := by
  intro H enc W fuel cs y h
  cases fuel with
  | zero => simp [DataW.trod] at h
  | succ fuel =>
    simp only [DataW.trod, hu] at h
    split at h <;> simp_all [rpBool, Rp.flat]
theorem Opens.str (hu : P.underlying t = some .string) : Opens P t rpStr := by
  intro H enc W fuel cs y h
  cases fuel with
  | zero => simp [DataW.trod] at h
  | succ fuel =>
    simp only [DataW.trod, hu] at h
    split at h <;> simp_all [rpStr, Rp.flat]
theorem mapM_all {α β : Type} {f : α → Option β} : ∀ (l : List α) (ys : List β), l.mapM f = some ys → ∀ x ∈ l, ∃ y, f x = some y
  | [], _, _, x, hx => by cases hx
  | a :: l, ys, h, x, hx => by
    rw [List.mapM_cons] at h
    cases hf : f a with
    | none => rw [hf] at h; cases h
    | some b =>
      rw [hf] at h
      cases hl : l.mapM f with
      | none => simp [hl] at h
      | some bs =>
        rcases List.mem_cons.1 hx with rfl | hx
        · exact ⟨b, hf⟩
        · exact mapM_all l bs hl x hx
theorem mapM_at {α β : Type} {f : α → Option β} : ∀ (l : List α) (ys : List β), l.mapM f = some ys → ys.length = l.length ∧ ∀ (i : Nat) (x : α), l[i]? = some x → f x = ys[i]?
  | [], ys, h => by simp at h; subst h; simp
  | a :: l, ys, h => by
    rw [List.mapM_cons] at h
    cases hf : f a with
    | none => rw [hf] at h; cases h
    | some b =>
      rw [hf] at h
      cases hl : l.mapM f with
      | none => simp [hl] at h
      | some bs =>
        simp [hl] at h
        subst h
        obtain ⟨h1, h2⟩ := mapM_at l bs hl
        refine ⟨by simp [h1], fun i x hx => ?_⟩
        cases i with
        | zero => simp at hx; subst hx; simpa using hf
        | succ i => simpa using h2 i x (by simpa using hx)
theorem trod_struct {H : Type} {enc : TypeId × Value → H} {W : World} {fs : Array Field} (hu : P.underlying t = some (.struct fs)) {fuel : Nat} {cs : List Value} {y : DataW H × List MemPlace}
    (h : DataW.trod enc P W 0 (fun _ => true) true fuel t cs = some y) : cs.length = P.cellsOf t ∧ ∀ (i : Nat) (f : Field), fs[i]? = some f → ∃ n z, DataW.trod enc P W 0 (fun _ => true) true n f.type ((cs.drop f.offset).take (P.cellsOf f.type)) = some z := by
  cases fuel with
  | zero => simp [DataW.trod] at h
  | succ fuel =>
    have e : DataW.trod enc P W 0 (fun _ => true) true (fuel + 1) t cs = if cs.length = P.cellsOf t then (fs.toList.mapM fun f => DataW.trod enc P W 0 (fun _ => true) true fuel f.type ((cs.drop f.offset).take (P.cellsOf f.type))).map fun xs => (.agg (xs.map (·.1)), xs.flatMap (·.2)) else none := by
      have e0 : P.underlying t = some (.struct fs) := hu
      rw [DataW.trod.eq_def]
      simp only [e0]
    rw [e] at h
    split at h
    · rename_i hlen
      refine ⟨hlen, fun i f hf => ?_⟩
      obtain ⟨xs, hx, _⟩ := Option.map_eq_some_iff.1 h
      obtain ⟨z, hz⟩ := mapM_all _ _ hx f (Array.mem_toList_iff.2 (Array.mem_of_getElem? hf))
      exact ⟨fuel, z, hz⟩
    · cases h
theorem exists_list {α : Type} {Q : Nat → α → Prop} : ∀ n, (∀ i, i < n → ∃ x, Q i x) → ∃ xs : List α, xs.length = n ∧ ∀ (i : Nat) (x : α), xs[i]? = some x → Q i x
  | 0, _ => ⟨[], rfl, fun i x h => by simp at h⟩
  | n + 1, h => by
    obtain ⟨xs, hl, hq⟩ := exists_list n (fun i hi => h i (by omega))
    obtain ⟨x, hx⟩ := h n (by omega)
    refine ⟨xs ++ [x], by simp [hl], fun i y hy => ?_⟩
    by_cases hi : i < n
    · rw [List.getElem?_append_left (by omega)] at hy; exact hq i y hy
    · have hin : i = n := by
        have := (List.getElem?_eq_some_iff.1 hy).1
        simp at this; omega
      subst hin
      rw [List.getElem?_append_right (by omega)] at hy
      simp [hl] at hy
      exact hy ▸ hx
theorem cells?_has {w : World} {a : Addr} {n : Nat} {cs : List Value} (h : w.cells? 0 a n = some cs) : cs.length = n ∧ ∀ (j : Nat) (v : Value), cs[j]? = some v → w.cell? (a.add j) = some v := by
  simp only [World.cells?, Nat.zero_le, if_true] at h
  obtain ⟨h1, h2⟩ := mapM_at _ _ h
  refine ⟨by simpa using h1, fun j v hj => ?_⟩
  have hlt := (List.getElem?_eq_some_iff.1 hj).1
  have := h2 j j (by rw [List.getElem?_range (by simpa [h1] using hlt)])
  rw [this, hj]
theorem Opens.slice {α : Type} {e : TypeId} {r : Rp α} (hu : P.underlying t = some (.slice e)) (ho : Opens P e r) (hsz : P.cellsOf e = r.sz) (hpos : 0 < r.sz) : Opens P t r.slice := by
  intro H enc W fuel cs y h
  cases fuel with
  | zero => simp [DataW.trod] at h
  | succ fuel =>
    simp only [DataW.trod, hu] at h
    split at h <;> try (simp_all; done)
    · exact ⟨[], none, 0, rfl, SlR.nil r W⟩
    · rename_i e' a len cap heq
      simp only [Option.some.injEq, TypeDesc.slice.injEq] at heq
      subst heq
      split at h
      · rename_i hcap
        cases hm : (List.range len).mapM (fun i => (W.cells? 0 (a.add (i * P.cellsOf e)) (P.cellsOf e)).bind (DataW.trod enc P W 0 (fun _ => true) true fuel e)) with
        | none => rw [hm] at h; simp at h
        | some els =>
          have hat : ∀ i, i < len → ∃ cs, W.cells? 0 (a.add (i * r.sz)) r.sz = some cs ∧ ∃ x, r.rd W cs x := by
            intro i hi
            obtain ⟨z, hz⟩ := mapM_all _ _ hm i (by simpa using hi)
            obtain ⟨cs, hc, hz⟩ := Option.bind_eq_some_iff.1 hz
            rw [hsz] at hc
            exact ⟨cs, hc, ho H enc W fuel cs z hz⟩
          obtain ⟨xs, hlen, hxs⟩ := exists_list (Q := fun i x => ∃ cs, W.cells? 0 (a.add (i * r.sz)) r.sz = some cs ∧ r.rd W cs x) len (fun i hi => by
            obtain ⟨cs, h1, x, h2⟩ := hat i hi; exact ⟨x, cs, h1, h2⟩)
          refine ⟨xs, some a, cap, by rw [hlen], by omega, by have := hcap.2.2; unfold maxLen at this; omega, fun i x hx => ?_⟩
          have hi : i < len := by have := (List.getElem?_eq_some_iff.1 hx).1; omega
          have hspot : a.spot = none := by
            obtain ⟨c0, h1, _⟩ := hat 0 (by omega)
            obtain ⟨hl, hc⟩ := cells?_has h1
            have hz : c0[0]? = some (c0[0]'(by omega)) := List.getElem?_eq_getElem _
            have := hc 0 _ hz
            simp only [Nat.zero_mul, Addr.add, if_true] at this
            unfold World.cell? at this
            split at this
            · split at this
              · cases this
              · rename_i hs; simpa using hs
            · cases this
          have ha : a = ⟨a.block, a.off, none⟩ := by cases a; simp_all
          obtain ⟨cs', h1, h2⟩ := hxs i x hx
          obtain ⟨hl, hc⟩ := cells?_has h1
          have hhas : Has W a.block (a.off + i * r.sz) cs' := by
            intro j v hj
            have := hc j v hj
            rw [ha] at this
            simpa [addr_add] using this
          refine ⟨by simp only [ab, ao, Option.getD_some]; exact congrArg some ha, ?_, cs', hl, hhas, h2⟩
          have hz : cs'[0]? = some (cs'[0]'(by omega)) := List.getElem?_eq_getElem _
          have hlt := World.block_lt_of_cell? W _ (hhas 0 _ hz)
          simpa [ab] using hlt
      · cases h
end
theorem law_post {H : Type} {enc : TypeId × Value → H} {P : Program} {f : Func} {s : ChangeSpec} {W W' : World} {args : Array Value} {ds : List (DataW H)} {before : List MemPlace} {b : Nat}
    (hv : s.vars = []) (hW : DataW.Whole enc P f.params.toList s.vars false W args.toList ds [] before) (hb : Below W.heap.size W W')
    (hres : f.resultTypes = #[b]) (hbt : P.underlying b = some .bool) (hsr : (s.fn H (ds ++ [])).results = [.lit (.bool true)]) (hsa : (s.fn H (ds ++ [])).args = ds) (hsv : (s.fn H (ds ++ [])).vars = [])
    (hl : laidOutB P = true) (hr : ∀ t ∈ f.params.toList, P.readableRec t = true ∧ t < P.types.size) :
    s.post enc P f false true false false W args (.bool true) W' := by
  have hW' := hW
  obtain ⟨p, q, hA, hV, rfl, hfz, hnd⟩ := hW
  rw [hv] at hV
  have hq : q = [] := hV
  subst hq
  refine ⟨ds, [], p ++ [], [], p, [], hW', ?_, ?_, ?_, hb.frame _, fun h => by cases h⟩
  · rw [hsr, hres]
    refine ⟨[], [], ⟨1, ?_⟩, rfl, rfl⟩
    simp [Value.cells, DataW.trod, hbt]
  · rw [hsa]
    have hlt : ∀ x ∈ p, x.block < W.heap.size := fun x hx => by simpa using hW'.lt x (by simpa using hx)
    have key : ∀ (ts : List TypeId) (vs : List Value) (ds : List (DataW H)) (p : List MemPlace), (∀ t ∈ ts, P.readableRec t = true ∧ t < P.types.size) → (∀ x ∈ p, x.block < W.heap.size) →
        DataW.TrodAll enc P W 0 (fun _ => true) true ts vs ds p → DataW.TrodAll enc P W' 0 (fun b => decide (b < W.heap.size)) true ts vs ds p := by
      intro ts
      induction ts with
      | nil => intro vs ds p _ _ h; cases vs <;> cases ds <;> first | exact h | exact h.elim
      | cons t ts ih =>
        intro vs ds p hr hlt h
        cases vs with
        | nil => exact h.elim
        | cons v vs =>
          cases ds with
          | nil => exact h.elim
          | cons d ds =>
            obtain ⟨p1, q1, h1, h2, rfl⟩ := h
            exact ⟨p1, q1, Below.trod hl (hr t List.mem_cons_self).1 (hr t List.mem_cons_self).2 h1 hb (fun x hx => hlt x (List.mem_append_left _ hx)),
              ih vs ds q1 (fun t ht => hr t (List.mem_cons_of_mem _ ht)) (fun x hx => hlt x (List.mem_append_right _ hx)) h2, rfl⟩
    exact key _ _ _ _ hr hlt hA
  · rw [hsv, hv]; exact rfl
end Go.Proofs.YtmjamlboilmbfaaGreatDoor
namespace Go.Proofs.YtmjamlboilmbfaaGreatDoor
open Go.RowKit Go.ChangeShapes Go.WideShapes Go.ChangeAt
def rpD {α : Type} (enc : α → List Dat) (sz : Nat) (hl : ∀ x, (enc x).length = sz) : Rp α where
  sz := sz
  rd w cs x := RdVs (· < w.heap.size) w (enc x) cs
  mono e h := RdVs.mono (fun b hb => ⟨Nat.lt_of_lt_of_le hb e.size, e.block b hb⟩) _ _ h
  own w cs x fp := OwVs w (enc x) cs fp
  own_rd h := RdVs.mono (fun b hb => ⟨OwVs.lt _ _ _ h b hb, rfl⟩) _ _ (OwVs.rd _ _ _ h)
  own_keep h hk := OwVs.keep _ _ _ hk h
  own_lt h := OwVs.lt _ _ _ h
  own_nd h := OwVs.nd h
  rd_len h := by rw [RdVs.len h]; exact hl _
  own_one h := OwVs.one h
def OpD {α : Type} (P : Program) (t : TypeId) (enc : α → List Dat) : Prop :=
  ∀ (H : Type) (en : TypeId × Value → H) (W : World) (fuel : Nat) (cs : List Value) (y : DataW H × List MemPlace), DataW.trod en P W 0 (fun _ => true) true fuel t cs = some y → ∃ x, RdVs (· < W.heap.size) W (enc x) cs
theorem RdVs.app {S : Nat → Prop} {w : World} : ∀ {azz bs : List Dat} {us vs : List Value}, RdVs S w azz us → RdVs S w bs vs → RdVs S w (azz ++ bs) (us ++ vs)
  | [], _, us, vs, h, h' => by
    have : us = [] := h
    subst this
    exact h'
  | a :: azz, bs, us, vs, h, h' => by
    obtain ⟨u, us', rfl, h1, h2⟩ := h
    exact ⟨u, us' ++ vs, rfl, h1, RdVs.app h2 h'⟩
section
variable {P : Program} {t : TypeId}
theorem OpD.int (hu : P.underlying t = some (.int .i64)) : OpD P t eInt := fun H e W f cs y h => by
  obtain ⟨x, hx⟩ := Opens.int hu H e W f cs y h
  have hx : cs = [.int .i64 x] := hx
  subst hx
  exact ⟨x, _, _, rfl, ⟨rfl, rfl⟩, rfl⟩
theorem OpD.byte (hu : P.underlying t = some (.int .u8)) : OpD P t eByte := fun H e W f cs y h => by
  obtain ⟨x, hx⟩ := Opens.byte hu H e W f cs y h
  have hx : cs = [.int .u8 (x.toNat : Int)] := hx
  subst hx
  have hl := x.toNat_lt
  refine ⟨(x.toNat : Int), _, _, rfl, ⟨?_, rfl⟩, rfl⟩
  have : (x.toNat : Int) % 256 = (x.toNat : Int) := by omega
  rw [this]
theorem OpD.bool (hu : P.underlying t = some .bool) : OpD P t eBool := fun H e W f cs y h => by
  obtain ⟨x, hx⟩ := Opens.bool hu H e W f cs y h
  have hx : cs = [.bool x] := hx
  subst hx
  exact ⟨x, _, _, rfl, ⟨rfl, rfl⟩, rfl⟩
theorem OpD.str (hu : P.underlying t = some .string) : OpD P t eStr := fun H e W f cs y h => by
  obtain ⟨x, hx⟩ := Opens.str hu H e W f cs y h
  have hx : cs = [.string x] := hx
  subst hx
  exact ⟨x, _, _, rfl, ⟨rfl, rfl⟩, rfl⟩
theorem OpD.slice {α : Type} [Inhabited α] {e : TypeId} {enc : α → List Dat} (sz : Nat) (hu : P.underlying t = some (.slice e)) (ho : OpD P e enc) (hl : ∀ x, (enc x).length = sz) (hsz : P.cellsOf e = sz) (hpos : 0 < sz) : OpD P t (fun xs : List α => [.l sz enc xs]) := fun H en W f cs y h => by
  obtain ⟨xs, a, c, rfl, h1, h2, h3⟩ := Opens.slice (r := rpD enc sz hl) hu ho hsz hpos H en W f cs y h
  exact ⟨xs, _, [], rfl, ⟨a, c, rfl, h1, h2, fun i x hx => h3 i x hx⟩, rfl⟩
end
theorem GP.gok {W : World} (h : GP W) : GOK (· < W.heap.size) W := ⟨h, fun b hb => by
  have key : ∀ e, W.cell? ⟨b, 0, none⟩ = some e → b < W.heap.size := fun e he => by
    rcases Nat.lt_or_ge b W.heap.size with h1 | h1
    · exact h1
    · simp [World.cell?, Array.getElem?_eq_none h1] at he
  rcases List.mem_append.1 hb with hb | hb
  · rcases List.mem_append.1 hb with hb | hb
    · obtain ⟨e, he, _⟩ := h.1 b hb; exact key e he
    · obtain ⟨m, he⟩ := h.2.1 b hb; exact key _ he
  · obtain ⟨q, hq, rfl⟩ := List.mem_map.1 hb
    obtain ⟨T, fz, he⟩ := h.2.2 q hq
    exact (Array.getElem?_eq_some_iff.1 he).1⟩
theorem law_call {P : Program} {f : FuncId} {sp : Spec} {D : Bool} (h : sp.ok P f D) (hp : sp.pre) {W : World} {vs : List Value} {x : Value} (hG : GP W) (ha : ArgsOK P (· < W.heap.size) W sp.args vs []) (hr : sp.res = .v x) (_ : (sp.args.all fun a => match a with | .r _ => true | .vl _ _ => true | _ => false) = true) :
    Calls P f vs.toArray W fun e W' => e = .returned x ∧ Below W.heap.size W W' := by
  refine Calls.mono (h hp _ W vs [] (fun b hb => ⟨hb, fun h => by cases h⟩) hG.gok ha) fun e W' ⟨rv, fr, fb, h1, h2, _, _, _, h6⟩ => ?_
  rw [hr] at h2
  obtain ⟨rfl, _, _⟩ := h2
  exact ⟨h1, ⟨h6.os, h6.tape, h6.output, h6.size, fun k hk => h6.block k hk fun hk => by cases hk⟩⟩
end Go.Proofs.YtmjamlboilmbfaaGreatDoor
namespace Go.Proofs.YtmjamlboilmbfaaGreatDoor
set_option maxRecDepth 100000
theorem laid : laidOutB Tryz.prog = true := by kernel_rfl
theorem cfMaps : mapsRowed Tryz.prog = true := by kernel_rfl
theorem cfKeys : Tryz.prog.plainKeys = Rows.fnExactConfKeyRow.plainKeys := by kernel_rfl
theorem cfLifts : Tryz.prog.liftsFinal = Rows.fnExactConfKeyRow.lifted := by kernel_rfl
theorem cfHeard : Tryz.prog.stopsHeard = true := by kernel_rfl
theorem ws_app : ∀ (a r : List Char), (a.all fun c => c != (Char.ofNat 32)) = true → wordsSigns (a ++ (Char.ofNat 32) :: r) = a :: wordsSigns r
  | [], r, _ => by simp [wordsSigns]
  | c :: a, r, h => by
    simp only [List.all_cons, Bool.and_eq_true, bne_iff_ne, ne_eq] at h
    have ih := ws_app a r h.2
    rw [List.cons_append, wordsSigns.eq_3 _ _ (fun e => h.1 e), ih]
theorem enter_of {P : Program} {s r : List Char} (h : P.initOrder.toList = "harness".toList ++ (Char.ofNat 32) :: (s ++ (Char.ofNat 32) :: ("cut".toList ++ (Char.ofNat 32) :: r))) (hs : isSumSigns s = true) (h1 : P.laysLater = false) (h2 : P.bearsReflect = false) (h3 : P.doorFits [] = true) : P.mayEnter = true := by
  have hsp : (s.all fun c => c != (Char.ofNat 32)) = true := by
    unfold isSumSigns at hs
    simp only [Bool.and_eq_true, List.all_eq_true] at hs ⊢
    intro c hc
    have := hs.2 c hc
    rw [bne_iff_ne]
    rintro rfl
    exact absurd this (by decide)
  have hw : behindMainWord (wordsSigns P.initOrder.toList) = "cut".toList :: wordsSigns r := by
    rw [h, ws_app _ _ (by decide), ws_app _ _ hsp, ws_app _ _ (by decide)]
    show (if (("harness".toList == "harness".toList || "harness".toList == "ownmain".toList) && isSumSigns s) = true then "cut".toList :: wordsSigns r else _) = _
    rw [hs]; rfl
  have hst : stripLifts liftWords ("cut".toList :: wordsSigns r) = ([], "cut".toList :: wordsSigns r) := by rfl
  unfold Program.mayEnter
  rw [hw]
  simp only [hst, h1, h2, h3, List.head?_cons]
  simp
theorem laysL : Tryz.prog.laysLater = false := by kernel_rfl
theorem bearsR : Tryz.prog.bearsReflect = false := by kernel_rfl
theorem doorF : Tryz.prog.doorFits [] = true := by kernel_rfl
theorem initO : Tryz.prog.initOrder.toList.take 77 = "harness".toList ++ (Char.ofNat 32) :: ("3e57b43ad4fc89dab8b664a096e79e7034bec48aa89b9dc85442c340d9db0d62".toList ++ (Char.ofNat 32) :: ("cut".toList ++ [Char.ofNat 32])) := by kernel_rfl
theorem cfEnter : Tryz.prog.mayEnter = true := by
  refine enter_of (s := "3e57b43ad4fc89dab8b664a096e79e7034bec48aa89b9dc85442c340d9db0d62".toList) (r := Tryz.prog.initOrder.toList.drop 77) ?_ (by decide) laysL bearsR doorF
  have e := (List.take_append_drop 77 Tryz.prog.initOrder.toList).symm
  rw [initO] at e
  simpa using e
theorem cfMake : Tryz.prog.make = some Rows.fnExactConfKeyRow.make := by kernel_rfl
end Go.Proofs.YtmjamlboilmbfaaGreatDoor
namespace Go.Proofs.YtmjamlboilmbfaaGreatDoor
open Go.RowKit
def forL {σ ρ : Type} (body : Nat → σ → Lp σ ρ) : Nat → Nat → σ → Lp σ ρ
  | 0, _, s => .done s
  | m + 1, k, s => match body k s with
    | .next s' => forL body m (k + 1) s'
    | .done s' => .done s'
    | .ret r => .ret r
theorem runL_for {σ ρ τ : Type} {step : τ → Lp τ ρ} {body : Nat → σ → Lp σ ρ} (emb : Nat → σ → τ) (n : Nat)
    (h1 : ∀ k s, k < n → (∀ s', body k s = .next s' → step (emb k s) = .next (emb (k + 1) s')) ∧ (∀ r, body k s = .ret r → step (emb k s) = .ret r) ∧ (∀ s', body k s ≠ .done s'))
    (h2 : ∀ s, step (emb n s) = .done (emb n s)) : ∀ (m k : Nat) (s : σ), k + m = n → ∀ M, m < M → runL step M (emb k s) = (forL body m k s).fin Lp.ret (fun s' => .done (emb n s'))
  | 0, k, s, hk, M, hM => by
    obtain rfl : k = n := by omega
    obtain ⟨M, rfl⟩ := prev hM
    simp [runL, h2, forL, Lp.fin]
  | m + 1, k, s, hk, M, hM => by
    obtain ⟨M, rfl⟩ := prev hM
    obtain ⟨a, b, c⟩ := h1 k s (by omega)
    simp only [runL, forL]
    cases hb : body k s with
    | next s' =>
      rw [a s' hb]
      exact runL_for emb n h1 h2 m (k + 1) s' (by omega) M (by omega)
    | done s' => exact absurd hb (c s')
    | ret r => rw [b r hb]; rfl
where prev {a M : Nat} (h : a < M) : ∃ M', M = M' + 1 := ⟨M - 1, by omega⟩
theorem runL_rule {σ ρ τ : Type} {step : τ → Lp τ ρ} (emb : Nat → σ → τ) (n : Nat) (I : Nat → σ → Prop) (R : ρ → Prop)
    (h1 : ∀ k s, k < n → I k s → (∃ s', step (emb k s) = .next (emb (k + 1) s') ∧ I (k + 1) s') ∨ ∃ r, step (emb k s) = .ret r ∧ R r)
    (h2 : ∀ s, I n s → step (emb n s) = .done (emb n s)) : ∀ (m k : Nat) (s : σ), k + m = n → I k s → ∀ M, m < M → (∃ s', runL step M (emb k s) = .done (emb n s') ∧ I n s') ∨ ∃ r, runL step M (emb k s) = .ret r ∧ R r
  | 0, k, s, hk, hI, M, hM => by
    obtain rfl : k = n := by omega
    obtain ⟨M, rfl⟩ : ∃ M', M = M' + 1 := ⟨M - 1, by omega⟩
    exact .inl ⟨s, by simp [runL, h2 s hI], hI⟩
  | m + 1, k, s, hk, hI, M, hM => by
    obtain ⟨M, rfl⟩ : ∃ M', M = M' + 1 := ⟨M - 1, by omega⟩
    rcases h1 k s (by omega) hI with ⟨s', e, hI'⟩ | ⟨r, e, hr⟩
    · have := runL_rule emb n I R h1 h2 m (k + 1) s' (by omega) hI' M (by omega)
      simp only [runL, e]
      exact this
    · exact .inr ⟨r, by simp [runL, e], hr⟩
end Go.Proofs.YtmjamlboilmbfaaGreatDoor
namespace Go.Proofs.YtmjamlboilmbfaaGreatDoor
open Go.RowKit
theorem n0 (n : Nat) : Int.toNat ((n : Int) - 0) = n := by simp
theorem nn (n : Nat) : Int.toNat (n : Int) = n := by simp
theorem ltD {n : Nat} {k : Nat} (h : k < n) : decide ((k : Int) < (n : Int)) = true := by simp; omega
theorem geD {n : Nat} : decide ((n : Int) < (n : Int)) = false := by simp
theorem getD_nil {α : Type} [Inhabited α] (k : Nat) : ([] : List α).getD k default = default := rfl
theorem getD_cons_zero' {α : Type} [Inhabited α] (x : α) (xs : List α) : (x :: xs).getD 0 default = x := rfl
theorem getD_cons_succ' {α : Type} [Inhabited α] (x : α) (xs : List α) (k : Nat) : (x :: xs).getD (k + 1) default = xs.getD k default := rfl
theorem getD_ge {α : Type} [Inhabited α] (xs : List α) {k : Nat} (h : xs.length ≤ k) : xs.getD k default = default := by
  rw [List.getD_eq_getElem?_getD, List.getElem?_eq_none h]; rfl
theorem getD_lt {α : Type} [Inhabited α] (xs : List α) {k : Nat} (h : k < xs.length) : xs.getD k default = xs[k] := by
  rw [List.getD_eq_getElem?_getD, List.getElem?_eq_getElem h]; rfl
theorem getD_mem {α : Type} [Inhabited α] (xs : List α) {k : Nat} (h : k < xs.length) : xs.getD k default ∈ xs := by
  rw [getD_lt xs h]; exact List.getElem_mem h
theorem mem_getD {α : Type} [Inhabited α] {xs : List α} {x : α} (h : x ∈ xs) : ∃ k, k < xs.length ∧ xs.getD k default = x := by
  obtain ⟨k, hk, e⟩ := List.mem_iff_getElem.1 h
  exact ⟨k, hk, by rw [getD_lt xs hk]; exact e⟩
theorem take_set_next {α : Type} [Inhabited α] {s a : List α} {k : Nat} (hl : s.length = a.length) (h : s.take k = a.take k) (hk : k < a.length) : (s.set k (a.getD k default)).take (k + 1) = a.take (k + 1) := by
  rw [List.take_add_one, List.take_add_one, List.take_set_of_le (Nat.le_refl _), h, List.getElem?_set_self (by omega), List.getD_eq_getElem?_getD, List.getElem?_eq_getElem hk]
  rfl
theorem take_next {α : Type} [Inhabited α] {a : List α} {k : Nat} (hk : k < a.length) : a.take (k + 1) = a.take k ++ [a.getD k default] := by
  rw [List.take_add_one, List.getD_eq_getElem?_getD, List.getElem?_eq_getElem hk]
  rfl
theorem list_eq_of_getD {α : Type} [Inhabited α] {a b : List α} (hl : a.length = b.length) (h : ∀ k, k < a.length → a.getD k default = b.getD k default) : a = b := by
  refine List.ext_getElem hl fun k h1 h2 => ?_
  have := h k h1
  rwa [getD_lt a h1, getD_lt b h2] at this
theorem to_loop {α : Type} [Inhabited α] (f : α → α) (hf : ∀ x, f x = x) (a init : List α) (hi : init.length = a.length) (step : Int × List α → Lp (Int × List α) (List α))
    (hs : ∀ i xs, step (i, xs) = bif decide (i < (a.length : Int)) then .next (i + 1, xs.set (Int.toNat i) (f (a.getD (Int.toNat i) default))) else .done (i, xs)) :
    (runL step ((Int.toNat ((a.length : Int) - 0)) + 1) (0, init)).fin (fun r => r) (fun s => s.2) = a := by
  have h := runL_rule (step := step) (fun (k : Nat) (s : List α) => ((k : Int), s)) a.length (fun k s => s.length = a.length ∧ s.take k = a.take k) (fun _ => False)
    (fun k s hk ⟨h1, h2⟩ => .inl ⟨s.set k (a.getD k default), by simp [hs, hf, hk], by simp [h1], take_set_next h1 h2 hk⟩)
    (fun s _ => by simp [hs]) a.length 0 init (by omega) ⟨hi, by simp⟩ (a.length + 1) (Nat.lt_succ_self _)
  rw [n0]
  rcases h with ⟨s', h, h1, h2⟩ | ⟨r, _, h⟩
  · have h : runL step (a.length + 1) (0, init) = .done ((a.length : Int), s') := h
    rw [h]
    show s' = a
    rw [List.take_of_length_le (by omega), List.take_of_length_le (by omega)] at h2
    exact h2
  · exact h.elim
theorem eq_loop {α : Type} [Inhabited α] [DecidableEq α] (e : α → α → Bool) (he : ∀ x y, e x y = decide (x = y)) (a b : List α) (step : Int → Lp Int Bool)
    (hs : ∀ i, step i = bif (decide (i < (a.length : Int))) then (bif (!(e (a.getD (Int.toNat i) default) (b.getD (Int.toNat i) default))) then (.ret false) else (.next (i + 1))) else (.done i)) :
    (bif ((a.length : Int) != (b.length : Int)) then false else ((runL step ((Int.toNat ((a.length : Int) - 0)) + 1) 0).fin (fun r => r) (fun _ => true))) = decide (a = b) := by
  by_cases hl : a.length = b.length
  · have hc : ((a.length : Int) != (b.length : Int)) = false := by simp [hl]
    rw [hc, cond_false]
    have h := runL_rule (step := step) (fun (k : Nat) (_ : Unit) => (k : Int)) a.length (fun k _ => ∀ j, j < k → a.getD j default = b.getD j default) (fun r => r = false ∧ a ≠ b)
      (fun k _ hk hI => by
        have hc := ltD hk
        by_cases hx : a.getD k default = b.getD k default
        · refine .inl ⟨(), ?_, fun j hj => ?_⟩
          · rw [hs, he, Int.toNat_natCast, hc, hx, decide_eq_true rfl]
            rfl
          · rcases Nat.lt_succ_iff_lt_or_eq.1 hj with h | h
            · exact hI j h
            · exact h ▸ hx
        · refine .inr ⟨false, ?_, rfl, fun e => hx (e ▸ rfl)⟩
          rw [hs, he, Int.toNat_natCast, hc, decide_eq_false hx]
          rfl)
      (fun s _ => by rw [hs]; simp) a.length 0 () (by omega) (fun j hj => by omega) (a.length + 1) (Nat.lt_succ_self _)
    rw [n0]
    rcases h with ⟨_, h, hI⟩ | ⟨r, h, rfl, hne⟩
    · have h : runL step (a.length + 1) 0 = .done (a.length : Int) := h
      rw [h]
      have := list_eq_of_getD hl hI
      simp [Lp.fin, this]
    · have h : runL step (a.length + 1) 0 = .ret false := h
      rw [h]
      simp [Lp.fin, hne]
  · have hc : ((a.length : Int) != (b.length : Int)) = true := by simp; omega
    rw [hc, cond_true]
    symm
    simp only [decide_eq_false_iff_not]
    exact fun e => hl (e ▸ rfl)
def Mk {α : Type} (m : α → Int → Int × α) (h : α → Int → Int) (L : α → Nat) : Prop :=
  ∀ x k, 0 ≤ k → k + (L x : Int) < 9223372036854775807 → (m x k).1 = k + L x ∧ h (m x k).2 k = k + L x
def sumL {α : Type} (L : α → Nat) (xs : List α) : Nat := (xs.map L).foldr (· + ·) 0
theorem sumL_nil {α : Type} (L : α → Nat) : sumL L [] = 0 := rfl
theorem sumL_cons {α : Type} (L : α → Nat) (x : α) (xs : List α) : sumL L (x :: xs) = L x + sumL L xs := rfl
theorem sumL_le {α : Type} (L : α → Nat) (c : Nat) : ∀ (xs : List α), (∀ x ∈ xs, L x ≤ c) → sumL L xs ≤ xs.length * c
  | [], _ => Nat.zero_le _
  | x :: xs, h => by
    rw [sumL_cons, List.length_cons, Nat.add_one_mul]
    have h1 := h x List.mem_cons_self
    have h2 := sumL_le L c xs fun y hy => h y (List.mem_cons_of_mem _ hy)
    omega
theorem sumL_take {α : Type} [Inhabited α] (L : α → Nat) (xs : List α) {k : Nat} (hk : k < xs.length) : sumL L xs = sumL L (xs.take k) + L (xs.getD k default) + sumL L (xs.drop (k + 1)) := by
  induction xs generalizing k with
  | nil => simp at hk
  | cons x xs ih =>
    cases k with
    | zero => simp [sumL_cons, sumL_nil]
    | succ k =>
      have := ih (k := k) (by simpa using hk)
      simp only [List.take_succ_cons, sumL_cons, getD_cons_succ', List.drop_succ_cons]
      omega
theorem sumL_take_le {α : Type} [Inhabited α] (L : α → Nat) (xs : List α) (k : Nat) : sumL L (xs.take k) ≤ sumL L xs := by
  induction xs generalizing k with
  | nil => simp
  | cons x xs ih =>
    cases k with
    | zero => simp [sumL_nil]
    | succ k => simp only [List.take_succ_cons, sumL_cons]; have := ih k; omega
theorem sumL_take_next {α : Type} [Inhabited α] (L : α → Nat) (xs : List α) {k : Nat} (hk : k < xs.length) : sumL L (xs.take (k + 1)) = sumL L (xs.take k) + L (xs.getD k default) := by
  induction xs generalizing k with
  | nil => simp at hk
  | cons x xs ih =>
    cases k with
    | zero => simp [sumL_cons, sumL_nil]
    | succ k =>
      have := ih (k := k) (by simpa using hk)
      simp only [List.take_succ_cons, sumL_cons, getD_cons_succ']
      omega
theorem mark_loop {α : Type} [Inhabited α] (m : α → Int → Int × α) (h : α → Int → Int) (L : α → Nat) (hm : Mk m h L) (F : List α → Int → Int × List α) (H : List α → Int → Int) (st : List α → Int → Int × Int × List α → Lp (Int × Int × List α) (Int × List α)) (sh : List α → Int → Int × Int → Lp (Int × Int) Int)
    (hF : ∀ a k, F a k = (runL (st a k) ((Int.toNat ((a.length : Int) - 0)) + 1) (k, 0, a)).fin (fun r => r) (fun s => (s.1, s.2.2)))
    (hst : ∀ a k0 k i xs, st a k0 (k, i, xs) = bif decide (i < (xs.length : Int)) then .next ((m (xs.getD (Int.toNat i) default) k).1, i + 1, xs.set (Int.toNat i) (m (xs.getD (Int.toNat i) default) k).2) else .done (k, i, xs))
    (hH : ∀ a k, H a k = (runL (sh a k) ((Int.toNat ((a.length : Int) - 0)) + 1) (k, 0)).fin (fun r => r) (fun s => s.1))
    (hsh : ∀ a k0 k i, i < (a.length : Int) → 0 ≤ i → 0 ≤ h (a.getD (Int.toNat i) default) k → sh a k0 (k, i) = .next (h (a.getD (Int.toNat i) default) k, i + 1))
    (hsd : ∀ a k0 k, sh a k0 (k, (a.length : Int)) = .done (k, (a.length : Int))) : Mk F H (sumL L) := by
  intro a k hk0 hk
  have hh := runL_rule (step := st a k) (fun (i : Nat) (s : Int × List α) => (s.1, (i : Int), s.2)) a.length
    (fun i s => s.2.length = a.length ∧ s.1 = k + sumL L (a.take i) ∧ (∀ j, i ≤ j → s.2.getD j default = a.getD j default) ∧ ∀ j, j < i → s.2.getD j default = (m (a.getD j default) (k + sumL L (a.take j))).2) (fun _ => False)
    (fun i s hi ⟨h1, h2, h3, h4⟩ => by
      obtain ⟨k1, xs⟩ := s
      simp only at h1 h2 h3 h4
      refine .inl ⟨((m (xs.getD i default) k1).1, xs.set i (m (xs.getD i default) k1).2), ?_, by simp [h1], ?_, fun j hj => ?_, fun j hj => ?_⟩
      · rw [hst, h1, ltD hi, Int.toNat_natCast]; rfl
      · simp only
        rw [h3 i (Nat.le_refl _), h2, sumL_take_next L a hi]
        have hs := sumL_take L a hi
        rw [(hm (a.getD i default) (k + sumL L (a.take i)) (by omega) (by omega)).1]
        omega
      · simp only
        rw [List.getD_eq_getElem?_getD, List.getElem?_set_ne (by omega), ← List.getD_eq_getElem?_getD]
        exact h3 j (by omega)
      · simp only
        rcases Nat.lt_succ_iff_lt_or_eq.1 hj with hj | rfl
        · rw [List.getD_eq_getElem?_getD, List.getElem?_set_ne (by omega), ← List.getD_eq_getElem?_getD]
          exact h4 j hj
        · rw [List.getD_eq_getElem?_getD, List.getElem?_set_self (by omega), h3 j (Nat.le_refl _), h2]; rfl)
    (fun s ⟨h1, _⟩ => by rw [hst, h1, geD]; rfl) a.length 0 (k, a) (by omega) ⟨rfl, by simp [sumL_nil], fun _ _ => rfl, fun j hj => by omega⟩ (a.length + 1) (Nat.lt_succ_self _)
  rcases hh with ⟨⟨k1, xs⟩, hh, h1, h2, h3, h4⟩ | ⟨_, _, hh⟩
  case inr => exact hh.elim
  simp only at h1 h2 h3 h4
  have hh : runL (st a k) (a.length + 1) (k, 0, a) = .done (k1, (a.length : Int), xs) := hh
  have eF : F a k = (k1, xs) := by rw [hF, n0, hh]; rfl
  rw [List.take_of_length_le (Nat.le_refl _)] at h2
  rw [eF]
  refine ⟨h2, ?_⟩
  simp only
  have h5 := runL_rule (step := sh xs k) (fun (i : Nat) (s : Int) => (s, (i : Int))) xs.length (fun i s => s = k + sumL L (a.take i)) (fun _ => False)
    (fun i s hi h2 => by
      have hi' : i < a.length := by omega
      have hs := sumL_take L a hi'
      have hr := (hm (a.getD i default) (k + sumL L (a.take i)) (by omega) (by omega)).2
      rw [← h4 i hi', ← h2] at hr
      refine .inl ⟨h (xs.getD i default) s, ?_, ?_⟩
      · have := hsh xs k s (i : Int) (by omega) (by omega) (by rw [Int.toNat_natCast, hr]; omega)
        rw [Int.toNat_natCast] at this
        exact this
      · rw [hr, sumL_take_next L a hi']; omega)
    (fun s _ => hsd xs k s) xs.length 0 k (by omega) (by simp [sumL_nil]) (xs.length + 1) (Nat.lt_succ_self _)
  rcases h5 with ⟨k2, h5, h6⟩ | ⟨_, _, h5⟩
  case inr => exact h5.elim
  have h5 : runL (sh xs k) (xs.length + 1) (k, 0) = .done (k2, (xs.length : Int)) := h5
  rw [hH, n0, h5]
  show k2 = _
  rw [h6, List.take_of_length_le (by omega)]
theorem sz_loop {α : Type} [Inhabited α] (sz : α → Int → Int) (P : α → Prop) (h : ∀ x l, 0 ≤ l → l ≤ 1048576 → 0 ≤ sz x l → P x ∧ sz x l ≤ l) (a : List α) (step : Int × Int → Lp (Int × Int) Int) (l0 : Int) (h0 : 0 ≤ l0) (h1 : l0 ≤ 1048576)
    (hs : ∀ l i, step (l, i) = bif (decide (i < (a.length : Int))) then (bif (decide (sz (a.getD (Int.toNat i) default) l < 0)) then (.ret (-1)) else (.next (sz (a.getD (Int.toNat i) default) l, i + 1))) else (.done (l, i)))
    (hr : 0 ≤ (runL step ((Int.toNat ((a.length : Int) - 0)) + 1) (l0, 0)).fin (fun r => r) (fun s => s.1)) :
    (∀ k, k < a.length → P (a.getD k default)) ∧ (runL step ((Int.toNat ((a.length : Int) - 0)) + 1) (l0, 0)).fin (fun r => r) (fun s => s.1) ≤ l0 := by
  rw [n0] at hr ⊢
  have hh := runL_rule (step := step) (fun (i : Nat) (l : Int) => (l, (i : Int))) a.length (fun i l => 0 ≤ l ∧ l ≤ l0 ∧ ∀ k, k < i → P (a.getD k default)) (fun r => r = -1)
    (fun i l hi ⟨g1, g2, g3⟩ => by
      by_cases hx : sz (a.getD i default) l < 0
      · refine .inr ⟨-1, ?_, rfl⟩
        rw [hs, ltD hi, Int.toNat_natCast, decide_eq_true hx]; rfl
      · refine .inl ⟨sz (a.getD i default) l, ?_, by omega, ?_, fun k hk => ?_⟩
        · rw [hs, ltD hi, Int.toNat_natCast, decide_eq_false hx]; rfl
        · have := (h (a.getD i default) l g1 (by omega) (by omega)).2; omega
        · rcases Nat.lt_succ_iff_lt_or_eq.1 hk with hk | rfl
          · exact g3 k hk
          · exact (h _ l g1 (by omega) (by omega)).1)
    (fun l _ => by rw [hs, geD]; rfl) a.length 0 l0 (by omega) ⟨h0, Int.le_refl _, fun k hk => by omega⟩ (a.length + 1) (Nat.lt_succ_self _)
  rcases hh with ⟨l, hh, g1, g2, g3⟩ | ⟨r, hh, rfl⟩
  · have hh : runL step (a.length + 1) (l0, 0) = .done (l, (a.length : Int)) := hh
    rw [hh]
    exact ⟨g3, g2⟩
  · have hh : runL step (a.length + 1) (l0, 0) = .ret (-1) := hh
    rw [hh] at hr
    exact absurd hr (by decide)
theorem wrap_of {n : Int} (h1 : -9223372036854775808 ≤ n) (h2 : n ≤ 9223372036854775807) : IntKind.i64.wrap n = n := wrap_in h1 h2
theorem neg_lt {k : Int} (h : 0 ≤ k) : decide (k < 0) = false := by simp; omega
theorem hs_step {c : Bool} {v : Int} (h : 0 ≤ bif c then -1 else v) : c = false ∧ 0 ≤ v := by
  cases c
  · exact ⟨rfl, h⟩
  · have h : (0 : Int) ≤ -1 := h
    omega
theorem neI (a b : Int) : (a != b) = !decide (a = b) := by
  by_cases h : a = b <;> simp [h]
theorem neB (a b : Bool) : (!(a == b)) = !decide (a = b) := by
  cases a <;> cases b <;> rfl
theorem eqstep (p r : Bool) : (bif (!p) then false else r) = (p && r) := by cases p <;> rfl
theorem bandd (p q : Bool) : (bif p then q else false) = (p && q) := by cases p <;> rfl
theorem bord (p q : Bool) : (bif p then true else q) = (p || q) := by cases p <;> rfl
theorem geleD (a b : Int) : decide (a ≥ b) = decide (b ≤ a) := rfl
theorem gtltD (a b : Int) : decide (a > b) = decide (b < a) := rfl
theorem byteToList (a : ByteArray) : a.toList = a.data.toList := ByteArray.toList_eq a
theorem byte_inj {a b : ByteArray} (h : a.toList = b.toList) : a = b := by
  rw [byteToList, byteToList] at h
  cases a; cases b
  simp only [ByteArray.mk.injEq]
  exact Array.ext' h
theorem neS (a b : ByteArray) : (!(a.toList == b.toList)) = !decide (a = b) := by
  by_cases h : a = b
  · simp [h]
  · have : ¬ a.toList = b.toList := fun e => h (byte_inj e)
    simp [h, this]
end Go.Proofs.YtmjamlboilmbfaaGreatDoor
namespace Go.Proofs.YtmjamlboilmbfaaGreatDoor
open Go.RowKit
def first (p : Nat → Bool) (n : Nat) : Option Nat := (List.range n).find? p
theorem first_some {p : Nat → Bool} {n k : Nat} : first p n = some k ↔ k < n ∧ p k = true ∧ ∀ j, j < k → p j = false := by
  unfold first
  rw [List.find?_range_eq_some]
  constructor
  · rintro ⟨h1, h2, h3⟩
    exact ⟨by simpa using h2, h1, fun j hj => by simpa using h3 j hj⟩
  · rintro ⟨h1, h2, h3⟩
    exact ⟨h2, by simpa using h1, fun j hj => by simpa using h3 j hj⟩
theorem first_none {p : Nat → Bool} {n : Nat} : first p n = none ↔ ∀ k, k < n → p k = false := by
  unfold first
  rw [List.find?_range_eq_none]
  simp
theorem first_congr {p q : Nat → Bool} {n : Nat} (h : ∀ k, k < n → p k = q k) : first p n = first q n := by
  cases e : first q n with
  | none =>
    rw [first_none] at *
    exact fun k hk => (h k hk).trans (e k hk)
  | some k =>
    rw [first_some] at *
    exact ⟨e.1, (h k e.1).trans e.2.1, fun j hj => (h j (by omega)).trans (e.2.2 j hj)⟩
theorem search {ρ τ : Type} (p : Nat → Bool) (r : Nat → ρ) (n : Nat) (step : Int → Lp Int ρ) (hs : ∀ k : Nat, k < n → step (k : Int) = bif p k then .ret (r k) else .next ((k : Int) + 1)) (he : step (n : Int) = .done (n : Int)) (f : ρ → τ) (g : Int → τ) :
    (runL step ((Int.toNat ((n : Int) - 0)) + 1) 0).fin f g = match first p n with | some k => f (r k) | none => g n := by
  have h := runL_rule (step := step) (fun (k : Nat) (_ : Unit) => (k : Int)) n (fun k _ => ∀ j, j < k → p j = false) (fun x => ∃ k, first p n = some k ∧ x = r k)
    (fun k _ hk hI => by
      cases hp : p k with
      | false =>
        refine .inl ⟨(), by rw [hs k hk, hp]; rfl, fun j hj => ?_⟩
        rcases Nat.lt_succ_iff_lt_or_eq.1 hj with h | rfl
        · exact hI j h
        · exact hp
      | true => exact .inr ⟨r k, by rw [hs k hk, hp]; rfl, k, first_some.2 ⟨hk, hp, hI⟩, rfl⟩)
    (fun _ _ => he) n 0 () (by omega) (fun j hj => by omega) (n + 1) (Nat.lt_succ_self _)
  rw [n0]
  rcases h with ⟨_, h, hI⟩ | ⟨x, h, k, hk, rfl⟩
  · have h : runL step (n + 1) 0 = .done (n : Int) := h
    rw [h, first_none.2 hI]; rfl
  · have h : runL step (n + 1) 0 = .ret (r k) := h
    rw [h, hk]; rfl
theorem allB (p : Nat → Bool) (n : Nat) (step : Int → Lp Int Bool) (hs : ∀ k : Nat, k < n → step (k : Int) = bif p k then .ret false else .next ((k : Int) + 1)) (he : step (n : Int) = .done (n : Int)) (g : Int → Bool) :
    (runL step ((Int.toNat ((n : Int) - 0)) + 1) 0).fin (fun r => r) g = ((first p n).isNone && g n) := by
  rw [search p (fun _ => false) n step hs he]
  all_goals (cases first p n <;> rfl)
theorem allB_iff {p : Nat → Bool} {n : Nat} : (first p n).isNone = true ↔ ∀ k, k < n → p k = false := by
  rw [Option.isNone_iff_eq_none, first_none]
theorem runL_congr {τ ρ : Type} {step step' : τ → Lp τ ρ} (I : τ → Prop) (h1 : ∀ s, I s → step s = step' s) (h2 : ∀ s s', I s → step s = .next s' → I s') : ∀ (m : Nat) (s : τ), I s → runL step m s = runL step' m s
  | 0, _, _ => rfl
  | m + 1, s, hs => by
    simp only [runL]
    rw [← h1 s hs]
    cases e : step s with
    | next s' => exact runL_congr I h1 h2 m s' (h2 s s' hs e)
    | done s' => rfl
    | ret r => rfl
def forS {σ ρ : Type} (body : Nat → σ → Lp σ ρ) : Nat → Nat → σ → Lp σ ρ
  | 0, _, s => .done s
  | m + 1, k, s => match body k s with
    | .next s' => forS body m (k + 1) s'
    | .done s' => .done s'
    | .ret r => .ret r
theorem app_loop {α β ρ : Type} [Inhabited α] (f : α → β) (a : List α) (init : List β) (step : Int × List β → Lp (Int × List β) ρ)
    (hs : ∀ (k : Nat) xs, k < a.length → step ((k : Int), xs) = .next ((k : Int) + 1, xs ++ [f (a.getD k default)])) (he : ∀ xs, step ((a.length : Int), xs) = .done ((a.length : Int), xs)) :
    runL step ((Int.toNat ((a.length : Int) - 0)) + 1) (0, init) = .done ((a.length : Int), init ++ a.map f) := by
  have h := runL_rule (step := step) (fun (k : Nat) (s : List β) => ((k : Int), s)) a.length (fun k s => s = init ++ (a.take k).map f) (fun _ => False)
    (fun k s hk hI => .inl ⟨s ++ [f (a.getD k default)], hs k s hk, by rw [hI, take_next hk, List.map_append, List.append_assoc]; rfl⟩)
    (fun s _ => he s) a.length 0 init (by omega) (by simp) (a.length + 1) (Nat.lt_succ_self _)
  rw [n0]
  rcases h with ⟨s', h, hI⟩ | ⟨_, _, h⟩
  · rw [List.take_length] at hI
    rw [← hI]; exact h
  · exact h.elim
def oix : Option Nat → Int
  | some k => (k : Int)
  | none => -1
theorem oix_lt {p : Nat → Bool} {n : Nat} : oix (first p n) < (n : Int) := by
  cases h : first p n with
  | none => simp only [oix]; omega
  | some k => have := (first_some.1 h).1; simp only [oix]; omega
theorem oix_ge (o : Option Nat) : -1 ≤ oix o := by cases o <;> simp only [oix] <;> omega
theorem oix_neg {o : Option Nat} : oix o < 0 ↔ o = none := by
  cases o with
  | none => simp [oix]
  | some k => simp [oix]
theorem oix_some {o : Option Nat} (h : ¬ oix o < 0) : o = some (oix o).toNat := by
  cases o with
  | none => exact absurd (by decide) h
  | some k => simp [oix]
def idxI {α : Type} [Inhabited α] (p : α → Bool) (xs : List α) : Int := oix (first (fun k => p (xs.getD k default)) xs.length)
theorem idx_loop {α : Type} [Inhabited α] (p : α → Bool) (xs : List α) (step : Int → Lp Int Int)
    (hs : ∀ i, step i = bif decide (i < (xs.length : Int)) then (bif p (xs.getD (Int.toNat i) default) then .ret i else .next (i + 1)) else .done i) :
    (runL step ((Int.toNat ((xs.length : Int) - 0)) + 1) 0).fin (fun r => r) (fun _ => -1) = idxI p xs := by
  rw [search (fun k => p (xs.getD k default)) (fun k => (k : Int)) xs.length step (fun k hk => by rw [hs, ltD hk, nn]; rfl) (by rw [hs, geD]; rfl)]
  unfold idxI
  all_goals (cases first (fun k => p (xs.getD k default)) xs.length <;> rfl)
theorem any_idx {α : Type} [Inhabited α] (p : α → Bool) (xs : List α) : decide (idxI p xs ≥ 0) = xs.any p := by
  rw [Bool.eq_iff_iff, decide_eq_true_eq, List.any_eq_true]
  constructor
  · intro h
    have h' : ¬ idxI p xs < 0 := by omega
    have h2 := first_some.1 (oix_some h')
    exact ⟨_, getD_mem xs h2.1, h2.2.1⟩
  · rintro ⟨x, hx, hp⟩
    obtain ⟨k, hk, rfl⟩ := mem_getD hx
    rcases Int.lt_or_le (idxI p xs) 0 with h | h
    · have := first_none.1 (oix_neg.1 h) k hk
      simp only [hp] at this
      cases this
    · exact h
theorem mem_idx {α : Type} [Inhabited α] [DecidableEq α] (v : α) (xs : List α) : xs.any (fun y => decide (v = y)) = decide (v ∈ xs) := by
  rw [Bool.eq_iff_iff, List.any_eq_true, decide_eq_true_eq]
  constructor
  · rintro ⟨x, hx, h⟩
    rw [of_decide_eq_true h]; exact hx
  · exact fun h => ⟨v, h, by simp⟩
theorem idxI_lt {α : Type} [Inhabited α] (p : α → Bool) (xs : List α) : idxI p xs < (xs.length : Int) := oix_lt
theorem idxI_ge {α : Type} [Inhabited α] (p : α → Bool) (xs : List α) : -1 ≤ idxI p xs := oix_ge _
theorem beqD (a b : Int) : (a == b) = decide (a = b) := by
  by_cases h : a = b <;> simp [h]
theorem toNat_pred (k : Nat) : Int.toNat ((k : Int) - 1) = k - 1 := by omega
theorem pos_cast (k : Nat) : decide ((k : Int) > 0) = decide (0 < k) := by simp
theorem ret_or {ρ : Type} (a b : Bool) (r : ρ) (s : Int) : (bif a then (Lp.ret r : Lp Int ρ) else bif b then .ret r else .next s) = bif (a || b) then .ret r else .next s := by cases a <;> rfl
theorem set_take_next {α : Type} (xs : List α) {i : Nat} (a : α) (h : i < xs.length) : (xs.set i a).take (i + 1) = xs.take i ++ [a] := by
  rw [List.take_add_one, List.take_set_of_le (Nat.le_refl _), List.getElem?_set_self h]; rfl
theorem filter_take_next {α : Type} [Inhabited α] (p : α → Bool) (s : List α) {k : Nat} (h : k < s.length) : (s.take (k + 1)).filter p = (s.take k).filter p ++ (if p (s.getD k default) then [s.getD k default] else []) := by
  rw [take_next h, List.filter_append]
  congr 1
  simp only [List.filter_cons, List.filter_nil]
theorem del_loop {α : Type} [Inhabited α] (del : α → Bool) (s : List α) (z : α) (step : Int × Int × List α → Lp (Int × Int × List α) (List α))
    (hs : ∀ i j xs, step (i, j, xs) = bif decide (j < (xs.length : Int)) then (bif (!(del (xs.getD (Int.toNat j) default))) then .next (i + 1, j + 1, xs.set (Int.toNat i) (xs.getD (Int.toNat j) default)) else .next (i, j + 1, xs)) else .done (i, j, xs)) :
    (bif (idxI del s == (-1)) then s else (((runL step ((Int.toNat ((s.length : Int) - (idxI del s + 1))) + 1) (idxI del s, idxI del s + 1, s)).fin Lp.ret (fun x => (Lp.done (x.2.2, x.1) : Lp (List α × Int) (List α)))).fin (fun r => r) (fun x => ((x.1.take (Int.toNat x.2) ++ List.replicate (x.1.drop (Int.toNat x.2)).length z ++ x.1.drop (Int.toNat x.2 + (x.1.drop (Int.toNat x.2)).length)).take (Int.toNat x.2))))) = s.filter (fun x => !(del x)) := by
  unfold idxI
  cases e : first (fun k => del (s.getD k default)) s.length with
  | none =>
    have hn := first_none.1 e
    have e1 : (oix (none : Option Nat) == (-1 : Int)) = true := rfl
    rw [e1, cond_true]
    symm
    refine List.filter_eq_self.2 fun x hx => ?_
    obtain ⟨k, hk, rfl⟩ := mem_getD hx
    simpa using hn k hk
  | some k0 =>
    obtain ⟨h1, h2, h3⟩ := first_some.1 e
    have e1 : (oix (some k0) == (-1 : Int)) = false := by rw [beqD]; exact decide_eq_false (by simp only [oix]; omega)
    rw [e1, cond_false]
    simp only [oix]
    have hpre : (s.take (k0 + 1)).filter (fun x => !(del x)) = s.take k0 := by
      rw [filter_take_next _ _ h1]
      simp only [h2, Bool.not_true, Bool.false_eq_true, if_false, List.append_nil]
      refine List.filter_eq_self.2 fun x hx => ?_
      obtain ⟨k, hk, rfl⟩ := List.mem_iff_getElem.1 hx
      have hk' : k < k0 := by simp at hk; omega
      have := h3 k hk'
      rw [getD_lt s (by omega)] at this
      simpa using this
    have h := runL_rule (step := step) (fun (k : Nat) (x : Nat × List α) => ((x.1 : Int), (k : Int), x.2)) s.length
      (fun k x => x.1 < k ∧ x.2.length = s.length ∧ x.2.take x.1 = (s.take k).filter (fun x => !(del x)) ∧ ∀ m, k ≤ m → x.2.getD m default = s.getD m default) (fun _ => False)
      (fun k x hk ⟨g1, g2, g3, g4⟩ => by
        obtain ⟨i, xs⟩ := x
        simp only at g1 g2 g3 g4
        have hx := g4 k (Nat.le_refl _)
        cases hd : del (s.getD k default) with
        | false =>
          refine .inl ⟨(i + 1, xs.set i (s.getD k default)), ?_, by simp only; omega, by simp [g2], ?_, fun m hm => ?_⟩
          · rw [hs, g2, ltD hk, nn, hx, hd]
            simp only [cond_true, Bool.not_false, nn]
            rfl
          · simp only
            rw [set_take_next xs _ (by omega), g3, filter_take_next _ _ hk, hd]
            rfl
          · simp only
            rw [List.getD_eq_getElem?_getD, List.getElem?_set_ne (by omega), ← List.getD_eq_getElem?_getD]
            exact g4 m (by omega)
        | true =>
          refine .inl ⟨(i, xs), ?_, by simp only; omega, g2, ?_, fun m hm => g4 m (by omega)⟩
          · rw [hs, g2, ltD hk, nn, hx, hd]
            simp only [cond_true, Bool.not_true, cond_false]
            rfl
          · simp only
            rw [g3, filter_take_next _ _ hk, hd]
            simp)
      (fun x ⟨_, g2, _, _⟩ => by rw [hs, g2, geD]; rfl) (s.length - (k0 + 1)) (k0 + 1) (k0, s) (by omega) ⟨Nat.lt_succ_self _, rfl, hpre.symm, fun _ _ => rfl⟩ (s.length - (k0 + 1) + 1) (Nat.lt_succ_self _)
    have ef : Int.toNat ((s.length : Int) - ((k0 : Int) + 1)) = s.length - (k0 + 1) := by omega
    rw [ef]
    rcases h with ⟨⟨i, xs⟩, h, g1, g2, g3, g4⟩ | ⟨_, _, h⟩
    · have h : runL step (s.length - (k0 + 1) + 1) ((k0 : Int), (k0 : Int) + 1, s) = .done ((i : Int), (s.length : Int), xs) := h
      simp only at g1 g2 g3
      rw [h]
      simp only [Lp.fin, nn]
      rw [List.take_length] at g3
      rw [← g3, List.append_assoc, List.take_append_of_le_length (by simp; omega), List.take_take, Nat.min_self]
    · exact h.elim
end Go.Proofs.YtmjamlboilmbfaaGreatDoor
namespace Go.Proofs.YtmjamlboilmbfaaGreatDoor
open Go.RowKit
set_option linter.unusedVariables false
set_option linter.unusedSimpArgs false
def RdAll (S : Nat → Prop) (w : World) : List (Value × Dat) → Prop
  | [] => True
  | p :: r => RdV S w p.2 p.1 ∧ RdAll S w r
theorem RdAll.mono {S S' : Nat → Prop} {w w' : World} (hs : ∀ b, S b → S' b ∧ w'.heap[b]? = w.heap[b]?) : ∀ {ds : List (Value × Dat)}, RdAll S w ds → RdAll S' w' ds
  | [], _ => trivial
  | p :: r, h => ⟨RdV.mono hs p.2 p.1 h.1, RdAll.mono hs h.2⟩
def LX (ds : List (Value × Dat)) : FX where
  rd S w y := y.oneCell' = true ∧ RdAll S w ds
  ow w y fp := (y.oneCell' = true ∧ RdAll (· ∈ fp) w ds) ∧ fp.Nodup ∧ ∀ b ∈ fp, b < w.heap.size
  mono S S' w w' y hs h := ⟨h.1, h.2.mono hs⟩
  one S w y h := h.1
  keep w w' y fp hk h := ⟨⟨h.1.1, h.1.2.mono fun b hb => ⟨hb, hk b hb⟩⟩, h.2.1, fun b hb => lt_of_same (h.2.2 b hb) (hk b hb)⟩
  lt w y fp h := h.2.2
  nd w y fp h := h.2.1
  rdo w y fp h := h.1
def BX (s : ByteArray) (n : Nat) : FX where
  rd S w y := y = .string s ∧ s.size ≤ n
  ow w y fp := (y = .string s ∧ s.size ≤ n) ∧ fp = []
  mono S S' w w' y hs h := h
  one S w y h := by rw [h.1]; rfl
  keep w w' y fp hk h := h
  lt w y fp h b hb := by rw [h.2] at hb; cases hb
  nd w y fp h := by rw [h.2]; exact List.nodup_nil
  rdo w y fp h := h.1
theorem Imp.bx {s : ByteArray} {n : Nat} (h : s.size ≤ n) : Imp (.v (.string s)) (.x (BX s n)) := ⟨fun S w y hy => ⟨hy.1, h⟩, fun w y fp hy => ⟨⟨hy.1, h⟩, hy.2.2⟩⟩
theorem ok_bx {P : Program} {f : FuncId} {i : ByteArray} {n : Nat} {cap : List Arg} {r : RT} {D : Bool} (h : Spec.ok P f ⟨.r (.c (.v (.string i))) :: cap, r, i.size ≤ n⟩ D) : Spec.ok P f ⟨.r (.c (.x (BX i n))) :: cap, r, True⟩ D := by
  intro _ S w vs fp hS hG ha
  obtain ⟨u, us, f1, g1, rfl, ⟨h1, h1'⟩, h2, rfl, h3⟩ := ha
  obtain ⟨rfl, hn⟩ : u = .string i ∧ i.size ≤ n := h1
  have := h hn S w (.string i :: us) (f1 ++ g1) hS hG ⟨_, us, f1, g1, rfl, ⟨⟨rfl, rfl⟩, h1'⟩, h2, rfl, h3⟩
  refine this.mono fun e w' ⟨rv, fr, fb, e1, e2, e3, e4⟩ => ⟨rv, fr, fb, e1, e2, ?_, e4⟩
  obtain ⟨u', us', f', g', k1, k2, k3, k4⟩ := e3
  simp only [List.cons.injEq] at k1
  obtain ⟨rfl, rfl⟩ := k1
  exact ⟨_, _, f', g', rfl, k2, k3, k4⟩
def PX (d : Dat) (Q : Prop) : FX where
  rd S w y := RdV S w d y ∧ Q
  ow w y fp := OwV w d y fp ∧ Q
  mono S S' w w' y hs h := ⟨RdV.mono hs d y h.1, h.2⟩
  one S w y h := h.1.one
  keep w w' y fp hk h := ⟨OwV.keep d y fp hk h.1, h.2⟩
  lt w y fp h := OwV.lt d y fp h.1
  nd w y fp h := h.1.nd
  rdo w y fp h := ⟨OwV.rd d y fp h.1, h.2⟩
theorem Imp.px {d : Dat} {Q : Prop} (h : Q) : Imp d (.x (PX d Q)) := ⟨fun S w y hy => ⟨hy, h⟩, fun w y fp hy => ⟨hy, h⟩⟩
def pxH : List Dat → Prop → List Dat
  | [], _ => []
  | d :: ds, Q => .x (PX d Q) :: ds
theorem Imps.pxH {ds : List Dat} {Q : Prop} (h : Q) : Imps ds (pxH ds Q) := by
  cases ds with
  | nil => trivial
  | cons d ds => exact ⟨Imp.px h, Imps.refl ds⟩
theorem ok_arg {P : Program} {f : FuncId} {a b : RA} {Q : Prop} {cap : List Arg} {r : RT} {D : Bool} (hab : ∀ S w v, RdArg S w b v → RdArg S w a v ∧ Q) (h : Spec.ok P f ⟨.r a :: cap, r, Q⟩ D) : Spec.ok P f ⟨.r b :: cap, r, True⟩ D := by
  intro _ S w vs fp hS hG ha
  obtain ⟨u, us, f1, g1, rfl, ⟨h1, h1'⟩, h2, rfl, h3⟩ := ha
  obtain ⟨k1, hn⟩ := hab S w u h1
  have := h hn S w (u :: us) (f1 ++ g1) hS hG ⟨_, us, f1, g1, rfl, ⟨k1, h1'⟩, h2, rfl, h3⟩
  refine this.mono fun e w' ⟨rv, fr, fb, e1, e2, e3, e4⟩ => ⟨rv, fr, fb, e1, e2, ?_, e4⟩
  obtain ⟨u', us', f', g', k1, k2, k3, k4⟩ := e3
  simp only [List.cons.injEq] at k1
  obtain ⟨rfl, rfl⟩ := k1
  exact ⟨_, _, f', g', rfl, k2, k3, k4⟩
theorem ok_px {P : Program} {f : FuncId} {d : Dat} {Q : Prop} {cap : List Arg} {r : RT} {D : Bool} (h : Spec.ok P f ⟨.r (.c d) :: cap, r, Q⟩ D) : Spec.ok P f ⟨.r (.c (.x (PX d Q))) :: cap, r, True⟩ D :=
  ok_arg (a := .c d) (Q := Q) (fun S w v hv => hv) h
theorem ok_pxH {P : Program} {f : FuncId} {d : Dat} {ds : List Dat} {Q : Prop} {cap : List Arg} {r : RT} {D : Bool} (h : Spec.ok P f ⟨.r (.g (d :: ds)) :: cap, r, Q⟩ D) : Spec.ok P f ⟨.r (.g (pxH (d :: ds) Q)) :: cap, r, True⟩ D :=
  ok_arg (fun S w v hv => by
    obtain ⟨vs, e, u, us, rfl, h1, h2⟩ := hv
    exact ⟨⟨_, e, u, us, rfl, h1.1, h2⟩, h1.2⟩) h
def toSV : Value → SV
  | .slice a n c => ⟨a, n, c⟩
  | _ => default
theorem RdV.at_sv {S : Nat → Prop} {w : World} {d : Dat} {v : Value} {x : SV} (e : v = sv x) (h : RdV S w d v) : RdV S w d (sv x) := e ▸ h
theorem row3 {S : Nat → Prop} {w : World} {a b c : Value} {d : Dat} (h : RdV S w d c) : ∀ cs, RdVs S w [.v a, .v b, .v c] cs → RdVs S w [.v a, .v b, d] cs := fun cs hc => by
  obtain ⟨u, us, rfl, h1, v, vs, rfl, h2, x, xs, rfl, h3, rfl⟩ := hc
  obtain ⟨rfl, _⟩ := h3
  exact ⟨u, _, rfl, h1, v, _, rfl, h2, _, _, rfl, h, rfl⟩
section
variable {P : Program} {N : Nat} {fs fs' : Nat → Option Fact} {β : Nat → Nat → Value} {φ φ' : Nat → List Nat} {dom ψ IN : Nat → Prop} {w0 w : World}
theorem Rel.pack (R : Rel P fs β φ dom ψ IN w0 w) (src : Nat → List Nat)
    (hok : ∀ X f, fs' X = some f → dom X ∧ FactOK P fs' β φ' dom ψ w X f)
    (hsrc : ∀ X f, fs' X = some f → f.mod = true → ∀ b ∈ φ' X, ∃ Y ∈ src X, (∃ g, fs Y = some g ∧ g.mod = true) ∧ b ∈ φ Y)
    (hd : ∀ X X', X ≠ X' → (∃ f, fs' X = some f) → (∃ f, fs' X' = some f) → ∀ Y ∈ src X, Y ∉ src X') : Rel P fs' β φ' dom ψ IN w0 w where
  ok := hok
  dis i j f g hi hj mi mj hne b hb hb' := by
    obtain ⟨Y, h1, ⟨g1, h2, h3⟩, h4⟩ := hsrc i f hi mi b hb
    obtain ⟨Y', k1, ⟨g2, k2, k3⟩, k4⟩ := hsrc j g hj mj b hb'
    have hne' : Y ≠ Y' := fun e => hd i j hne ⟨_, hi⟩ ⟨_, hj⟩ Y h1 (e ▸ k1)
    exact R.dis Y Y' g1 g2 h2 k2 h3 k3 hne' b h4 k4
  lt id f hf hm b hb := by
    obtain ⟨Y, h1, ⟨g1, h2, h3⟩, h4⟩ := hsrc id f hf hm b hb
    exact R.lt Y g1 h2 h3 b h4
  psi := R.psi
  all1 := R.all1
  chg := R.chg
  glo := R.glo
theorem Rel.fpnd (R : Rel P fs β φ dom ψ IN w0 w) {id : Nat} {g : Fact} (h : fs id = some g) (hm : g.mod = true) : (φ id).Nodup := by
  have h2 := (R.ok id g h).2
  cases g <;> simp only [Fact.mod] at hm <;> first | cases hm | skip
  case box T cs => obtain ⟨_, b, _, _, e⟩ := h2; rw [e]; exact (List.nodup_cons.2 ⟨List.not_mem_nil, List.nodup_nil⟩)
  case own V d => exact (h2.2 : OwV w d _ _).nd
  case arr n cs => obtain ⟨_, b, T, _, _, e⟩ := h2; rw [e]; exact (List.nodup_cons.2 ⟨List.not_mem_nil, List.nodup_nil⟩)
def allMod (fs : Nat → Option Fact) (ids : List Nat) : Bool := ids.all fun id => match fs id with | some g => g.mod | none => false
theorem allMod_ok {ids : List Nat} (h : allMod fs ids = true) : ∀ id ∈ ids, ∃ g, fs id = some g ∧ g.mod = true := fun id hid => by
  have := List.all_eq_true.1 h id hid
  split at this
  · rename_i g e; exact ⟨g, e, this⟩
  · cases this
theorem Rel.flat_nd (R : Rel P fs β φ dom ψ IN w0 w) : ∀ {ids : List Nat}, ids.Nodup → (∀ id ∈ ids, ∃ g, fs id = some g ∧ g.mod = true) → (ids.flatMap φ).Nodup
  | [], _, _ => List.nodup_nil
  | id :: ids, hn, hm => by
    obtain ⟨n1, n2⟩ := List.nodup_cons.1 hn
    obtain ⟨g, h1, h2⟩ := hm id List.mem_cons_self
    simp only [List.flatMap_cons]
    refine List.nodup_append.2 ⟨R.fpnd h1 h2, R.flat_nd n2 fun x hx => hm x (List.mem_cons_of_mem _ hx), fun b hb b' hb' e => ?_⟩
    subst e
    obtain ⟨Y, hY, hbY⟩ := List.mem_flatMap.1 hb'
    obtain ⟨g', h3, h4⟩ := hm Y (List.mem_cons_of_mem _ hY)
    exact R.dis id Y g g' h1 h3 h2 h4 (fun e => n1 (e ▸ hY)) b hb hbY
theorem Rel.flat_lt (R : Rel P fs β φ dom ψ IN w0 w) {ids : List Nat} (hm : ∀ id ∈ ids, ∃ g, fs id = some g ∧ g.mod = true) : ∀ b ∈ ids.flatMap φ, b < w.heap.size := fun b hb => by
  obtain ⟨Y, hY, hbY⟩ := List.mem_flatMap.1 hb
  obtain ⟨g, h1, h2⟩ := hm Y hY
  exact (R.lt Y g h1 h2 b hbY).1
theorem cl_none (h : FnH P) (hcap : h.cap = []) (hp : h.pre) {S : Nat → Prop} (hlt : ∀ b, S b → b < w.heap.size) (hcl : callable P h.f = true) {F : FnSpec} (hF : h.F = F) : FnOK false P S w F (val β (.cl h.f [])) :=
  hF ▸ FnOK.weak (h.fnOK hp hlt (cap := []) (by rw [hcap]; exact ⟨rfl, rfl⟩) hcl)
theorem box_ptr (R : Rel P fs β φ dom ψ IN w0 w) {a : Nat} {T : TypeId} {cs : List AV} (ha : fs a = some (.box T cs)) : ∃ b, val β (.p a 0) = .pointer (some ⟨b, 0, none⟩) ∧ Box w b T (vals β cs) ∧ φ a = [b] := by
  obtain ⟨_, _, b, e1, e2, e3⟩ := R.ok a _ ha
  exact ⟨b, by simp only [val, e1, padd, Nat.add_zero], e2, e3⟩
theorem cl_two (R : Rel P fs β φ dom ψ IN w0 w) (h : FnH P) {a c : Nat} {T U : TypeId} {x y : Value} (ha : fs a = some (.box T [.v x])) (hc : fs c = some (.box U [.v y])) (hcap : h.cap = [.rp [.v x], .rp [.v y]]) (hp : h.pre)
    {S : Nat → Prop} (h1 : ∀ b ∈ φ a, S b) (h2 : ∀ b ∈ φ c, S b) (hlt : ∀ b, S b → b < w.heap.size) (hcl : callable P h.f = true) (hx : x.oneCell' = true) (hy : y.oneCell' = true) {F : FnSpec} (hF : h.F = F) : FnOK false P S w F (val β (.cl h.f [.p a 0, .p c 0])) := by
  obtain ⟨b, e1, e2, e3⟩ := box_ptr R ha
  obtain ⟨b', k1, k2, k3⟩ := box_ptr R hc
  have := FnOK.weak (h.fnOK hp hlt (cap := [val β (.p a 0), val β (.p c 0)]) (by
    rw [hcap]
    refine ⟨_, _, [], [], rfl, ⟨⟨b, 0, [x], e1, h1 b (by rw [e3]; exact List.mem_singleton.2 rfl), e2.has 0 [x] rfl, x, [], rfl, ⟨rfl, hx⟩, rfl⟩, rfl⟩, ?_, rfl, List.nodup_nil⟩
    exact ⟨_, _, [], [], rfl, ⟨⟨b', 0, [y], k1, h2 b' (by rw [k3]; exact List.mem_singleton.2 rfl), k2.has 0 [y] rfl, y, [], rfl, ⟨rfl, hy⟩, rfl⟩, rfl⟩, ⟨rfl, rfl⟩, rfl, List.nodup_nil⟩) hcl)
  rw [← hF]
  exact this
theorem cl_own (R : Rel P fs β φ dom ψ IN w0 w) (h : FnH P) {a o V : Nat} {T : TypeId} {d : Dat} (ha : fs a = some (.box T [.h o 0])) (ho : fs o = some (.own V d)) (hcap : h.cap = [.rp [d]]) (hp : h.pre)
    {S : Nat → Prop} (h1 : ∀ b ∈ φ a, S b) (h2 : ∀ b ∈ φ o, S b) (hlt : ∀ b, S b → b < w.heap.size) (hcl : callable P h.f = true) {F : FnSpec} (hF : h.F = F) : FnOK false P S w F (val β (.cl h.f [.p a 0])) := by
  obtain ⟨b, e1, e2, e3⟩ := box_ptr R ha
  obtain ⟨_, _, k1⟩ := R.ok o _ ho
  have := FnOK.weak (h.fnOK hp hlt (cap := [val β (.p a 0)]) (by
    rw [hcap]
    exact ⟨_, _, [], [], rfl, ⟨⟨b, 0, [β o 0], e1, h1 b (by rw [e3]; exact List.mem_singleton.2 rfl), e2.has 0 [β o 0] rfl, β o 0, [], rfl, RdV.mono (fun b hb => ⟨h2 b hb, rfl⟩) _ _ (OwV.rd _ _ _ k1), rfl⟩, rfl⟩, ⟨rfl, rfl⟩, rfl, List.nodup_nil⟩) hcl)
  rw [← hF]
  exact this
def FnsOK (P : Program) (S : Nat → Prop) (w : World) {α : Type} (F : α → FnSpec) : List α → List Value → Prop
  | [], vs => vs = []
  | p :: ps, vs => ∃ u us, vs = u :: us ∧ FnOK false P S w (F p) u ∧ FnsOK P S w F ps us
theorem FnsOK.at {S : Nat → Prop} {α : Type} {F : α → FnSpec} : ∀ {ps : List α} {vs : List Value}, FnsOK P S w F ps vs → vs.length = ps.length ∧ ∀ (i : Nat) (p : α), ps[i]? = some p → ∃ u, vs[i]? = some u ∧ FnOK false P S w (F p) u
  | [], vs, h => by rw [h]; exact ⟨rfl, fun i p hp => by simp at hp⟩
  | p :: ps, vs, h => by
    obtain ⟨u, us, rfl, h1, h2⟩ := h
    obtain ⟨e, h3⟩ := FnsOK.at h2
    refine ⟨by simp [e], fun i q hq => ?_⟩
    cases i with
    | zero => simp only [List.getElem?_cons_zero, Option.some.injEq] at hq; subst hq; exact ⟨u, rfl, h1⟩
    | succ i => simpa using h3 i q (by simpa using hq)
theorem arr_fns (R : Rel P fs β φ dom ψ IN w0 w) {α : Type} [Inhabited α] {o n : Nat} {cs : List AV} {ps : List α} {F : α → FnSpec} {enc : α → List Dat} (ho : fs o = some (.arr n cs)) (hn : n = ps.length) (hm : n ≤ 9223372036854775807) (he : ∀ p, enc p = [.x (FnX P (F p))])
    {S : Nat → Prop} (h1 : ∀ b ∈ φ o, S b) (hF : FnsOK P S w F ps (vals β cs)) : RdV S w (.l 1 enc ps) (β o 0) := by
  obtain ⟨_, _, b, T, e1, e2, e3⟩ := R.ok o _ ho
  obtain ⟨_, hF⟩ := hF.at
  subst hn
  refine ⟨some ⟨b, 0, none⟩, ps.length, e1, Nat.le_refl _, hm, fun i p hp => ⟨rfl, h1 b (by rw [e3]; exact List.mem_singleton.2 rfl), ?_⟩⟩
  obtain ⟨u, hu, hf⟩ := hF i p hp
  refine ⟨[u], rfl, ?_, ?_⟩
  · refine e2.has _ _ ?_
    simp only [ao, Option.getD_some, Nat.zero_add, Nat.mul_one, List.length_singleton]
    apply List.ext_getElem?
    intro j
    rw [List.getElem?_take]
    cases j with
    | zero => simpa using hu
    | succ j => simp
  · rw [he]
    exact ⟨u, [], rfl, hf, rfl⟩
theorem arr_sv (R : Rel P fs β φ dom ψ IN w0 w) {o n : Nat} {cs : List AV} (ho : fs o = some (.arr n cs)) : β o 0 = sv (toSV (β o 0)) := by
  obtain ⟨_, _, b, T, e1, _⟩ := R.ok o _ ho
  rw [e1]; rfl
theorem arr_own (R : Rel P fs β φ dom ψ IN w0 w) {α : Type} [Inhabited α] {o n sz : Nat} {cs : List AV} {ys : List α} {enc : α → List Dat} (ho : fs o = some (.arr n cs)) (hn : n = ys.length) (hm : n ≤ 9223372036854775807) (hl : ∀ y, (enc y).length = sz)
    (he : (ys.map enc).flatten = (vals β cs).map .v) : OwV w (.l sz enc ys) (β o 0) (φ o) := by
  obtain ⟨_, ⟨hw, hone⟩, b, T, e1, e2, e3⟩ := R.ok o _ ho
  have h1 : OwVs w (ys.map enc).flatten (vals β cs) [] := by
    rw [he]; exact OwVs.flat (vals_one R.one hone hw)
  obtain ⟨gs, g1, g2, g3, g4⟩ := h1.split (sz := sz) (fun y _ => hl y)
  subst hn
  have hlen : (vals β cs).length = ys.length * sz := g2
  refine ⟨some ⟨b, 0, none⟩, ys.length, e1, Nat.le_refl _, hm, .inr ⟨b, 0, T, vals β cs, gs, rfl, e2, by omega, g1, fun i y g hy hg => ?_, by rw [e3, ← g3], ?_⟩⟩
  · obtain ⟨k1, k2⟩ := g4 i y g hy hg
    have hi : i < ys.length := (List.getElem?_eq_some_iff.1 hy).1
    have hfit : i * sz + sz ≤ (vals β cs).length := by
      rw [hlen]
      calc i * sz + sz = (i + 1) * sz := by rw [Nat.succ_mul]
        _ ≤ ys.length * sz := Nat.mul_le_mul_right _ hi
    refine ⟨by simp; omega, ?_⟩
    simpa using k2
  · rw [e3]; exact (List.nodup_cons.2 ⟨List.not_mem_nil, List.nodup_nil⟩)
def Rel2 {α γ : Type} (Q : α → γ → Prop) : List α → List γ → Prop
  | [], [] => True
  | a :: azz, c :: cs => Q a c ∧ Rel2 Q azz cs
  | _, _ => False
theorem Rel2.filter {α γ : Type} {Q : α → γ → Prop} {p : α → Bool} {q : γ → Bool} (hpq : ∀ a c, Q a c → p a = q c) : ∀ {azz : List α} {cs : List γ}, Rel2 Q azz cs → Rel2 Q (azz.filter p) (cs.filter q)
  | [], [], _ => trivial
  | a :: azz, c :: cs, h => by
    have e := hpq a c h.1
    cases hp : p a with
    | true => rw [List.filter_cons_of_pos hp, List.filter_cons_of_pos (e ▸ hp)]; exact ⟨h.1, Rel2.filter hpq h.2⟩
    | false => rw [List.filter_cons_of_neg (by simp [hp]), List.filter_cons_of_neg (by simp [← e, hp])]; exact Rel2.filter hpq h.2
  | [], _ :: _, h => h.elim
  | _ :: _, [], h => h.elim
theorem Rel2.at {α γ : Type} {Q : α → γ → Prop} : ∀ {azz : List α} {cs : List γ}, Rel2 Q azz cs → azz.length = cs.length ∧ ∀ (i : Nat) (c : γ), cs[i]? = some c → ∃ a, azz[i]? = some a ∧ Q a c
  | [], [], _ => ⟨rfl, fun i c h => by simp at h⟩
  | a :: azz, c :: cs, h => by
    obtain ⟨e, k⟩ := Rel2.at h.2
    refine ⟨by simp [e], fun i x hx => ?_⟩
    cases i with
    | zero => simp only [List.getElem?_cons_zero, Option.some.injEq] at hx; subst hx; exact ⟨a, rfl, h.1⟩
    | succ i => simpa using k i x (by simpa using hx)
  | [], _ :: _, h => h.elim
  | _ :: _, [], h => h.elim
theorem Rel2.mono {α γ : Type} {Q Q' : α → γ → Prop} (hq : ∀ a c, Q a c → Q' a c) : ∀ {azz : List α} {cs : List γ}, Rel2 Q azz cs → Rel2 Q' azz cs
  | [], [], _ => trivial
  | a :: azz, c :: cs, h => ⟨hq _ _ h.1, Rel2.mono hq h.2⟩
  | [], _ :: _, h => h.elim
  | _ :: _, [], h => h.elim
theorem own_reads {α γ : Type} [Inhabited α] [Inhabited γ] {sz : Nat} {enc : α → List Dat} {enc' : γ → List Dat} {ys : List α} {zs : List γ} {v : Value} {fp : List Nat} {S : Nat → Prop} (h : OwV w (.l sz enc ys) v fp) (hS : ∀ b ∈ fp, S b)
    (hr : Rel2 (fun y z => ∀ cs, RdVs S w (enc y) cs → RdVs S w (enc' z) cs) ys zs) : RdV S w (.l sz enc' zs) v := by
  obtain ⟨a, c, e1, e2, e3, e4⟩ := RdV.mono (fun b hb => ⟨hS b hb, rfl⟩) _ _ (OwV.rd _ _ _ h)
  obtain ⟨hl, hr⟩ := hr.at
  refine ⟨a, c, by rw [← hl]; exact e1, by omega, by omega, fun i z hz => ?_⟩
  obtain ⟨y, hy, hq⟩ := hr i z hz
  obtain ⟨g1, g2, cs, g3, g4, g5⟩ := e4 i y hy
  exact ⟨g1, g2, cs, g3, g4, hq cs g5⟩
end
theorem fsG1 {a : Fact} {X : Nat} {f : Fact} (h : fsG [(0, some a)] X = some f) : X = 0 ∧ f = a := by
  simp only [fsG] at h
  cases hb : Nat.beq 0 X with
  | true => rw [hb] at h; cases h; exact ⟨(Nat.eq_of_beq_eq_true hb).symm, rfl⟩
  | false => rw [hb] at h; cases h
theorem fsG3 {a b c : Fact} {X : Nat} {f : Fact} (h : fsG [(0, some a), (1, some b), (2, some c)] X = some f) : (X = 0 ∧ f = a) ∨ (X = 1 ∧ f = b) ∨ (X = 2 ∧ f = c) := by
  simp only [fsG] at h
  cases h0 : Nat.beq 0 X with
  | true => rw [h0] at h; cases h; exact .inl ⟨(Nat.eq_of_beq_eq_true h0).symm, rfl⟩
  | false =>
    rw [h0] at h
    cases h1 : Nat.beq 1 X with
    | true => rw [h1] at h; cases h; exact .inr (.inl ⟨(Nat.eq_of_beq_eq_true h1).symm, rfl⟩)
    | false =>
      rw [h1] at h
      cases h2 : Nat.beq 2 X with
      | true => rw [h2] at h; cases h; exact .inr (.inr ⟨(Nat.eq_of_beq_eq_true h2).symm, rfl⟩)
      | false => rw [h2] at h; cases h
section
variable {P : Program} {N : Nat} {ψ IN : Nat → Prop} {w0 w : World} {a : Act}
theorem pack3 {s : St} {T : TypeId} {bx : List Value} {α : Type} [Inhabited α] {sz : Nat} {enc : α → List Dat} {ys : List α} {X : FX} {rest : List Nat} {β : Nat → Nat → Value} {φ : Nat → List Nat} {dom : Nat → Prop} (V : StOK P N ψ IN w0 s a w β φ dom)
    (h0 : fsG s.fs 0 = some (.box T (bx.map .v))) (h1 : ∃ g, fsG s.fs 1 = some g ∧ g.mod = true) (hr : allMod (fsG s.fs) rest = true) (hnd : nodupB (0 :: 1 :: rest) = true) (hd2 : dom 2)
    (ho : OwV w (.l sz enc ys) (β 1 0) (φ 1)) (hx : (rest.flatMap φ).Nodup → (∀ b ∈ rest.flatMap φ, b < w.heap.size) → X.ow w (β 2 0) (rest.flatMap φ)) :
    Holds P N ψ IN w0 ⟨s.sl, [(0, some (.box T (bx.map .v))), (1, some (.own 1 (.l sz enc ys))), (2, some (.own 2 (.x X)))], s.nx⟩ a w := by
  have R := V.rel
  have hnn := nodupB_ok hnd
  have hm := allMod_ok hr
  obtain ⟨n1, n2⟩ := List.nodup_cons.1 hnn
  obtain ⟨n3, n4⟩ := List.nodup_cons.1 n2
  obtain ⟨g1, h1, h1m⟩ := h1
  refine ⟨β, fun X => if X = 2 then rest.flatMap φ else φ X, dom, V.size, V.defers, V.has, ?_, V.bound⟩
  refine R.pack (fun X => if X = 2 then rest else [X]) (fun Y f hY => ?_) (fun Y f hY hmod b hb => ?_) (fun Y Y' hne hY hY' Z hZ hZ' => ?_)
  · rcases fsG3 hY with ⟨rfl, rfl⟩ | ⟨rfl, rfl⟩ | ⟨rfl, rfl⟩
    · exact ⟨(R.ok 0 _ h0).1, (R.ok 0 _ h0).2⟩
    · exact ⟨(R.ok 1 _ h1).1, (R.ok 1 _ h1).1, ho⟩
    · exact ⟨hd2, hd2, by simp only [if_true]; exact hx (R.flat_nd n4 hm) (R.flat_lt hm)⟩
  · rcases fsG3 hY with ⟨rfl, rfl⟩ | ⟨rfl, rfl⟩ | ⟨rfl, rfl⟩
    · exact ⟨0, List.mem_singleton.2 rfl, ⟨_, h0, rfl⟩, hb⟩
    · exact ⟨1, List.mem_singleton.2 rfl, ⟨_, h1, h1m⟩, hb⟩
    · simp only [if_true] at hb ⊢
      obtain ⟨Z, k1, k2⟩ := List.mem_flatMap.1 hb
      exact ⟨Z, k1, hm Z k1, k2⟩
  · obtain ⟨f, hf⟩ := hY
    obtain ⟨f', hf'⟩ := hY'
    have n1' : (0 : Nat) ∉ rest := fun h => n1 (List.mem_cons_of_mem _ h)
    rcases fsG3 hf with ⟨rfl, _⟩ | ⟨rfl, _⟩ | ⟨rfl, _⟩ <;> rcases fsG3 hf' with ⟨rfl, _⟩ | ⟨rfl, _⟩ | ⟨rfl, _⟩ <;> simp only [if_true, if_neg (show ¬ (0 : Nat) = 2 by decide), if_neg (show ¬ (1 : Nat) = 2 by decide), List.mem_singleton] at hZ hZ'
    all_goals first | exact hne rfl | (subst hZ; exact n1' hZ') | (subst hZ; exact n3 hZ') | (subst hZ'; exact n1' hZ) | (subst hZ'; exact n3 hZ) | (subst hZ; cases hZ')
theorem pack1 {s : St} {t : Nat} {d : Dat} {X : FX} {e : Dat} {nx : Nat} (hfs : s.fs = [(0, some (.own 0 d)), (1, some (.own 1 (.x X)))]) (hnx : s.nx = nx) (hsl : slG s.sl t = some (.h 0 0))
    (hr : ∀ (v y : Value) (f g : List Nat), OwV w d v f → X.ow w y g → RdV (fun b => b ∈ f ++ g) w e v) (H : Holds P N ψ IN w0 s a w) :
    Holds P N ψ IN w0 ⟨[(t, some (.h 0 0))], [(0, some (.own 0 (.b e)))], nx⟩ a w := by
  obtain ⟨β, φ, dom, V⟩ := H
  have R := V.rel
  have h0 : fsG s.fs 0 = some (.own 0 d) := by rw [hfs]; rfl
  have h1 : fsG s.fs 1 = some (.own 1 (.x X)) := by rw [hfs]; rfl
  obtain ⟨k1, _, k2⟩ := R.ok 0 _ h0
  obtain ⟨q1, _, q2⟩ := R.ok 1 _ h1
  have hm : ∀ id ∈ [0, 1], ∃ g, fsG s.fs id = some g ∧ g.mod = true := fun id hid => by
    rcases List.mem_cons.1 hid with rfl | hid
    · exact ⟨_, h0, rfl⟩
    · obtain rfl := List.mem_singleton.1 hid; exact ⟨_, h1, rfl⟩
  have hfm : [0, 1].flatMap φ = φ 0 ++ φ 1 := by simp
  have hnd := R.flat_nd (ids := [0, 1]) (by decide) hm
  have hlt := R.flat_lt (ids := [0, 1]) hm
  rw [hfm] at hnd hlt
  refine ⟨β, fun X => if X = 0 then φ 0 ++ φ 1 else φ X, dom, V.size, V.defers, fun t' av ht => ?_, ?_, fun id hid => hnx ▸ V.bound id hid⟩
  · simp only [slG] at ht
    cases hb : Nat.beq t t' with
    | true =>
      rw [hb] at ht
      cases ht
      have e := Nat.eq_of_beq_eq_true hb
      subst e
      exact V.has t _ hsl
    | false => rw [hb] at ht; cases ht
  · refine R.pack (fun X => if X = 0 then [0, 1] else [X]) (fun Y f hY => ?_) (fun Y f hY hmod b hb => ?_) (fun Y Y' hne hY hY' Z hZ hZ' => ?_)
    · obtain ⟨rfl, rfl⟩ := fsG1 hY
      exact ⟨k1, k1, by simp only [if_true]; exact ⟨hr _ _ _ _ k2 q2, hnd, hlt⟩⟩
    · obtain ⟨rfl, rfl⟩ := fsG1 hY
      simp only [if_true] at hb ⊢
      rcases List.mem_append.1 hb with hb | hb
      · exact ⟨0, by simp, hm 0 (by simp), hb⟩
      · exact ⟨1, by simp, hm 1 (by simp), hb⟩
    · obtain ⟨f, hf⟩ := hY
      obtain ⟨f', hf'⟩ := hY'
      exact hne ((fsG1 hf).1.trans (fsG1 hf').1.symm)
end
end Go.Proofs.YtmjamlboilmbfaaGreatDoor
namespace Go.Proofs.YtmjamlboilmbfaaGreatDoor
open Go.RowKit
set_option linter.unusedVariables false
set_option linter.unusedSimpArgs false
def datV : Dat → Value
  | .v x => x
  | _ => default
def Plain {α : Type} (k : Nat) (e : α → List Dat) : Prop := ∀ x, (e x).length = k ∧ ∀ d ∈ e x, ∃ v, d = .v v ∧ v.oneCell' = true
def encV {α : Type} (e : α → List Dat) (x : α) : List Value := (e x).map datV
theorem Plain.len {α : Type} {k : Nat} {e : α → List Dat} (h : Plain k e) (x : α) : (encV e x).length = k := by rw [encV, List.length_map, (h x).1]
theorem Plain.one {α : Type} {k : Nat} {e : α → List Dat} (h : Plain k e) (x : α) : ∀ v ∈ encV e x, v.oneCell' = true := fun v hv => by
  obtain ⟨d, hd, rfl⟩ := List.mem_map.1 hv
  obtain ⟨v, rfl, h1⟩ := (h x).2 d hd
  exact h1
theorem rd_plain {S : Nat → Prop} {w : World} : ∀ {ds : List Dat} {vs : List Value}, (∀ d ∈ ds, ∃ v, d = .v v ∧ v.oneCell' = true) → (RdVs S w ds vs ↔ vs = ds.map datV)
  | [], vs, _ => ⟨fun h => h, fun h => h⟩
  | d :: ds, vs, h => by
    obtain ⟨v, rfl, hv⟩ := h d List.mem_cons_self
    have ih := fun us => rd_plain (S := S) (w := w) (ds := ds) (vs := us) fun d hd => h d (List.mem_cons_of_mem _ hd)
    constructor
    · rintro ⟨u, us, rfl, ⟨rfl, _⟩, h2⟩
      rw [(ih us).1 h2]; rfl
    · rintro rfl
      exact ⟨v, _, rfl, ⟨rfl, hv⟩, (ih _).2 rfl⟩
theorem ow_plain {w : World} : ∀ {ds : List Dat} {vs : List Value} {fp : List Nat}, (∀ d ∈ ds, ∃ v, d = .v v ∧ v.oneCell' = true) → (OwVs w ds vs fp ↔ vs = ds.map datV ∧ fp = [])
  | [], vs, fp, _ => ⟨fun h => h, fun h => h⟩
  | d :: ds, vs, fp, h => by
    obtain ⟨v, rfl, hv⟩ := h d List.mem_cons_self
    have ih := fun us f => ow_plain (w := w) (ds := ds) (vs := us) (fp := f) fun d hd => h d (List.mem_cons_of_mem _ hd)
    constructor
    · rintro ⟨u, us, f, g, rfl, ⟨rfl, _, rfl⟩, h2, rfl, _⟩
      obtain ⟨e1, e2⟩ := (ih us _).1 h2
      rw [e1, e2]; exact ⟨rfl, rfl⟩
    · rintro ⟨rfl, rfl⟩
      exact ⟨v, _, [], [], rfl, ⟨rfl, hv, rfl⟩, (ih _ _).2 ⟨rfl, rfl⟩, rfl, List.nodup_nil⟩
end Go.Proofs.YtmjamlboilmbfaaGreatDoor
namespace Go.Proofs.YtmjamlboilmbfaaGreatDoor
open Go.RowKit Go.Shelf
set_option linter.unusedVariables false
set_option linter.unusedSimpArgs false
section
variable {P : Program} {ρ : Go.Shelf.Ren}
theorem chg_drewN (SS : Nat → Prop) (w : World) (n : Nat) : Chg SS w (w.drewN n) := ⟨rfl, rfl, rfl, Nat.le_refl _, fun _ _ _ => rfl, Nat.le_add_right _ _⟩
theorem chg_alloc (SS : Nat → Prop) (w : World) (o : Obj) : Chg SS w (w.alloc o) := Chg.of_below (bpush w o)
def cut3 (s sep : ByteArray) : ByteArray × ByteArray × Bool := (⟨(Lib.cut s.data.toList sep.data.toList).1.toArray⟩, ⟨(Lib.cut s.data.toList sep.data.toList).2.1.toArray⟩, (Lib.cut s.data.toList sep.data.toList).2.2)
theorem cut_ok (L : Lays.n145 P ρ) (hg : ρ.g 1 ∈ GBi) (s sep : ByteArray) : Spec.ok P (ρ.f 145) ⟨[.r (.c (.v (.string s))), .r (.c (.v (.string sep)))], .tu [.v (.string (cut3 s sep).1), .v (.string (cut3 s sep).2.1), .v (.bool (cut3 s sep).2.2)], s.size ≤ 4294967280⟩ := by
  intro hs S w vs fp hS hG hA
  obtain ⟨u, us, f, g, rfl, ⟨⟨rfl, _⟩, rfl⟩, ⟨u2, us2, f2, g2, rfl, ⟨⟨rfl, _⟩, rfl⟩, ⟨rfl, rfl⟩, rfl, _⟩, rfl, _⟩ := hA
  obtain ⟨m, hm⟩ := hG.1.2.1 _ hg
  have hs : s.size ≤ 4294967280 := hs
  refine (Any.strings_Cut L s sep m w (by omega) hm).mono fun e w' ⟨h1, n, h2⟩ => ?_
  subst h2
  exact ⟨_, [], [], h1, ⟨[_, _, _], rfl, _, _, [], [], rfl, ⟨rfl, rfl, rfl⟩, ⟨_, _, [], [], rfl, ⟨rfl, rfl, rfl⟩, ⟨_, _, [], [], rfl, ⟨rfl, rfl, rfl⟩, ⟨rfl, rfl⟩, rfl⟩, rfl⟩, rfl⟩,
    ⟨_, _, [], [], rfl, rfl, ⟨_, _, [], [], rfl, rfl, rfl, rfl⟩, rfl⟩, List.nodup_nil, fun b hb => by simp at hb, chg_drewN _ w n⟩
def splitS (s sep : ByteArray) : List ByteArray := Lib.splitB sep 0 (Lib.countB s sep) s
theorem ow_strs (w : World) : ∀ ys : List ByteArray, OwVs w (ys.map eStr).flatten (ys.map Value.string) []
  | [] => ⟨rfl, rfl⟩
  | y :: ys => ⟨.string y, ys.map Value.string, [], [], rfl, ⟨rfl, rfl, rfl⟩, ow_strs w ys, rfl, List.nodup_nil⟩
theorem splitS_len (s sep : ByteArray) (h1 : 1 ≤ sep.size) : (splitS s sep).length = Lib.countB s sep + 1 := Lib.splitB_all sep h1 0 _ s rfl
theorem split_ok (L : Lays.n146 P ρ) (hi9 : (P.info? (ρ.t 9)).map (fun i => (i.zero, i.size, i.bytes)) = some (some (.string ByteArray.empty), 1, 16)) (hg : ρ.g 1 ∈ GBi) (s sep : ByteArray) :
    Spec.ok P (ρ.f 146) ⟨[.r (.c (.v (.string s))), .r (.c (.v (.string sep)))], .ow (.l 1 eStr (splitS s sep)), s.size ≤ 4294967280 ∧ 1 ≤ sep.size⟩ := by
  intro ⟨hs, h1⟩ S w vs fp hS hG hA
  obtain ⟨u, us, f, g, rfl, ⟨⟨rfl, _⟩, rfl⟩, ⟨u2, us2, f2, g2, rfl, ⟨⟨rfl, _⟩, rfl⟩, ⟨rfl, rfl⟩, rfl, _⟩, rfl, _⟩ := hA
  obtain ⟨m, hm⟩ := hG.1.2.1 _ hg
  have hle := Lib.countB_le sep h1 s.size s (Nat.le_refl _)
  have hlen := splitS_len s sep h1
  refine (Any.strings_Split L hi9 s sep m w (by omega) hm h1).mono fun e w' ⟨h2, h3⟩ => ?_
  subst h3
  refine ⟨_, [w.heap.size], [], h2, ?_, ⟨_, _, [], [], rfl, rfl, ⟨_, _, [], [], rfl, rfl, rfl, rfl⟩, rfl⟩, by simp, fun b hb => ?_, (chg_alloc _ w _).toD _⟩
  · rw [← hlen]
    refine own_of_split (ys := splitS s sep) (vs := (splitS s sep).map Value.string) (rest := []) (c := (splitS s sep).length) (T := ρ.t 9) (ow_strs _ _) (fun y _ => rfl) (bpush w _) (by simp) ?_ (by simp) (Nat.le_refl _) (by omega)
    simp only [List.append_nil]
    exact heap_alloc_new w _
  · have hb : b = w.heap.size := by simpa using hb
    subst hb
    exact ⟨by simp, .inr (Nat.le_refl _)⟩
theorem splitS_pos (s sep : ByteArray) (h1 : 1 ≤ sep.size) : 1 ≤ (splitS s sep).length := (splitS_len s sep h1).symm ▸ Nat.le_add_left 1 _
theorem splitS_le (s sep : ByteArray) (h1 : 1 ≤ sep.size) : (splitS s sep).length ≤ s.size + 1 := by
  rw [splitS_len s sep h1]
  have := Lib.countB_le sep h1 s.size s (Nat.le_refl _)
  omega
theorem cut3_le1 (s sep : ByteArray) : ((cut3 s sep).1.size : Int) ≤ (s.size : Int) := by
  have : (cut3 s sep).1.size ≤ s.size := by
    show (Lib.cut s.data.toList sep.data.toList).1.toArray.size ≤ s.data.size
    unfold Lib.cut
    split
    · simp only [List.size_toArray, List.length_take, List.length_drop]
      have : s.data.toList.length = s.data.size := by simp
      omega
    · simp
  omega
theorem cut3_le2 (s sep : ByteArray) : ((cut3 s sep).2.1.size : Int) ≤ (s.size : Int) := by
  have : (cut3 s sep).2.1.size ≤ s.size := by
    show (Lib.cut s.data.toList sep.data.toList).2.1.toArray.size ≤ s.data.size
    unfold Lib.cut
    split
    · simp only [List.size_toArray, List.length_take, List.length_drop]
      have : s.data.toList.length = s.data.size := by simp
      omega
    · simp
  omega
def joinS (xs : List ByteArray) (sep : ByteArray) : ByteArray := ⟨(Lib.join (xs.map (·.data.toList)) sep.data.toList).toArray⟩
theorem join_ok (L : Lays.n156 P ρ) (X : Builder.Extra P ρ) (xs : List ByteArray) (sep : ByteArray) :
    Spec.ok P (ρ.f 156) ⟨[.r (.c (.l 1 eStr xs)), .r (.c (.v (.string sep)))], .v (.string (joinS xs sep)), xs.length ≤ 140737488355328 ∧ (joinS xs sep).size ≤ 140737488355328⟩ false := by
  intro ⟨hl, hj⟩ S w vs fp hS hG hA
  obtain ⟨u, us, f, g, rfl, ⟨⟨a, c, rfl, hc, h63, hx⟩, rfl⟩, ⟨u2, us2, f2, g2, rfl, ⟨⟨rfl, _⟩, rfl⟩, ⟨rfl, rfl⟩, rfl, _⟩, rfl, _⟩ := hA
  have fin : ∀ (e : Ending) (w' : World), e = .returned (.string (joinS xs sep)) → Below w.heap.size w w' → ∃ rv fr fb, e = .returned rv ∧ RTOK w' (.v (.string (joinS xs sep))) rv fr ∧ BehsOK w' [.r (.c (.l 1 eStr xs)), .r (.c (.v (.string sep)))] [.slice a xs.length c, .string sep] fb ∧ (fr ++ fb).Nodup ∧ (∀ b ∈ fr ++ fb, b < w'.heap.size ∧ (b ∈ ([] ++ ([] ++ []) : List Nat) ∨ w.heap.size ≤ b)) ∧ Chg (· ∈ ([] ++ ([] ++ []) : List Nat)) (atD false w) w' :=
    fun e w' h1 h2 => ⟨_, [], [], h1, ⟨rfl, rfl, rfl⟩, ⟨_, _, [], [], rfl, rfl, ⟨_, _, [], [], rfl, rfl, rfl, rfl⟩, rfl⟩, List.nodup_nil, fun b hb => by simp at hb, ⟨h2.os, h2.tape, h2.output, h2.size, fun k hk _ => h2.block k hk, Nat.zero_le _⟩⟩
  cases xs with
  | nil =>
    refine (Any.strings_Join_none L X a c sep w).mono fun e w' ⟨h1, h2⟩ => fin e w' ?_ (h2 ▸ Below.refl _ _)
    rw [h1]; rfl
  | cons x xs =>
    obtain ⟨ha, hSb, _⟩ := hx 0 x rfl
    rw [ha]
    refine (Any.strings_Join L X (ab a) (ao a) c (x :: xs) sep w (fun j y hy => ?_) (hS _ hSb).1 hl hc (by simpa [joinS, ByteArray.size] using hj)).mono fun e w' ⟨h1, h2⟩ => ?_
    · obtain ⟨_, _, cs, h1, h2, h3⟩ := hx j y hy
      obtain ⟨u, us, rfl, ⟨rfl, _⟩, _⟩ := h3
      have := h2 0 _ rfl
      simpa using this
    · have := fin e w' h1 h2
      rw [ha] at this
      exact this
def sortS (xs : List ByteArray) : List ByteArray := ((xs.map (·.data.toList)).mergeSort fun x y => decide (x ≤ y)).map fun l => ⟨l.toArray⟩
theorem sortS_len (xs : List ByteArray) : (sortS xs).length = xs.length := by simp [sortS, List.length_mergeSort]
open Go.Sort in
theorem sortS_ok (L : Lays.n190 P ρ) (xs : List ByteArray) :
    Spec.ok P (ρ.f 190) ⟨[.ow (.l 1 eStr xs) (some (.l 1 eStr (sortS xs)))], .tu [], xs.length ≤ 4000000000000000000⟩ := by
  intro hl S w vs fp hS hG hA
  have hl : xs.length ≤ 4000000000000000000 := hl
  obtain ⟨u, us, f, g, rfl, hO, ⟨rfl, rfl⟩, rfl, hnd⟩ := hA
  simp only [List.append_nil] at hnd hS ⊢
  obtain ⟨a, c, rfl, hc, h63, hO⟩ := hO
  by_cases hx : xs = []
  · subst hx
    refine (calls_of_every_depth fun D => AnyS.slices_Sort_string_none_in L D a c w).mono fun e' w' ⟨h1, h2⟩ => ?_
    subst h2
    have hs : sortS [] = [] := by simp [sortS]
    refine ⟨_, [], f, h1, ⟨[], rfl, rfl, rfl⟩, ⟨_, _, f, [], rfl, ?_, rfl, by simp⟩, by simpa using hnd, fun b hb => ?_, (Chg.of_below (Bel.refl _ _)).toD _⟩
    · show OwV w' (.l 1 eStr (sortS [])) _ f
      rw [hs]; exact ⟨a, c, rfl, hc, h63, hO⟩
    · have hb : b ∈ f := by simpa using hb
      exact ⟨OwV.lt (.l 1 eStr ([] : List ByteArray)) _ f ⟨a, c, rfl, hc, h63, hO⟩ b hb, .inl hb⟩
  rcases hO with ⟨_, rfl, _⟩ | ⟨b, o, T, cells, fps, rfl, hbox, hlen, hfl, hel, rfl, hnd'⟩
  · exact absurd rfl hx
  let zs : List (List UInt8) := xs.map (·.data.toList)
  have hzl : zs.length = xs.length := by simp [zs]
  let ss : List (List UInt8) := zs.mergeSort fun x y => decide (x ≤ y)
  have hsl : ss.length = xs.length := by simp [ss, List.length_mergeSort, hzl]
  have hcell : ∀ i (hi : i < xs.length), cells[o + i]? = some (.string xs[i]) ∧ fps[i]'(by omega) = [] := fun i hi => by
    obtain ⟨h1, h2⟩ := hel i xs[i] (fps[i]'(by omega)) (List.getElem?_eq_getElem hi) (List.getElem?_eq_getElem _)
    obtain ⟨v, vs', f1, f2, h3, ⟨rfl, _, rfl⟩, ⟨rfl, rfl⟩, h4, _⟩ := h2
    refine ⟨?_, by rw [h4]; rfl⟩
    have := congrArg (fun l : List Value => l[0]?) h3
    simpa [List.getElem?_take, List.getElem?_drop] using this
  have hH : Go.Sort.Holds encStr w b o zs.toArray := by
    intro j hj
    have hj' : j < xs.length := by simpa [zs] using hj
    have hb' : w.heap[b]? = some (.cells cells.toArray T (0, 0)) := hbox
    refine ⟨?_, by simp [World.frozen?, hb']⟩
    rw [getElem!_pos zs.toArray j hj]
    simp only [World.cell?, hb']
    simp only [Option.isSome_none, Bool.false_eq_true, if_false, List.getElem?_toArray]
    rw [(hcell j hj').1]
    simp [zs, encStr]
  have hcall := calls_of_every_depth fun D => AnyS.slices_Sort_string_alone L D b o c zs w hH hbox.lt (by omega)
  rw [hzl] at hcall
  refine hcall.mono fun e' w' ⟨h1, n, os, hw'⟩ => ?_
  have hsz : (putRow encStr (Sort.ahead w n) b o ss.toArray).heap.size = w.heap.size := by simp [putRow, mapBlock, Sort.ahead]
  have s1 : ∀ b', b' < w.heap.size → b' ≠ b → w'.heap[b']? = w.heap[b']? := fun b' hb' hne => by
    rw [hw']
    show ((putRow encStr (Sort.ahead w n) b o ss.toArray).heap ++ os)[b']? = _
    rw [Array.getElem?_append_left (by rw [hsz]; exact hb')]
    simp only [putRow, mapBlock, Sort.ahead, Array.getElem?_modify]
    rw [if_neg (Ne.symm hne)]
  have s2 : w.heap.size ≤ w'.heap.size := by
    rw [hw']
    show _ ≤ ((putRow encStr (Sort.ahead w n) b o ss.toArray).heap ++ os).size
    rw [Array.size_append, hsz]; omega
  let cells' : List Value := (putCells encStr o ss.toArray cells.toArray).toList
  have hcl : cells'.length = cells.length := by simp [cells', putCells]
  have hbox' : Box w' b T cells' := by
    show w'.heap[b]? = _
    rw [hw']
    show ((putRow encStr (Sort.ahead w n) b o ss.toArray).heap ++ os)[b]? = _
    have hb' : w.heap[b]? = some (.cells cells.toArray T (0, 0)) := hbox
    rw [Array.getElem?_append_left (by rw [hsz]; exact hbox.lt)]
    simp only [putRow, mapBlock, Sort.ahead, Array.getElem?_modify, if_true, hb', Option.map_some, onCells]
    simp [cells']
  have hc' : ∀ i (hi : i < xs.length), cells'[o + i]? = some (.string ((sortS xs)[i]'(by rw [sortS_len]; exact hi))) := fun i hi => by
    have hin : o + i < cells.length := by omega
    simp only [cells', putCells, Array.getElem?_toList, Array.getElem?_mapIdx]
    rw [Array.getElem?_eq_getElem (by simp; omega)]
    simp only [Option.map_some]
    rw [if_pos ⟨by omega, by simp only [List.size_toArray]; omega⟩]
    have e1 : o + i - o = i := by omega
    rw [e1, getElem!_pos ss.toArray i (by simp only [List.size_toArray]; omega)]
    simp [encStr, sortS, ss, zs]
  refine ⟨_, [], b :: fps.flatten, h1, ⟨[], rfl, rfl, rfl⟩, ⟨_, _, b :: fps.flatten, [], rfl, ?_, rfl, by simp⟩, by simpa using hnd', fun b' hb' => ?_, Chg.toD _ ?_⟩
  · have hflat : fps.flatten = [] := by
      rw [List.flatten_eq_nil_iff]
      intro f hf
      obtain ⟨i, hi, rfl⟩ := List.getElem_of_mem hf
      exact (hcell i (by omega)).2
    show OwV w' (.l 1 eStr (sortS xs)) _ _
    refine ⟨_, c, by rw [sortS_len], by rw [sortS_len]; exact hc, by rw [sortS_len]; exact h63, .inr ⟨b, o, T, cells', List.replicate xs.length [], rfl, hbox', by rw [hcl, hlen], by simp [sortS_len], fun i x f hx hf => ?_, by rw [hflat]; simp, hnd'⟩⟩
    have hi : i < xs.length := by have := (List.getElem?_eq_some_iff.1 hx).1; rwa [sortS_len] at this
    have hf' : f = [] := by
      rw [List.getElem?_replicate, if_pos hi] at hf
      exact (Option.some.inj hf).symm
    have hxe : (sortS xs)[i]'(by rw [sortS_len]; exact hi) = x := (List.getElem?_eq_some_iff.1 hx).2
    have htk : (cells'.drop (o + i * 1)).take 1 = [.string x] := by
      have h2 := hc' i hi
      rw [hxe] at h2
      refine List.ext_getElem? fun j => ?_
      rw [List.getElem?_take, Nat.mul_one]
      cases j with
      | zero => simp [List.getElem?_drop, h2]
      | succ j => simp
    rw [htk, hf']
    exact ⟨rfl, _, _, [], [], rfl, ⟨rfl, rfl, rfl⟩, ⟨rfl, rfl⟩, rfl, List.nodup_nil⟩
  · have hb2 : b' ∈ b :: fps.flatten := by simpa using hb'
    refine ⟨Nat.lt_of_lt_of_le ?_ s2, .inl hb2⟩
    rcases List.mem_cons.1 hb2 with rfl | h
    · exact hbox.lt
    · exact OwV.lt (.l 1 eStr xs) _ _ ⟨_, c, rfl, hc, h63, .inr ⟨b, o, T, cells, fps, rfl, hbox, hlen, hfl, hel, rfl, hnd'⟩⟩ b' (List.mem_cons_of_mem _ h)
  · refine ⟨by rw [hw']; rfl, by rw [hw']; rfl, by rw [hw']; rfl, s2, fun k' hk' hn => s1 k' hk' fun e => hn (by rw [e]; exact List.mem_cons_self), ?_⟩
    rw [hw']
    show w.drawn ≤ w.drawn + n
    omega
end
end Go.Proofs.YtmjamlboilmbfaaGreatDoor
namespace Go.Proofs.YtmjamlboilmbfaaGreatDoor
open Go.Shelf Go.RowKit
def laySplit_ren : Go.Shelf.Ren := ⟨fun | 146 => 23 | 221 => 46 | 268 => 85 | 138 => 86 | 143 => 87 | 195 => 117 | 197 => 118 | 218 => 119 | 219 => 120 | 260 => 143 | 217 => 144 | 225 => 145 | 224 => 146 | 267 => 147 | 266 => 157 | 314 => 158 | n => n, fun | 9 => 9 | 31 => 24 | 3 => 3 | 4 => 4 | 0 => 0 | 105 => 108 | 21 => 21 | 5 => 5 | 46 => 106 | 119 => 136 | 139 => 139 | 138 => 138 | 146 => 140 | 51 => 125 | n => n, fun | 1 => 0 | 3 => 1 | 4 => 2 | n => n⟩
theorem laySplit : Go.Proofs.Lays.n146 Tryz.prog laySplit_ren := {
  mixed := by kernel_rfl
  f138 := Tryz.func86.trans (congrArg some (by kernel_rfl))
  f143 := Tryz.func87.trans (congrArg some (by kernel_rfl))
  f146 := Tryz.func23.trans (congrArg some (by kernel_rfl))
  f195 := Tryz.func117.trans (congrArg some (by kernel_rfl))
  f197 := Tryz.func118.trans (congrArg some (by kernel_rfl))
  f217 := Tryz.func144.trans (congrArg some (by kernel_rfl))
  f218 := Tryz.func119.trans (congrArg some (by kernel_rfl))
  f219 := Tryz.func120.trans (congrArg some (by kernel_rfl))
  f221 := Tryz.func46.trans (congrArg some (by kernel_rfl))
  f224 := Tryz.func146.trans (congrArg some (by kernel_rfl))
  f225 := Tryz.func145.trans (congrArg some (by kernel_rfl))
  f260 := Tryz.func143.trans (congrArg some (by kernel_rfl))
  f266 := Tryz.func157.trans (congrArg some (by kernel_rfl))
  f267 := Tryz.func147.trans (congrArg some (by kernel_rfl))
  f268 := Tryz.func85.trans (congrArg some (by kernel_rfl))
  f314 := Tryz.func158.trans (congrArg some (by kernel_rfl))
  t0 := Tryz.underlying0
  a0 := Tryz.isAgg0
  z0 := Tryz.sizeOf0
  v0 := Tryz.zeroValue0
  t3 := Tryz.underlying3
  a3 := Tryz.isAgg3
  z3 := Tryz.sizeOf3
  v3 := Tryz.zeroValue3
  t4 := Tryz.underlying4
  a4 := Tryz.isAgg4
  z4 := Tryz.sizeOf4
  v4 := Tryz.zeroValue4
  t5 := Tryz.underlying5
  a5 := Tryz.isAgg5
  z5 := Tryz.sizeOf5
  v5 := Tryz.zeroValue5
  t9 := Tryz.underlying9
  a9 := Tryz.isAgg9
  z9 := Tryz.sizeOf9
  v9 := Tryz.zeroValue9
  t21 := Tryz.underlying21
  a21 := Tryz.isAgg21
  z21 := Tryz.sizeOf21
  v21 := Tryz.zeroValue21
  t31 := Tryz.underlying24
  a31 := Tryz.isAgg24
  z31 := Tryz.sizeOf24
  v31 := Tryz.zeroValue24
  t46 := Tryz.underlying106
  a46 := Tryz.isAgg106
  z46 := Tryz.sizeOf106
  v46 := Tryz.zeroValue106
  t51 := Tryz.underlying125
  a51 := Tryz.isAgg125
  z51 := Tryz.sizeOf125
  v51 := Tryz.zeroValue125
  t105 := Tryz.underlying108
  a105 := Tryz.isAgg108
  z105 := Tryz.sizeOf108
  v105 := Tryz.zeroValue108
  t119 := Tryz.underlying136
  a119 := Tryz.isAgg136
  z119 := Tryz.sizeOf136
  t138 := Tryz.underlying138
  a138 := Tryz.isAgg138
  z138 := Tryz.sizeOf138
  v138 := Tryz.zeroValue138
  t139 := Tryz.underlying139
  a139 := Tryz.isAgg139
  z139 := Tryz.sizeOf139
  v139 := Tryz.zeroValue139
  t146 := Tryz.underlying140
  a146 := Tryz.isAgg140
  z146 := Tryz.sizeOf140
  v146 := Tryz.zeroValue140
  g1 := by kernel_rfl
  g3 := by kernel_rfl
  g4 := by kernel_rfl }
def layJoin_ren : Go.Shelf.Ren := ⟨fun | 156 => 25 | 165 => 49 | 166 => 50 | 169 => 51 | 240 => 96 | 241 => 97 | 276 => 125 | 277 => 126 | n => n, fun | 31 => 24 | 9 => 9 | 3 => 3 | 4 => 4 | 0 => 0 | 20 => 20 | 72 => 55 | 76 => 59 | 70 => 53 | 37 => 49 | 75 => 58 | 127 => 94 | 164 => 112 | 5 => 5 | 80 => 61 | n => n, fun | n => n⟩
theorem layJoin : Go.Proofs.Lays.n156 Tryz.prog layJoin_ren := {
  mixed := by kernel_rfl
  f156 := Tryz.func25.trans (congrArg some (by kernel_rfl))
  f165 := Tryz.func49.trans (congrArg some (by kernel_rfl))
  f166 := Tryz.func50.trans (congrArg some (by kernel_rfl))
  f169 := Tryz.func51.trans (congrArg some (by kernel_rfl))
  f240 := Tryz.func96.trans (congrArg some (by kernel_rfl))
  f241 := Tryz.func97.trans (congrArg some (by kernel_rfl))
  f276 := Tryz.func125.trans (congrArg some (by kernel_rfl))
  f277 := Tryz.func126.trans (congrArg some (by kernel_rfl))
  t0 := Tryz.underlying0
  a0 := Tryz.isAgg0
  z0 := Tryz.sizeOf0
  v0 := Tryz.zeroValue0
  t3 := Tryz.underlying3
  a3 := Tryz.isAgg3
  z3 := Tryz.sizeOf3
  v3 := Tryz.zeroValue3
  t4 := Tryz.underlying4
  a4 := Tryz.isAgg4
  z4 := Tryz.sizeOf4
  v4 := Tryz.zeroValue4
  t9 := Tryz.underlying9
  a9 := Tryz.isAgg9
  z9 := Tryz.sizeOf9
  v9 := Tryz.zeroValue9
  t20 := Tryz.underlying20
  a20 := Tryz.isAgg20
  z20 := Tryz.sizeOf20
  v20 := Tryz.zeroValue20
  t31 := Tryz.underlying24
  a31 := Tryz.isAgg24
  z31 := Tryz.sizeOf24
  v31 := Tryz.zeroValue24
  t37 := Tryz.underlying49
  a37 := Tryz.isAgg49
  z37 := Tryz.sizeOf49
  v37 := Tryz.zeroValue49
  t70 := Tryz.underlying53
  a70 := Tryz.isAgg53
  z70 := Tryz.sizeOf53
  v70 := Tryz.zeroValue53
  t72 := Tryz.underlying55
  a72 := Tryz.isAgg55
  z72 := Tryz.sizeOf55
  v72 := Tryz.zeroValue55
  t75 := Tryz.underlying58
  a75 := Tryz.isAgg58
  z75 := Tryz.sizeOf58
  v75 := Tryz.zeroValue58
  t76 := Tryz.underlying59
  a76 := Tryz.isAgg59
  z76 := Tryz.sizeOf59
  v76 := Tryz.zeroValue59
  t127 := Tryz.underlying94
  a127 := Tryz.isAgg94
  z127 := Tryz.sizeOf94
  v127 := Tryz.zeroValue94
  t164 := Tryz.underlying112
  a164 := Tryz.isAgg112
  z164 := Tryz.sizeOf112
  v164 := Tryz.zeroValue112 }
def laySortS_ren : Go.Shelf.Ren := ⟨fun | 190 => 80 | 125 => 110 | 258 => 109 | 128 => 140 | 129 => 141 | 302 => 131 | 303 => 132 | 304 => 133 | 305 => 134 | 306 => 135 | 307 => 136 | 308 => 137 | 309 => 138 | 310 => 139 | 333 => 151 | 329 => 152 | 330 => 153 | 334 => 154 | 335 => 155 | 336 => 156 | 344 => 165 | n => n, fun | 31 => 24 | 9 => 9 | 3 => 3 | 46 => 106 | 0 => 0 | 51 => 125 | 53 => 127 | 4 => 4 | 183 => 117 | 182 => 116 | 131 => 122 | 5 => 5 | 218 => 130 | 222 => 134 | 228 => 149 | 229 => 65 | n => n, fun | n => n⟩
theorem laySortS : Go.Proofs.Lays.n190 Tryz.prog laySortS_ren := {
  mixed := by kernel_rfl
  f125 := Tryz.func110.trans (congrArg some (by kernel_rfl))
  f128 := Tryz.func140.trans (congrArg some (by kernel_rfl))
  f129 := Tryz.func141.trans (congrArg some (by kernel_rfl))
  f190 := Tryz.func80.trans (congrArg some (by kernel_rfl))
  f258 := Tryz.func109.trans (congrArg some (by kernel_rfl))
  f302 := Tryz.func131.trans (congrArg some (by kernel_rfl))
  f303 := Tryz.func132.trans (congrArg some (by kernel_rfl))
  f304 := Tryz.func133.trans (congrArg some (by kernel_rfl))
  f305 := Tryz.func134.trans (congrArg some (by kernel_rfl))
  f306 := Tryz.func135.trans (congrArg some (by kernel_rfl))
  f307 := Tryz.func136.trans (congrArg some (by kernel_rfl))
  f308 := Tryz.func137.trans (congrArg some (by kernel_rfl))
  f309 := Tryz.func138.trans (congrArg some (by kernel_rfl))
  f310 := Tryz.func139.trans (congrArg some (by kernel_rfl))
  f329 := Tryz.func152.trans (congrArg some (by kernel_rfl))
  f330 := Tryz.func153.trans (congrArg some (by kernel_rfl))
  f333 := Tryz.func151.trans (congrArg some (by kernel_rfl))
  f334 := Tryz.func154.trans (congrArg some (by kernel_rfl))
  f335 := Tryz.func155.trans (congrArg some (by kernel_rfl))
  f336 := Tryz.func156.trans (congrArg some (by kernel_rfl))
  f344 := Tryz.func165.trans (congrArg some (by kernel_rfl))
  t0 := Tryz.underlying0
  a0 := Tryz.isAgg0
  z0 := Tryz.sizeOf0
  v0 := Tryz.zeroValue0
  t3 := Tryz.underlying3
  a3 := Tryz.isAgg3
  z3 := Tryz.sizeOf3
  v3 := Tryz.zeroValue3
  t4 := Tryz.underlying4
  a4 := Tryz.isAgg4
  z4 := Tryz.sizeOf4
  v4 := Tryz.zeroValue4
  t5 := Tryz.underlying5
  a5 := Tryz.isAgg5
  z5 := Tryz.sizeOf5
  v5 := Tryz.zeroValue5
  t9 := Tryz.underlying9
  a9 := Tryz.isAgg9
  z9 := Tryz.sizeOf9
  v9 := Tryz.zeroValue9
  t31 := Tryz.underlying24
  a31 := Tryz.isAgg24
  z31 := Tryz.sizeOf24
  v31 := Tryz.zeroValue24
  t46 := Tryz.underlying106
  a46 := Tryz.isAgg106
  z46 := Tryz.sizeOf106
  v46 := Tryz.zeroValue106
  t51 := Tryz.underlying125
  a51 := Tryz.isAgg125
  z51 := Tryz.sizeOf125
  v51 := Tryz.zeroValue125
  t53 := Tryz.underlying127
  a53 := Tryz.isAgg127
  z53 := Tryz.sizeOf127
  v53 := Tryz.zeroValue127
  t131 := Tryz.underlying122
  a131 := Tryz.isAgg122
  z131 := Tryz.sizeOf122
  v131 := Tryz.zeroValue122
  t182 := Tryz.underlying116
  a182 := Tryz.isAgg116
  z182 := Tryz.sizeOf116
  v182 := Tryz.zeroValue116
  t183 := Tryz.underlying117
  a183 := Tryz.isAgg117
  z183 := Tryz.sizeOf117
  v183 := Tryz.zeroValue117
  t218 := Tryz.underlying130
  a218 := Tryz.isAgg130
  z218 := Tryz.sizeOf130
  v218 := Tryz.zeroValue130
  t222 := Tryz.underlying134
  a222 := Tryz.isAgg134
  z222 := Tryz.sizeOf134
  v222 := Tryz.zeroValue134
  t228 := Tryz.underlying149
  a228 := Tryz.isAgg149
  z228 := Tryz.sizeOf149
  v228 := Tryz.zeroValue149
  t229 := Tryz.underlying65
  a229 := Tryz.isAgg65
  z229 := Tryz.sizeOf65
  v229 := Tryz.zeroValue65 }
def layCut_ren : Go.Shelf.Ren := ⟨fun | 145 => 104 | 220 => 127 | 219 => 120 | 217 => 144 | 225 => 145 | 224 => 146 | 267 => 147 | 266 => 157 | 314 => 158 | n => n, fun | 9 => 9 | 4 => 4 | 59 => 100 | 3 => 3 | 5 => 5 | 46 => 106 | 146 => 140 | 51 => 125 | n => n, fun | 1 => 0 | n => n⟩
theorem layCut : Go.Proofs.Lays.n145 Tryz.prog layCut_ren := {
  mixed := by kernel_rfl
  f145 := Tryz.func104.trans (congrArg some (by kernel_rfl))
  f217 := Tryz.func144.trans (congrArg some (by kernel_rfl))
  f219 := Tryz.func120.trans (congrArg some (by kernel_rfl))
  f220 := Tryz.func127.trans (congrArg some (by kernel_rfl))
  f224 := Tryz.func146.trans (congrArg some (by kernel_rfl))
  f225 := Tryz.func145.trans (congrArg some (by kernel_rfl))
  f266 := Tryz.func157.trans (congrArg some (by kernel_rfl))
  f267 := Tryz.func147.trans (congrArg some (by kernel_rfl))
  f314 := Tryz.func158.trans (congrArg some (by kernel_rfl))
  t3 := Tryz.underlying3
  a3 := Tryz.isAgg3
  z3 := Tryz.sizeOf3
  v3 := Tryz.zeroValue3
  t4 := Tryz.underlying4
  a4 := Tryz.isAgg4
  z4 := Tryz.sizeOf4
  v4 := Tryz.zeroValue4
  t5 := Tryz.underlying5
  a5 := Tryz.isAgg5
  z5 := Tryz.sizeOf5
  v5 := Tryz.zeroValue5
  t9 := Tryz.underlying9
  a9 := Tryz.isAgg9
  z9 := Tryz.sizeOf9
  v9 := Tryz.zeroValue9
  t46 := Tryz.underlying106
  a46 := Tryz.isAgg106
  z46 := Tryz.sizeOf106
  v46 := Tryz.zeroValue106
  t51 := Tryz.underlying125
  a51 := Tryz.isAgg125
  z51 := Tryz.sizeOf125
  v51 := Tryz.zeroValue125
  t59 := Tryz.underlying100
  a59 := Tryz.isAgg100
  z59 := Tryz.sizeOf100
  v59 := Tryz.zeroValue100
  t146 := Tryz.underlying140
  a146 := Tryz.isAgg140
  z146 := Tryz.sizeOf140
  v146 := Tryz.zeroValue140
  g1 := by kernel_rfl }
def layCutM_ren : Go.Shelf.Ren := ⟨fun | 145 => 104 | 220 => 127 | 219 => 120 | 217 => 144 | 225 => 145 | 224 => 146 | 267 => 147 | 266 => 157 | 314 => 158 | n => n, fun | 9 => 9 | 4 => 4 | 59 => 100 | 3 => 3 | 5 => 5 | 46 => 106 | 146 => 140 | 51 => 125 | n => n, fun | 1 => 0 | n => n⟩
theorem layCutM : Go.Proofs.LaysM.n145 Tryz.prog layCutM_ren := {
  mixed := by kernel_rfl
  f145 := Tryz.func104.trans (congrArg some (by kernel_rfl))
  f217 := Tryz.func144.trans (congrArg some (by kernel_rfl))
  f219 := Tryz.func120.trans (congrArg some (by kernel_rfl))
  f220 := Tryz.func127.trans (congrArg some (by kernel_rfl))
  f224 := Tryz.func146.trans (congrArg some (by kernel_rfl))
  f225 := Tryz.func145.trans (congrArg some (by kernel_rfl))
  f266 := Tryz.func157.trans (congrArg some (by kernel_rfl))
  f267 := Tryz.func147.trans (congrArg some (by kernel_rfl))
  f314 := Tryz.func158.trans (congrArg some (by kernel_rfl))
  t3 := Tryz.underlying3
  a3 := Tryz.isAgg3
  z3 := Tryz.sizeOf3
  v3 := Tryz.zeroValue3
  t4 := Tryz.underlying4
  a4 := Tryz.isAgg4
  z4 := Tryz.sizeOf4
  v4 := Tryz.zeroValue4
  t5 := Tryz.underlying5
  a5 := Tryz.isAgg5
  z5 := Tryz.sizeOf5
  v5 := Tryz.zeroValue5
  t9 := Tryz.underlying9
  a9 := Tryz.isAgg9
  z9 := Tryz.sizeOf9
  v9 := Tryz.zeroValue9
  t46 := Tryz.underlying106
  a46 := Tryz.isAgg106
  z46 := Tryz.sizeOf106
  v46 := Tryz.zeroValue106
  t51 := Tryz.underlying125
  a51 := Tryz.isAgg125
  z51 := Tryz.sizeOf125
  v51 := Tryz.zeroValue125
  t59 := Tryz.underlying100
  a59 := Tryz.isAgg100
  z59 := Tryz.sizeOf100
  v59 := Tryz.zeroValue100
  t146 := Tryz.underlying140
  a146 := Tryz.isAgg140
  z146 := Tryz.sizeOf140
  v146 := Tryz.zeroValue140
  g1 := by kernel_rfl
  i3 := by kernel_rfl
  i4 := by kernel_rfl
  i5 := by kernel_rfl
  i9 := by kernel_rfl
  i46 := by kernel_rfl
  i51 := by kernel_rfl
  i59 := by kernel_rfl
  i146 := by kernel_rfl
  m1 := by kernel_rfl
  s1_3 := fun w h => Go.Proofs.cell_of_shapedOpen_int (zero := #[.int .i64 0]) (t := 3) h (of_decide_eq_true (by kernel_rfl)) (by kernel_rfl) rfl (by kernel_rfl) (by kernel_rfl) Tryz.underlying3 }
def layAtoi_ren : Go.Shelf.Ren := ⟨fun | 172 => 128 | 244 => 148 | 245 => 149 | 247 => 159 | 279 => 160 | 280 => 161 | 281 => 162 | 282 => 163 | 287 => 166 | 316 => 167 | 171 => 129 | 205 => 168 | 321 => 173 | 322 => 174 | 243 => 150 | 246 => 164 | 283 => 169 | 284 => 170 | 285 => 171 | 286 => 172 | 129 => 141 | 317 => 175 | 318 => 176 | 319 => 177 | 320 => 178 | 337 => 179 | 338 => 180 | n => n, fun | 9 => 9 | 3 => 3 | 75 => 58 | 76 => 59 | 4 => 4 | 5 => 5 | 167 => 142 | 37 => 49 | 0 => 0 | 85 => 143 | 2 => 2 | 168 => 145 | 53 => 127 | 175 => 151 | 46 => 106 | 210 => 154 | 127 => 94 | 145 => 163 | 143 => 161 | 21 => 21 | 171 => 156 | 173 => 158 | 212 => 165 | 51 => 125 | 20 => 20 | 213 => 166 | 232 => 167 | 233 => 168 | 80 => 61 | n => n, fun | 15 => 3 | 16 => 4 | 17 => 5 | 18 => 6 | 19 => 7 | n => n⟩
theorem layAtoi : Go.Proofs.LaysC.n172 Tryz.prog layAtoi_ren := {
  mixed := by kernel_rfl
  f129 := Tryz.func141.trans (congrArg some (by kernel_rfl))
  f171 := Tryz.func129.trans (congrArg some (by kernel_rfl))
  f172 := Tryz.func128.trans (congrArg some (by kernel_rfl))
  f205 := Tryz.func168.trans (congrArg some (by kernel_rfl))
  f243 := Tryz.func150.trans (congrArg some (by kernel_rfl))
  f244 := Tryz.func148.trans (congrArg some (by kernel_rfl))
  f245 := Tryz.func149.trans (congrArg some (by kernel_rfl))
  f246 := Tryz.func164.trans (congrArg some (by kernel_rfl))
  f247 := Tryz.func159.trans (congrArg some (by kernel_rfl))
  f279 := Tryz.func160.trans (congrArg some (by kernel_rfl))
  f280 := Tryz.func161.trans (congrArg some (by kernel_rfl))
  f281 := Tryz.func162.trans (congrArg some (by kernel_rfl))
  f282 := Tryz.func163.trans (congrArg some (by kernel_rfl))
  f283 := Tryz.func169.trans (congrArg some (by kernel_rfl))
  f284 := Tryz.func170.trans (congrArg some (by kernel_rfl))
  f285 := Tryz.func171.trans (congrArg some (by kernel_rfl))
  f286 := Tryz.func172.trans (congrArg some (by kernel_rfl))
  f287 := Tryz.func166.trans (congrArg some (by kernel_rfl))
  f316 := Tryz.func167.trans (congrArg some (by kernel_rfl))
  f317 := Tryz.func175.trans (congrArg some (by kernel_rfl))
  f318 := Tryz.func176.trans (congrArg some (by kernel_rfl))
  f319 := Tryz.func177.trans (congrArg some (by kernel_rfl))
  f320 := Tryz.func178.trans (congrArg some (by kernel_rfl))
  f321 := Tryz.func173.trans (congrArg some (by kernel_rfl))
  f322 := Tryz.func174.trans (congrArg some (by kernel_rfl))
  f337 := Tryz.func179.trans (congrArg some (by kernel_rfl))
  f338 := Tryz.func180.trans (congrArg some (by kernel_rfl))
  t0 := Tryz.underlying0
  a0 := Tryz.isAgg0
  z0 := Tryz.sizeOf0
  v0 := Tryz.zeroValue0
  t2 := Tryz.underlying2
  a2 := Tryz.isAgg2
  z2 := Tryz.sizeOf2
  v2 := Tryz.zeroValue2
  t3 := Tryz.underlying3
  a3 := Tryz.isAgg3
  z3 := Tryz.sizeOf3
  v3 := Tryz.zeroValue3
  t4 := Tryz.underlying4
  a4 := Tryz.isAgg4
  z4 := Tryz.sizeOf4
  v4 := Tryz.zeroValue4
  t5 := Tryz.underlying5
  a5 := Tryz.isAgg5
  z5 := Tryz.sizeOf5
  v5 := Tryz.zeroValue5
  t9 := Tryz.underlying9
  a9 := Tryz.isAgg9
  z9 := Tryz.sizeOf9
  v9 := Tryz.zeroValue9
  t20 := Tryz.underlying20
  a20 := Tryz.isAgg20
  z20 := Tryz.sizeOf20
  v20 := Tryz.zeroValue20
  t21 := Tryz.underlying21
  a21 := Tryz.isAgg21
  z21 := Tryz.sizeOf21
  v21 := Tryz.zeroValue21
  t37 := Tryz.underlying49
  a37 := Tryz.isAgg49
  z37 := Tryz.sizeOf49
  v37 := Tryz.zeroValue49
  t46 := Tryz.underlying106
  a46 := Tryz.isAgg106
  z46 := Tryz.sizeOf106
  v46 := Tryz.zeroValue106
  t51 := Tryz.underlying125
  a51 := Tryz.isAgg125
  z51 := Tryz.sizeOf125
  v51 := Tryz.zeroValue125
  t53 := Tryz.underlying127
  a53 := Tryz.isAgg127
  z53 := Tryz.sizeOf127
  v53 := Tryz.zeroValue127
  t75 := Tryz.underlying58
  a75 := Tryz.isAgg58
  z75 := Tryz.sizeOf58
  v75 := Tryz.zeroValue58
  t76 := Tryz.underlying59
  a76 := Tryz.isAgg59
  z76 := Tryz.sizeOf59
  v76 := Tryz.zeroValue59
  t85 := Tryz.underlying143
  a85 := Tryz.isAgg143
  z85 := Tryz.sizeOf143
  v85 := Tryz.zeroValue143
  t127 := Tryz.underlying94
  a127 := Tryz.isAgg94
  z127 := Tryz.sizeOf94
  v127 := Tryz.zeroValue94
  t143 := Tryz.underlying161
  a143 := Tryz.isAgg161
  z143 := Tryz.sizeOf161
  v143 := Tryz.zeroValue161
  t145 := Tryz.underlying163
  a145 := Tryz.isAgg163
  z145 := Tryz.sizeOf163
  v145 := Tryz.zeroValue163
  t167 := Tryz.underlying142
  a167 := Tryz.isAgg142
  z167 := Tryz.sizeOf142
  v167 := Tryz.zeroValue142
  t168 := Tryz.underlying145
  a168 := Tryz.isAgg145
  z168 := Tryz.sizeOf145
  v168 := Tryz.zeroValue145
  t171 := Tryz.underlying156
  a171 := Tryz.isAgg156
  z171 := Tryz.sizeOf156
  v171 := Tryz.zeroValue156
  t173 := Tryz.underlying158
  a173 := Tryz.isAgg158
  z173 := Tryz.sizeOf158
  v173 := Tryz.zeroValue158
  t175 := Tryz.underlying151
  a175 := Tryz.isAgg151
  z175 := Tryz.sizeOf151
  v175 := Tryz.zeroValue151
  t210 := Tryz.underlying154
  a210 := Tryz.isAgg154
  z210 := Tryz.sizeOf154
  v210 := Tryz.zeroValue154
  t212 := Tryz.underlying165
  a212 := Tryz.isAgg165
  z212 := Tryz.sizeOf165
  v212 := Tryz.zeroValue165
  t213 := Tryz.underlying166
  a213 := Tryz.isAgg166
  z213 := Tryz.sizeOf166
  t232 := Tryz.underlying167
  a232 := Tryz.isAgg167
  z232 := Tryz.sizeOf167
  v232 := Tryz.zeroValue167
  t233 := Tryz.underlying168
  a233 := Tryz.isAgg168
  z233 := Tryz.sizeOf168
  v233 := Tryz.zeroValue168
  g15 := by kernel_rfl
  g16 := by kernel_rfl
  g17 := by kernel_rfl
  g18 := by kernel_rfl
  g19 := by kernel_rfl
  t80 := Tryz.underlying61
  a80 := Tryz.isAgg61
  z80 := Tryz.sizeOf61
  v80 := Tryz.zeroValue61
  i0 := by kernel_rfl
  i2 := by kernel_rfl
  i3 := by kernel_rfl
  i4 := by kernel_rfl
  i5 := by kernel_rfl
  i9 := by kernel_rfl
  i20 := by kernel_rfl
  i21 := by kernel_rfl
  i37 := by kernel_rfl
  i46 := by kernel_rfl
  i51 := by kernel_rfl
  i53 := by kernel_rfl
  i75 := by kernel_rfl
  i76 := by kernel_rfl
  i80 := by kernel_rfl
  i85 := by kernel_rfl
  i127 := by kernel_rfl
  i143 := by kernel_rfl
  i145 := by kernel_rfl
  i167 := by kernel_rfl
  i168 := by kernel_rfl
  i171 := by kernel_rfl
  i173 := by kernel_rfl
  i175 := by kernel_rfl
  i210 := by kernel_rfl
  i212 := by kernel_rfl
  i232 := by kernel_rfl
  i233 := by kernel_rfl
  m15 := by kernel_rfl
  m16 := by kernel_rfl
  m17 := by kernel_rfl
  m18 := by kernel_rfl
  m19 := by kernel_rfl
  c0 := by kernel_rfl
  c2 := by kernel_rfl
  c3 := by kernel_rfl
  c4 := by kernel_rfl
  c5 := by kernel_rfl
  c9 := by kernel_rfl
  c20 := by kernel_rfl
  c21 := by kernel_rfl
  c37 := by kernel_rfl
  c46 := by kernel_rfl
  c51 := by kernel_rfl
  c53 := by kernel_rfl
  c75 := by kernel_rfl
  c76 := by kernel_rfl
  c80 := by kernel_rfl
  c85 := by kernel_rfl
  c127 := by kernel_rfl
  c143 := by kernel_rfl
  c145 := by kernel_rfl
  c167 := by kernel_rfl
  c168 := by kernel_rfl
  c171 := by kernel_rfl
  c173 := by kernel_rfl
  c175 := by kernel_rfl
  c210 := by kernel_rfl
  c212 := by kernel_rfl
  c213 := by kernel_rfl
  c232 := by kernel_rfl
  c233 := by kernel_rfl }
def layItoa_ren : Go.Shelf.Ren := ⟨fun | 171 => 129 | 243 => 150 | 246 => 164 | 283 => 169 | 284 => 170 | 285 => 171 | 286 => 172 | 129 => 141 | 317 => 175 | 318 => 176 | 319 => 177 | 320 => 178 | 337 => 179 | 338 => 180 | n => n, fun | 3 => 3 | 9 => 9 | 2 => 2 | 4 => 4 | 171 => 156 | 0 => 0 | 53 => 127 | 37 => 49 | 5 => 5 | 173 => 158 | 212 => 165 | 51 => 125 | 20 => 20 | 213 => 166 | 46 => 106 | 232 => 167 | 233 => 168 | n => n, fun | 17 => 5 | 18 => 6 | 19 => 7 | n => n⟩
theorem layItoa : Go.Proofs.LaysM.n171 Tryz.prog layItoa_ren := {
  mixed := by kernel_rfl
  f129 := Tryz.func141.trans (congrArg some (by kernel_rfl))
  f171 := Tryz.func129.trans (congrArg some (by kernel_rfl))
  f243 := Tryz.func150.trans (congrArg some (by kernel_rfl))
  f246 := Tryz.func164.trans (congrArg some (by kernel_rfl))
  f283 := Tryz.func169.trans (congrArg some (by kernel_rfl))
  f284 := Tryz.func170.trans (congrArg some (by kernel_rfl))
  f285 := Tryz.func171.trans (congrArg some (by kernel_rfl))
  f286 := Tryz.func172.trans (congrArg some (by kernel_rfl))
  f317 := Tryz.func175.trans (congrArg some (by kernel_rfl))
  f318 := Tryz.func176.trans (congrArg some (by kernel_rfl))
  f319 := Tryz.func177.trans (congrArg some (by kernel_rfl))
  f320 := Tryz.func178.trans (congrArg some (by kernel_rfl))
  f337 := Tryz.func179.trans (congrArg some (by kernel_rfl))
  f338 := Tryz.func180.trans (congrArg some (by kernel_rfl))
  t0 := Tryz.underlying0
  a0 := Tryz.isAgg0
  z0 := Tryz.sizeOf0
  v0 := Tryz.zeroValue0
  t2 := Tryz.underlying2
  a2 := Tryz.isAgg2
  z2 := Tryz.sizeOf2
  v2 := Tryz.zeroValue2
  t3 := Tryz.underlying3
  a3 := Tryz.isAgg3
  z3 := Tryz.sizeOf3
  v3 := Tryz.zeroValue3
  t4 := Tryz.underlying4
  a4 := Tryz.isAgg4
  z4 := Tryz.sizeOf4
  v4 := Tryz.zeroValue4
  t5 := Tryz.underlying5
  a5 := Tryz.isAgg5
  z5 := Tryz.sizeOf5
  v5 := Tryz.zeroValue5
  t9 := Tryz.underlying9
  a9 := Tryz.isAgg9
  z9 := Tryz.sizeOf9
  v9 := Tryz.zeroValue9
  t20 := Tryz.underlying20
  a20 := Tryz.isAgg20
  z20 := Tryz.sizeOf20
  v20 := Tryz.zeroValue20
  t37 := Tryz.underlying49
  a37 := Tryz.isAgg49
  z37 := Tryz.sizeOf49
  v37 := Tryz.zeroValue49
  t46 := Tryz.underlying106
  a46 := Tryz.isAgg106
  z46 := Tryz.sizeOf106
  v46 := Tryz.zeroValue106
  t51 := Tryz.underlying125
  a51 := Tryz.isAgg125
  z51 := Tryz.sizeOf125
  v51 := Tryz.zeroValue125
  t53 := Tryz.underlying127
  a53 := Tryz.isAgg127
  z53 := Tryz.sizeOf127
  v53 := Tryz.zeroValue127
  t171 := Tryz.underlying156
  a171 := Tryz.isAgg156
  z171 := Tryz.sizeOf156
  v171 := Tryz.zeroValue156
  t173 := Tryz.underlying158
  a173 := Tryz.isAgg158
  z173 := Tryz.sizeOf158
  v173 := Tryz.zeroValue158
  t212 := Tryz.underlying165
  a212 := Tryz.isAgg165
  z212 := Tryz.sizeOf165
  v212 := Tryz.zeroValue165
  t213 := Tryz.underlying166
  a213 := Tryz.isAgg166
  z213 := Tryz.sizeOf166
  t232 := Tryz.underlying167
  a232 := Tryz.isAgg167
  z232 := Tryz.sizeOf167
  v232 := Tryz.zeroValue167
  t233 := Tryz.underlying168
  a233 := Tryz.isAgg168
  z233 := Tryz.sizeOf168
  v233 := Tryz.zeroValue168
  g17 := by kernel_rfl
  g18 := by kernel_rfl
  g19 := by kernel_rfl
  i0 := by kernel_rfl
  i2 := by kernel_rfl
  i3 := by kernel_rfl
  i4 := by kernel_rfl
  i5 := by kernel_rfl
  i9 := by kernel_rfl
  i20 := by kernel_rfl
  i37 := by kernel_rfl
  i46 := by kernel_rfl
  i51 := by kernel_rfl
  i53 := by kernel_rfl
  i171 := by kernel_rfl
  i173 := by kernel_rfl
  i212 := by kernel_rfl
  i232 := by kernel_rfl
  i233 := by kernel_rfl
  m17 := by kernel_rfl
  m18 := by kernel_rfl
  m19 := by kernel_rfl }
theorem layJoinX : Builder.Extra Tryz.prog layJoin_ren where
  sizeBuilder := by kernel_rfl
  liesBuilder := by kernel_rfl
  t5 := Tryz.underlying5
  a5 := Tryz.isAgg5
  z5 := Tryz.sizeOf5
  v5 := Tryz.zeroValue5
  infoByte := by kernel_rfl
  cellsByte := by kernel_rfl
  sizeByte := by kernel_rfl
  neB5 := by decide
end Go.Proofs.YtmjamlboilmbfaaGreatDoor
namespace Go.Proofs.YtmjamlboilmbfaaGreatDoor
open Go.RowKit
set_option maxRecDepth 100000
set_option linter.unusedVariables false
set_option linter.unusedSimpArgs false
open Go.Shelf
def decN (s : ByteArray) : Int := match Lib.atoiAll s.data.toList with
  | .ok v => bif decide (0 ≤ v) && (Lib.itoa v == s.data.toList) then v else -1
  | _ => -1
theorem GP.tab {w : World} (h : GP w) : Lib.TabIs Tryz.prog w "internal/strconv.uint64pow10" .u64 Lib.pow10Tab := by
  obtain ⟨T, fz, h1⟩ := h.2.2 _ (List.mem_append_right _ (List.mem_singleton.2 rfl))
  have hg := layItoa.m17
  unfold Lib.TabIs World.var?
  rw [hg]
  simp only [Option.bind_some]
  exact (congrArg (fun o => match o with | some (Obj.cells cs _ _) => some cs | _ => none) h1)
theorem GP.err1 {w : World} (h : GP w) : ∃ e, w.cell? ⟨layAtoi_ren.g 15, 0, none⟩ = some e ∧ (e = .nilIface ∨ ∃ te pe, e = .iface te pe) := h.1 _ (by decide)
theorem GP.err2 {w : World} (h : GP w) : ∃ e, w.cell? ⟨layAtoi_ren.g 16, 0, none⟩ = some e ∧ (e = .nilIface ∨ ∃ te pe, e = .iface te pe) := h.1 _ (by decide)
theorem tab_keep {w w' : World} (h : Lib.TabIs Tryz.prog w "internal/strconv.uint64pow10" .u64 Lib.pow10Tab) (hb : Below w.heap.size w w') : Lib.TabIs Tryz.prog w' "internal/strconv.uint64pow10" .u64 Lib.pow10Tab := by
  unfold Lib.TabIs World.var? at h ⊢
  rw [layItoa.m17] at h ⊢
  simp only [Option.bind_some] at h ⊢
  have hlt : layItoa_ren.g 17 < w.heap.size := by
    rcases Nat.lt_or_ge (layItoa_ren.g 17) w.heap.size with h1 | h1
    · exact h1
    · rw [Array.getElem?_eq_none h1] at h; cases h
  rw [hb.block _ hlt]
  exact h
set_option maxHeartbeats 1000000 in
theorem dec_fail (s : ByteArray) (w : World) (v0 : Int) (R : World → Prop) (hI : Calls Tryz.prog 128 #[.string s] w fun e w' => (∃ N, e = .returned (.tuple #[.int .i64 v0, .iface (layAtoi_ren.t 168) (.pointer (some ⟨N, 0, none⟩))])) ∧ Below w.heap.size w w') :
    Calls Tryz.prog 105 #[.string s] w fun e w' => e = .returned (.int .i64 (-1)) ∧ Below w.heap.size w w' := by
  go_enter Tryz.func105, Tryz.ntmps105
  go_wp2_with (go_at_call 128; refine hI.mono ?_; rintro e W1 ⟨⟨N, rfl⟩, hW⟩)
  go_ret
  exact ⟨rfl, hW⟩
set_option maxHeartbeats 1000000 in
theorem dec_neg (s : ByteArray) (w : World) (v : Int) (hv : decide (v < 0) = true) (hI : Calls Tryz.prog 128 #[.string s] w fun e w' => e = .returned (.tuple #[.int .i64 v, .nilIface]) ∧ Below w.heap.size w w') :
    Calls Tryz.prog 105 #[.string s] w fun e w' => e = .returned (.int .i64 (-1)) ∧ Below w.heap.size w w' := by
  go_enter Tryz.func105, Tryz.ntmps105
  go_wp2_with (go_at_call 128; refine hI.mono ?_; rintro e W1 ⟨rfl, hW⟩)
  go_ret
  exact ⟨rfl, hW⟩
set_option maxHeartbeats 1000000 in
theorem dec_pos (s : ByteArray) (w : World) (v : Int) (hv : decide (v < 0) = false) (hv2 : v ≤ 9223372036854775807) (ht : Lib.TabIs Tryz.prog w "internal/strconv.uint64pow10" .u64 Lib.pow10Tab)
    (hI : Calls Tryz.prog 128 #[.string s] w fun e w' => e = .returned (.tuple #[.int .i64 v, .nilIface]) ∧ Below w.heap.size w w') :
    Calls Tryz.prog 105 #[.string s] w fun e w' => e = .returned (.int .i64 (bif Lib.itoa v == s.data.toList then v else -1)) ∧ Below w.heap.size w w' := by
  have hv0 : 0 ≤ v := by simpa using hv
  have hT : ∀ W1, Below w.heap.size w W1 → Calls Tryz.prog 129 #[.int .i64 v] W1 fun e w' => e = .returned (.string ⟨(Lib.itoa v).toArray⟩) ∧ Below W1.heap.size W1 w' := fun W1 hW => by
    refine (Any.strconv_Itoa layItoa v (by omega) hv2 W1 (tab_keep ht hW)).mono ?_
    rintro e w' ⟨rfl, k, os, rfl⟩
    exact ⟨rfl, ⟨rfl, rfl, rfl, by simp [Go.Sort.grow], fun b hb => by simp [Go.Sort.grow, Array.getElem?_append_left hb]⟩⟩
  have H := Lib.hid hT
  clear hT
  have key : (bif Lib.itoa v == s.data.toList then v else -1) = (bif (!(Lib.itoa v == s.toList)) then -1 else v) := by
    have e : s.toList = s.data.toList := byteToList s
    rw [e]
    cases (Lib.itoa v == s.data.toList) <;> rfl
  rw [key]
  clear key
  go_enter Tryz.func105, Tryz.ntmps105
  go_wp2_with (first | (go_at_call 128; refine hI.mono ?_; rintro e W1 ⟨rfl, hW⟩) | (go_at_call 129; refine (H.out _ hW).mono ?_; rintro e W2 ⟨rfl, hW2⟩))
  all_goals
    rename_i hq
    rw [hq]
    go_ret
    exact ⟨rfl, hW.trans (hW2.mono hW.size)⟩
theorem dec_ok (s : ByteArray) (hs : s.size ≤ 281474976710656) (w : World) (hG : GP w) :
    Calls Tryz.prog 105 #[.string s] w fun e w' => e = .returned (.int .i64 (decN s)) ∧ Below w.heap.size w w' := by
  unfold decN
  cases h : Lib.atoiAll s.data.toList with
  | ok v =>
    obtain ⟨b0, b1⟩ := Lib.atoiAll_bounds h
    have hI : Calls Tryz.prog 128 #[.string s] w fun e w' => e = .returned (.tuple #[.int .i64 v, .nilIface]) ∧ Below w.heap.size w w' := by
      refine (Any.strconv_Atoi_ok layAtoi s (by omega) v h w).mono ?_
      rintro e w' ⟨rfl, hw⟩
      refine ⟨rfl, ?_⟩
      rcases hw with rfl | ⟨t, rfl⟩
      · exact Below.refl _ _
      · exact Lib.bytesWorld_below _ _ _
    by_cases hv : v < 0
    · have e1 : (bif decide (0 ≤ v) && (Lib.itoa v == s.data.toList) then v else -1) = -1 := by
        rw [decide_eq_false (by omega)]; rfl
      simp only [e1]
      exact dec_neg s w v (decide_eq_true hv) hI
    · have e1 : (bif decide (0 ≤ v) && (Lib.itoa v == s.data.toList) then v else -1) = (bif Lib.itoa v == s.data.toList then v else -1) := by
        rw [decide_eq_true (by omega), Bool.true_and]
      simp only [e1]
      exact dec_pos s w v (decide_eq_false hv) (by omega) hG.tab hI
  | range =>
    obtain ⟨ev, h1, h2⟩ := hG.err2
    refine dec_fail s w (Lib.atoiSat s.data.toList) (fun _ => True) ((Any.strconv_Atoi_range layAtoi s hs h ev w h1 h2).mono ?_)
    rintro e w' ⟨N, rfl, _, _, hb⟩
    exact ⟨⟨N, rfl⟩, hb⟩
  | _ =>
    obtain ⟨ev, h1, h2⟩ := hG.err1
    refine dec_fail s w 0 (fun _ => True) ((Any.strconv_Atoi_syntax layAtoi s hs h ev w h1 h2).mono ?_)
    rintro e w' ⟨N, rfl, _, _, hb⟩
    exact ⟨⟨N, rfl⟩, hb⟩
theorem decimal_ok (s : ByteArray) : Spec.ok Tryz.prog 105 ⟨[.r (.c (.v (.string s)))], .v (.int .i64 (decN s)), s.size ≤ 281474976710656⟩ false := by
  intro hs S w vs fp hS hG hA
  obtain ⟨u, us, f, g, rfl, ⟨⟨rfl, _⟩, rfl⟩, ⟨rfl, rfl⟩, rfl, _⟩ := hA
  refine (dec_ok s hs w hG.1).mono fun e w' ⟨h1, h2⟩ => ?_
  exact ⟨_, [], [], h1, ⟨rfl, rfl, rfl⟩, ⟨_, _, [], [], rfl, rfl, rfl, rfl⟩, List.nodup_nil, fun b hb => by simp at hb, ⟨h2.os, h2.tape, h2.output, h2.size, fun k hk _ => h2.block k hk, Nat.zero_le _⟩⟩
end Go.Proofs.YtmjamlboilmbfaaGreatDoor
namespace Go.Proofs.YtmjamlboilmbfaaGreatDoor
theorem ai {a b : Prop} (h : a) (k : b) : a ∧ b := ⟨h, k⟩
abbrev vI (x : Int) : Value := .int .i64 x
open Go.RowKit
set_option maxRecDepth 100000
set_option linter.unusedVariables false
set_option linter.unusedSimpArgs false
theorem mixed : Tryz.prog.follows .mixedOrders = true := Checked.mixed Tryz.checked
def F104 (s : ByteArray) (sep : ByteArray) : ByteArray × ByteArray × Bool :=
  cut3 s sep
def S104 (s : ByteArray) (sep : ByteArray) : Spec := ⟨[.r (.c (.v (.string s))), .r (.c (.v (.string sep)))], .tu [.v (.string ((F104 s sep).1)), .v (.string ((F104 s sep).2.1)), .v (.bool ((F104 s sep).2.2))], s.size ≤ 4294967280⟩
theorem ok104 (s : ByteArray) (sep : ByteArray) : (S104 s sep).ok Tryz.prog 104 :=
  cut_ok layCut (by decide) s sep
theorem g104_0 (s : ByteArray) (sep : ByteArray) : (F104 s sep).1.size ≤ (s.size : Int) := by
  exact cut3_le1 s sep
theorem g104_1 (s : ByteArray) (sep : ByteArray) : (F104 s sep).2.1.size ≤ (s.size : Int) := by
  exact cut3_le2 s sep
def F105 (text : ByteArray) : Int :=
  decN text
def S105 (text : ByteArray) : Spec := ⟨[.r (.c (.v (.string text)))], .v (vI (F105 text)), text.size ≤ 281474976710656⟩
theorem ok105 (text : ByteArray) : (S105 text).ok Tryz.prog 105 false :=
  decimal_ok text
def F78 (n : Int) (low : Int) (high : Int) : Bool :=
  (bif decide (low ≤ n) then decide (n ≤ high) else false)
def S78 (R : Bool) (n : Int) (low : Int) (high : Int) : Spec := ⟨[.r (.c (.v (vI n))), .r (.c (.v (vI low))), .r (.c (.v (vI high)))], .v (.bool R), True⟩
theorem ok78 (n : Int) (low : Int) (high : Int) : (S78 (F78 n low high) n low high).ok Tryz.prog 78 :=
  fnG_ok mixed (fn := Tryz.f78) (ct := .seq (.no) (.seq (.no) (.no))) Tryz.func78 (fun (_ : True) => (fun hF : ((bif decide (low ≤ n) then decide (n ≤ high) else false) : Bool) = (F78 n low high) => ai (congrArg (fun r : Bool => (.bool r : Value)) hF) (trivial)) (rfl)) (by kernel_rfl)
theorem as78 (n : Int) (low : Int) (high : Int) : F78 n low high = (decide (low ≤ n ∧ n ≤ high)) := by
  simp only [F78, Bool.decide_and, bandd]
theorem oa78 (n : Int) (low : Int) (high : Int) : (S78 (decide (low ≤ n ∧ n ≤ high)) n low high).ok Tryz.prog 78 := by
  intro hp; have h := ok78 n low high hp; rw [as78 n low high] at h; exact h
def F72 (text : ByteArray) : Int :=
  bif (bif (bif (!((F104 text (⟨#[46]⟩ : ByteArray)).2.2)) then true else (!(decide (0 ≤ (F105 ((F104 text (⟨#[46]⟩ : ByteArray)).1)) ∧ (F105 ((F104 text (⟨#[46]⟩ : ByteArray)).1)) ≤ 255)))) then true else (!(decide (0 ≤ (F105 ((F104 text (⟨#[46]⟩ : ByteArray)).2.1)) ∧ (F105 ((F104 text (⟨#[46]⟩ : ByteArray)).2.1)) ≤ 255)))) then (-1) else (IntKind.i64.wrap ((IntKind.i64.wrap (256 * (F105 ((F104 text (⟨#[46]⟩ : ByteArray)).1)))) + (F105 ((F104 text (⟨#[46]⟩ : ByteArray)).2.1))))
def S72 (text : ByteArray) : Spec := ⟨[.r (.c (.v (.string text)))], .v (vI (F72 text)), text.size ≤ 1048576⟩
theorem ok72 (text : ByteArray) : (S72 text).ok Tryz.prog 72 false :=
  fnG_ok mixed (fn := Tryz.f72) (ct := .seq (.no) (.seq (.reg [(1, .call 104 (S104 text (⟨#[46]⟩ : ByteArray)) ((ok104 text (⟨#[46]⟩ : ByteArray)).to false) none)]) (.seq (.reg [(1, .call 105 (S105 ((F104 text (⟨#[46]⟩ : ByteArray)).1)) (ok105 ((F104 text (⟨#[46]⟩ : ByteArray)).1)) none), (3, .call 105 (S105 ((F104 text (⟨#[46]⟩ : ByteArray)).2.1)) (ok105 ((F104 text (⟨#[46]⟩ : ByteArray)).2.1)) none)]) (.seq (.seq (.reg [(4, .call 78 (S78 (decide (0 ≤ (F105 ((F104 text (⟨#[46]⟩ : ByteArray)).1)) ∧ (F105 ((F104 text (⟨#[46]⟩ : ByteArray)).1)) ≤ 255)) (F105 ((F104 text (⟨#[46]⟩ : ByteArray)).1)) 0 255) ((oa78 (F105 ((F104 text (⟨#[46]⟩ : ByteArray)).1)) 0 255).to false) none), (9, .call 78 (S78 (decide (0 ≤ (F105 ((F104 text (⟨#[46]⟩ : ByteArray)).2.1)) ∧ (F105 ((F104 text (⟨#[46]⟩ : ByteArray)).2.1)) ≤ 255)) (F105 ((F104 text (⟨#[46]⟩ : ByteArray)).2.1)) 0 255) ((oa78 (F105 ((F104 text (⟨#[46]⟩ : ByteArray)).2.1)) 0 255).to false) none)]) (.cond (.seq (.no) (.no)) (.no))) (.seq (.no) (.no)))))) Tryz.func72 (fun (hpre0 : text.size ≤ 1048576) => ai (((by omega : text.size ≤ 4294967280))) (ai ((Imp.refl (.v (.string text)))) (ai ((Imp.refl (.v (.string (⟨#[46]⟩ : ByteArray))))) ((fun gv1 : (F104 text (⟨#[46]⟩ : ByteArray)).1.size ≤ (text.size : Int) => (fun gv2 : (F104 text (⟨#[46]⟩ : ByteArray)).2.1.size ≤ (text.size : Int) => ai (((by omega : ((F104 text (⟨#[46]⟩ : ByteArray)).1).size ≤ 281474976710656))) (ai ((Imp.refl (.v (.string ((F104 text (⟨#[46]⟩ : ByteArray)).1))))) (ai (((by omega : ((F104 text (⟨#[46]⟩ : ByteArray)).2.1).size ≤ 281474976710656))) (ai ((Imp.refl (.v (.string ((F104 text (⟨#[46]⟩ : ByteArray)).2.1))))) (ai ((fun k3 : (!((F104 text (⟨#[46]⟩ : ByteArray)).2.2)) = false => (fun _ : (F104 text (⟨#[46]⟩ : ByteArray)).2.2 = true => trivial) ((notEF k3)))) (ai ((fun k4 : (!((F104 text (⟨#[46]⟩ : ByteArray)).2.2)) = false => (fun _ : (F104 text (⟨#[46]⟩ : ByteArray)).2.2 = true => (Imp.refl (.v (vI (F105 ((F104 text (⟨#[46]⟩ : ByteArray)).1)))))) ((notEF k4)))) (ai ((fun k5 : (!((F104 text (⟨#[46]⟩ : ByteArray)).2.2)) = false => (fun _ : (F104 text (⟨#[46]⟩ : ByteArray)).2.2 = true => (Imp.refl (.v (vI 0)))) ((notEF k5)))) (ai ((fun k6 : (!((F104 text (⟨#[46]⟩ : ByteArray)).2.2)) = false => (fun _ : (F104 text (⟨#[46]⟩ : ByteArray)).2.2 = true => (Imp.refl (.v (vI 255)))) ((notEF k6)))) (ai ((fun k7 : (bif (!((F104 text (⟨#[46]⟩ : ByteArray)).2.2)) then true else (!(decide (0 ≤ (F105 ((F104 text (⟨#[46]⟩ : ByteArray)).1)) ∧ (F105 ((F104 text (⟨#[46]⟩ : ByteArray)).1)) ≤ 255)))) = false => (fun _ : 0 ≤ (F105 ((F104 text (⟨#[46]⟩ : ByteArray)).1)) ∧ (F105 ((F104 text (⟨#[46]⟩ : ByteArray)).1)) ≤ 255 => (fun _ : (F104 text (⟨#[46]⟩ : ByteArray)).2.2 = true => trivial) ((notEF (orF1 k7)))) (of_decide_eq_true (notEF (orF2 k7))))) (ai ((fun k8 : (bif (!((F104 text (⟨#[46]⟩ : ByteArray)).2.2)) then true else (!(decide (0 ≤ (F105 ((F104 text (⟨#[46]⟩ : ByteArray)).1)) ∧ (F105 ((F104 text (⟨#[46]⟩ : ByteArray)).1)) ≤ 255)))) = false => (fun _ : 0 ≤ (F105 ((F104 text (⟨#[46]⟩ : ByteArray)).1)) ∧ (F105 ((F104 text (⟨#[46]⟩ : ByteArray)).1)) ≤ 255 => (fun _ : (F104 text (⟨#[46]⟩ : ByteArray)).2.2 = true => (Imp.refl (.v (vI (F105 ((F104 text (⟨#[46]⟩ : ByteArray)).2.1)))))) ((notEF (orF1 k8)))) (of_decide_eq_true (notEF (orF2 k8))))) (ai ((fun k9 : (bif (!((F104 text (⟨#[46]⟩ : ByteArray)).2.2)) then true else (!(decide (0 ≤ (F105 ((F104 text (⟨#[46]⟩ : ByteArray)).1)) ∧ (F105 ((F104 text (⟨#[46]⟩ : ByteArray)).1)) ≤ 255)))) = false => (fun _ : 0 ≤ (F105 ((F104 text (⟨#[46]⟩ : ByteArray)).1)) ∧ (F105 ((F104 text (⟨#[46]⟩ : ByteArray)).1)) ≤ 255 => (fun _ : (F104 text (⟨#[46]⟩ : ByteArray)).2.2 = true => (Imp.refl (.v (vI 0)))) ((notEF (orF1 k9)))) (of_decide_eq_true (notEF (orF2 k9))))) (ai ((fun k10 : (bif (!((F104 text (⟨#[46]⟩ : ByteArray)).2.2)) then true else (!(decide (0 ≤ (F105 ((F104 text (⟨#[46]⟩ : ByteArray)).1)) ∧ (F105 ((F104 text (⟨#[46]⟩ : ByteArray)).1)) ≤ 255)))) = false => (fun _ : 0 ≤ (F105 ((F104 text (⟨#[46]⟩ : ByteArray)).1)) ∧ (F105 ((F104 text (⟨#[46]⟩ : ByteArray)).1)) ≤ 255 => (fun _ : (F104 text (⟨#[46]⟩ : ByteArray)).2.2 = true => (Imp.refl (.v (vI 255)))) ((notEF (orF1 k10)))) (of_decide_eq_true (notEF (orF2 k10))))) (ai (fun h11 : (bif (bif (!((F104 text (⟨#[46]⟩ : ByteArray)).2.2)) then true else (!(decide (0 ≤ (F105 ((F104 text (⟨#[46]⟩ : ByteArray)).1)) ∧ (F105 ((F104 text (⟨#[46]⟩ : ByteArray)).1)) ≤ 255)))) then true else (!(decide (0 ≤ (F105 ((F104 text (⟨#[46]⟩ : ByteArray)).2.1)) ∧ (F105 ((F104 text (⟨#[46]⟩ : ByteArray)).2.1)) ≤ 255)))) = true => (fun hF : ((-1) : Int) = (F72 text) => ai (congrArg (fun r : Int => (.int .i64 r : Value)) hF) (trivial)) (condT h11 (rfl))) (fun h11 : (bif (bif (!((F104 text (⟨#[46]⟩ : ByteArray)).2.2)) then true else (!(decide (0 ≤ (F105 ((F104 text (⟨#[46]⟩ : ByteArray)).1)) ∧ (F105 ((F104 text (⟨#[46]⟩ : ByteArray)).1)) ≤ 255)))) then true else (!(decide (0 ≤ (F105 ((F104 text (⟨#[46]⟩ : ByteArray)).2.1)) ∧ (F105 ((F104 text (⟨#[46]⟩ : ByteArray)).2.1)) ≤ 255)))) = false => (fun _ : 0 ≤ (F105 ((F104 text (⟨#[46]⟩ : ByteArray)).2.1)) ∧ (F105 ((F104 text (⟨#[46]⟩ : ByteArray)).2.1)) ≤ 255 => (fun _ : 0 ≤ (F105 ((F104 text (⟨#[46]⟩ : ByteArray)).1)) ∧ (F105 ((F104 text (⟨#[46]⟩ : ByteArray)).1)) ≤ 255 => (fun _ : (F104 text (⟨#[46]⟩ : ByteArray)).2.2 = true => (fun hF : ((IntKind.i64.wrap ((IntKind.i64.wrap (256 * (F105 ((F104 text (⟨#[46]⟩ : ByteArray)).1)))) + (F105 ((F104 text (⟨#[46]⟩ : ByteArray)).2.1)))) : Int) = (F72 text) => ai (congrArg (fun r : Int => (.int .i64 r : Value)) hF) (trivial)) (condF h11 (rfl))) ((notEF (orF1 (orF1 h11))))) (of_decide_eq_true (notEF (orF2 (orF1 h11))))) (of_decide_eq_true (notEF (orF2 h11))))))))))))))))) (g104_1 text (⟨#[46]⟩ : ByteArray))) (g104_0 text (⟨#[46]⟩ : ByteArray)))))) (by kernel_rfl)
structure NetPrefix where
  Addr : Int
  Len : Int
  deriving DecidableEq, Inhabited
def eNetPrefix (x : NetPrefix) : List Dat := [.v (vI x.Addr), .v (vI x.Len)]
def F130 (p : NetPrefix) : Int :=
  (IntKind.i64.wrap (1 * 2 ^ (min (16 - p.Len).toNat IntKind.i64.bits)))
def S130 (p : NetPrefix) : Spec := ⟨[.r (.g (eNetPrefix p))], .v (vI (F130 p)), 0 ≤ p.Len ∧ p.Len ≤ 16⟩
theorem ok130 (p : NetPrefix) : (S130 p).ok Tryz.prog 130 :=
  fnG_ok mixed (fn := Tryz.f130) (ct := .seq (.no) (.seq (.reg [(2, .bnd)]) (.no))) Tryz.func130 (fun (hp : 0 ≤ p.Len ∧ p.Len ≤ 16) => (fun (hpre0 : 0 ≤ p.Len) (hpre1 : p.Len ≤ 16) => ai ((by unfold i64ok; omega : i64ok (16 - p.Len))) (ai ((by omega : 0 ≤ (16 - p.Len))) ((fun hF : ((IntKind.i64.wrap (1 * 2 ^ (min (16 - p.Len).toNat IntKind.i64.bits))) : Int) = (F130 p) => ai (congrArg (fun r : Int => (.int .i64 r : Value)) hF) (trivial)) (rfl)))) hp.1 hp.2) (by kernel_rfl)
theorem g130_0 (p : NetPrefix) : 0 ≤ p.Len → p.Len ≤ 16 → 1 ≤ (F130 p) ∧ (F130 p) ≤ 65536 := by
  obtain ⟨a, l⟩ := p; intro h1 h2; simp only at h1 h2; have h3 : l = 0 ∨ l = 1 ∨ l = 2 ∨ l = 3 ∨ l = 4 ∨ l = 5 ∨ l = 6 ∨ l = 7 ∨ l = 8 ∨ l = 9 ∨ l = 10 ∨ l = 11 ∨ l = 12 ∨ l = 13 ∨ l = 14 ∨ l = 15 ∨ l = 16 := by omega
  rcases h3 with rfl | rfl | rfl | rfl | rfl | rfl | rfl | rfl | rfl | rfl | rfl | rfl | rfl | rfl | rfl | rfl | rfl <;> exact of_decide_eq_true rfl
def F108 (p : NetPrefix) : Bool :=
  (bif (bif (decide (0 ≤ p.Len ∧ p.Len ≤ 16)) then (decide (0 ≤ p.Addr ∧ p.Addr ≤ 65535)) else false) then ((p.Addr.tmod (F130 p)) == 0) else false)
def S108 (p : NetPrefix) : Spec := ⟨[.r (.g (eNetPrefix p))], .v (.bool (F108 p)), True⟩
theorem ok108 (p : NetPrefix) : (S108 p).ok Tryz.prog 108 :=
  fnG_ok mixed (fn := Tryz.f108) (ct := .seq (.no) (.seq (.reg [(2, .call 78 (S78 (decide (0 ≤ p.Len ∧ p.Len ≤ 16)) p.Len 0 16) (oa78 p.Len 0 16) none), (6, .call 78 (S78 (decide (0 ≤ p.Addr ∧ p.Addr ≤ 65535)) p.Addr 0 65535) (oa78 p.Addr 0 65535) none), (12, .call 130 (S130 p) (ok130 p) none)]) (.no))) Tryz.func108 (fun (_ : True) => ai (trivial) (ai ((Imp.refl (.v (vI p.Len)))) (ai ((Imp.refl (.v (vI 0)))) (ai ((Imp.refl (.v (vI 16)))) (ai ((fun k1 : (decide (0 ≤ p.Len ∧ p.Len ≤ 16)) = true => (fun _ : 0 ≤ p.Len ∧ p.Len ≤ 16 => trivial) (of_decide_eq_true k1))) (ai ((fun k2 : (decide (0 ≤ p.Len ∧ p.Len ≤ 16)) = true => (fun _ : 0 ≤ p.Len ∧ p.Len ≤ 16 => (Imp.refl (.v (vI p.Addr)))) (of_decide_eq_true k2))) (ai ((fun k3 : (decide (0 ≤ p.Len ∧ p.Len ≤ 16)) = true => (fun _ : 0 ≤ p.Len ∧ p.Len ≤ 16 => (Imp.refl (.v (vI 0)))) (of_decide_eq_true k3))) (ai ((fun k4 : (decide (0 ≤ p.Len ∧ p.Len ≤ 16)) = true => (fun _ : 0 ≤ p.Len ∧ p.Len ≤ 16 => (Imp.refl (.v (vI 65535)))) (of_decide_eq_true k4))) (ai ((fun k7 : (bif (decide (0 ≤ p.Len ∧ p.Len ≤ 16)) then (decide (0 ≤ p.Addr ∧ p.Addr ≤ 65535)) else false) = true => (fun _ : 0 ≤ p.Addr ∧ p.Addr ≤ 65535 => (fun _ : 0 ≤ p.Len ∧ p.Len ≤ 16 => (ai ((by omega : 0 ≤ p.Len)) ((by omega : p.Len ≤ 16)))) (of_decide_eq_true (andT1 k7))) (of_decide_eq_true (andT2 k7)))) (ai ((fun k8 : (bif (decide (0 ≤ p.Len ∧ p.Len ≤ 16)) then (decide (0 ≤ p.Addr ∧ p.Addr ≤ 65535)) else false) = true => (fun _ : 0 ≤ p.Addr ∧ p.Addr ≤ 65535 => (fun _ : 0 ≤ p.Len ∧ p.Len ≤ 16 => (Imps.refl (eNetPrefix p))) (of_decide_eq_true (andT1 k8))) (of_decide_eq_true (andT2 k8)))) (ai ((fun k9 : (bif (decide (0 ≤ p.Len ∧ p.Len ≤ 16)) then (decide (0 ≤ p.Addr ∧ p.Addr ≤ 65535)) else false) = true => (fun _ : 0 ≤ p.Addr ∧ p.Addr ≤ 65535 => (fun _ : 0 ≤ p.Len ∧ p.Len ≤ 16 => (by have h9 := g130_0 p (by omega) (by omega); omega : ¬ (F130 p) = 0)) (of_decide_eq_true (andT1 k9))) (of_decide_eq_true (andT2 k9)))) ((fun hF : ((bif (bif (decide (0 ≤ p.Len ∧ p.Len ≤ 16)) then (decide (0 ≤ p.Addr ∧ p.Addr ≤ 65535)) else false) then ((p.Addr.tmod (F130 p)) == 0) else false) : Bool) = (F108 p) => ai (congrArg (fun r : Bool => (.bool r : Value)) hF) (trivial)) (rfl))))))))))))) (by kernel_rfl)
def F76 (text : ByteArray) : NetPrefix × Bool :=
  bif (bif (!((F104 text (⟨#[47]⟩ : ByteArray)).2.2)) then true else (!(F108 (⟨(F72 ((F104 text (⟨#[47]⟩ : ByteArray)).1)), (F105 ((F104 text (⟨#[47]⟩ : ByteArray)).2.1))⟩ : NetPrefix)))) then ((⟨0, 0⟩ : NetPrefix), false) else ((⟨(F72 ((F104 text (⟨#[47]⟩ : ByteArray)).1)), (F105 ((F104 text (⟨#[47]⟩ : ByteArray)).2.1))⟩ : NetPrefix), true)
def S76 (text : ByteArray) : Spec := ⟨[.r (.c (.v (.string text)))], .tu [.ag [.v (vI (((F76 text).1).Addr)), .v (vI (((F76 text).1).Len))], .v (.bool ((F76 text).2))], text.size ≤ 1048576⟩
theorem ok76 (text : ByteArray) : (S76 text).ok Tryz.prog 76 false :=
  fnG_ok mixed (fn := Tryz.f76) (ct := .seq (.no) (.seq (.reg [(1, .call 104 (S104 text (⟨#[47]⟩ : ByteArray)) ((ok104 text (⟨#[47]⟩ : ByteArray)).to false) none)]) (.seq (.reg [(1, .call 72 (S72 ((F104 text (⟨#[47]⟩ : ByteArray)).1)) (ok72 ((F104 text (⟨#[47]⟩ : ByteArray)).1)) none), (3, .call 105 (S105 ((F104 text (⟨#[47]⟩ : ByteArray)).2.1)) (ok105 ((F104 text (⟨#[47]⟩ : ByteArray)).2.1)) none)]) (.seq (.seq (.reg [(4, .call 108 (S108 (⟨(F72 ((F104 text (⟨#[47]⟩ : ByteArray)).1)), (F105 ((F104 text (⟨#[47]⟩ : ByteArray)).2.1))⟩ : NetPrefix)) ((ok108 (⟨(F72 ((F104 text (⟨#[47]⟩ : ByteArray)).1)), (F105 ((F104 text (⟨#[47]⟩ : ByteArray)).2.1))⟩ : NetPrefix)).to false) none)]) (.cond (.seq (.no) (.no)) (.no))) (.seq (.no) (.no)))))) Tryz.func76 (fun (hpre0 : text.size ≤ 1048576) => ai (((by omega : text.size ≤ 4294967280))) (ai ((Imp.refl (.v (.string text)))) (ai ((Imp.refl (.v (.string (⟨#[47]⟩ : ByteArray))))) ((fun gv1 : (F104 text (⟨#[47]⟩ : ByteArray)).1.size ≤ (text.size : Int) => (fun gv2 : (F104 text (⟨#[47]⟩ : ByteArray)).2.1.size ≤ (text.size : Int) => ai (((by omega : ((F104 text (⟨#[47]⟩ : ByteArray)).1).size ≤ 1048576))) (ai ((Imp.refl (.v (.string ((F104 text (⟨#[47]⟩ : ByteArray)).1))))) (ai (((by omega : ((F104 text (⟨#[47]⟩ : ByteArray)).2.1).size ≤ 281474976710656))) (ai ((Imp.refl (.v (.string ((F104 text (⟨#[47]⟩ : ByteArray)).2.1))))) (ai ((fun k3 : (!((F104 text (⟨#[47]⟩ : ByteArray)).2.2)) = false => (fun _ : (F104 text (⟨#[47]⟩ : ByteArray)).2.2 = true => trivial) ((notEF k3)))) (ai ((fun k4 : (!((F104 text (⟨#[47]⟩ : ByteArray)).2.2)) = false => (fun _ : (F104 text (⟨#[47]⟩ : ByteArray)).2.2 = true => (Imps.refl (eNetPrefix (⟨(F72 ((F104 text (⟨#[47]⟩ : ByteArray)).1)), (F105 ((F104 text (⟨#[47]⟩ : ByteArray)).2.1))⟩ : NetPrefix)))) ((notEF k4)))) (ai (fun h5 : (bif (!((F104 text (⟨#[47]⟩ : ByteArray)).2.2)) then true else (!(F108 (⟨(F72 ((F104 text (⟨#[47]⟩ : ByteArray)).1)), (F105 ((F104 text (⟨#[47]⟩ : ByteArray)).2.1))⟩ : NetPrefix)))) = true => (fun hF : ((⟨0, 0⟩ : NetPrefix), false) = (F76 text) => ai (congrArg (fun r : NetPrefix × Bool => (.int .i64 r.1.Addr : Value)) hF) (ai (congrArg (fun r : NetPrefix × Bool => (.int .i64 r.1.Len : Value)) hF) (ai (congrArg (fun r : NetPrefix × Bool => (.bool r.2 : Value)) hF) (trivial)))) (condT h5 (rfl))) (fun h5 : (bif (!((F104 text (⟨#[47]⟩ : ByteArray)).2.2)) then true else (!(F108 (⟨(F72 ((F104 text (⟨#[47]⟩ : ByteArray)).1)), (F105 ((F104 text (⟨#[47]⟩ : ByteArray)).2.1))⟩ : NetPrefix)))) = false => (fun _ : (F104 text (⟨#[47]⟩ : ByteArray)).2.2 = true => (fun hF : ((⟨(F72 ((F104 text (⟨#[47]⟩ : ByteArray)).1)), (F105 ((F104 text (⟨#[47]⟩ : ByteArray)).2.1))⟩ : NetPrefix), true) = (F76 text) => ai (congrArg (fun r : NetPrefix × Bool => (.int .i64 r.1.Addr : Value)) hF) (ai (congrArg (fun r : NetPrefix × Bool => (.int .i64 r.1.Len : Value)) hF) (ai (congrArg (fun r : NetPrefix × Bool => (.bool r.2 : Value)) hF) (trivial)))) (condF h5 (rfl))) ((notEF (orF1 h5))))))))))) (g104_1 text (⟨#[47]⟩ : ByteArray))) (g104_0 text (⟨#[47]⟩ : ByteArray)))))) (by kernel_rfl)
def F23 (s : ByteArray) (sep : ByteArray) : List ByteArray :=
  splitS s sep
def S23 (s : ByteArray) (sep : ByteArray) : Spec := ⟨[.r (.c (.v (.string s))), .r (.c (.v (.string sep)))], .ow (.l 1 eStr (F23 s sep)), s.size ≤ 4294967280 ∧ 1 ≤ sep.size⟩
theorem ok23 (s : ByteArray) (sep : ByteArray) : (S23 s sep).ok Tryz.prog 23 :=
  split_ok laySplit (by kernel_rfl) (by decide) s sep
def F81_s0 (s : List ByteArray) (v1 : ByteArray) : Int → Lp Int Int := fun v8 =>
  bif (decide (v8 < (s.length : Int))) then (bif (v1.toList == (s.getD (Int.toNat v8) default).toList) then (.ret v8) else (.next (v8 + 1))) else (.done v8)
def F81 (s : List ByteArray) (v1 : ByteArray) : Int :=
  (runL (F81_s0 s v1) ((Int.toNat ((s.length : Int) - 0)) + 1) 0).fin (fun r => r) (fun v8 => (-1))
def S81 (s : List ByteArray) (v1 : ByteArray) : Spec := ⟨[.r (.c (.l 1 eStr s)), .r (.c (.v (.string v1)))], .v (vI (F81 s v1)), True⟩
theorem ok81 (s : List ByteArray) (v1 : ByteArray) : (S81 s v1).ok Tryz.prog 81 :=
  fnG_ok mixed (fn := Tryz.f81) (ct := .seqk [(0, 0)] (.no) (.seq (.seqk [(0, 0)] (.no) (.blk (.loop (ι := Nat × Int) (fun i => (fun (v8 : Int) => (⟨[(0, some (.h 0 0)), (1, some (.v (.string v1))), (7, some (.v (vI (s.length : Int)))), (8, some (.v (vI v8)))], [(0, some (.shr none (.l 1 eStr s)))], 1⟩ : St)) i.2) (fun i => runL (F81_s0 s v1) i.1 i.2 = (runL (F81_s0 s v1) ((Int.toNat ((s.length : Int) - 0)) + 1) 0) ∧ (fun (v8 : Int) => (Int.toNat ((s.length : Int) - v8) < i.1 ∧ (0 : Int) ≤ v8)) i.2) (fun i => i.1) (((Int.toNat ((s.length : Int) - 0)) + 1), 0) (fun i => (fun (v8 : Int) => (.seq (.no) (.seq (.cond (.no) (.no)) (.seq (.blk (.seq (.no) (.seq (.no) (.cond (.seq (.no) (.no)) (.no))))) (.reg [(0, .bnd)]))))) i.2)))) (.seq (.no) (.no)))) Tryz.func81 (fun (_ : True) => fun (_ : s.length ≤ 9223372036854775807) => fun (_ : s.length ≤ 9223372036854775807) => ai (ai (rfl) (ai (rfl) (ai (rfl) (ai ((Imp.refl _)) ((ai (rfl : runL (F81_s0 s v1) ((Int.toNat ((s.length : Int) - 0)) + 1) 0 = (runL (F81_s0 s v1) ((Int.toNat ((s.length : Int) - 0)) + 1) 0)) (ai ((Nat.lt_succ_self _ : Int.toNat ((s.length : Int) - 0) < ((Int.toNat ((s.length : Int) - 0)) + 1))) ((by omega : (0 : Int) ≤ 0)))))))) : ((.string v1 : Value) = .string v1) ∧ ((.int .i64 (s.length : Int) : Value) = .int .i64 (s.length : Int)) ∧ ((.int .i64 0 : Value) = .int .i64 0) ∧ (Imp (.l 1 eStr s) (.l 1 eStr s)) ∧ (runL (F81_s0 s v1) ((Int.toNat ((s.length : Int) - 0)) + 1) 0 = (runL (F81_s0 s v1) ((Int.toNat ((s.length : Int) - 0)) + 1) 0) ∧ Int.toNat ((s.length : Int) - 0) < ((Int.toNat ((s.length : Int) - 0)) + 1) ∧ (0 : Int) ≤ 0)) (fun (i0 : Nat × Int) (hi0 : runL (F81_s0 s v1) i0.1 i0.2 = (runL (F81_s0 s v1) ((Int.toNat ((s.length : Int) - 0)) + 1) 0) ∧ (fun (v8 : Int) => (Int.toNat ((s.length : Int) - v8) < i0.1 ∧ (0 : Int) ≤ v8)) i0.2) => (fun (m0 : Nat) (v8 : Int) (hI0 : runL (F81_s0 s v1) (m0 + 1) v8 = (runL (F81_s0 s v1) ((Int.toNat ((s.length : Int) - 0)) + 1) 0)) (_ : Int.toNat ((s.length : Int) - v8) < m0 + 1) (hl0 : m0 < i0.1) (_ : (0 : Int) ≤ v8) => ai (fun h2 : (decide (v8 < (s.length : Int))) = true => (fun _ : v8 < (s.length : Int) => ai ((by omega : 0 ≤ v8 ∧ v8 < (s.length : Int))) (ai (fun h3 : (v1.toList == (s.getD (Int.toNat v8) default).toList) = true => (fun hF : (v8 : Int) = (F81 s v1) => ai (congrArg (fun r : Int => (.int .i64 r : Value)) hF) (trivial)) (finR (runL_ret hI0 (condT h2 (condT h3 (rfl)))) rfl)) (fun h3 : (v1.toList == (s.getD (Int.toNat v8) default).toList) = false => ai ((by unfold i64ok; omega : i64ok (v8 + 1))) (Exists.intro (p := fun j : Nat × Int => (fun (v8_ : Int) => (((.string v1 : Value) = .string v1) ∧ ((.int .i64 (s.length : Int) : Value) = .int .i64 (s.length : Int)) ∧ ((.int .i64 (v8 + 1) : Value) = .int .i64 v8_) ∧ (Imp (.l 1 eStr s) (.l 1 eStr s)) ∧ ((runL (F81_s0 s v1) j.1 j.2 = (runL (F81_s0 s v1) ((Int.toNat ((s.length : Int) - 0)) + 1) 0) ∧ Int.toNat ((s.length : Int) - v8_) < j.1 ∧ (0 : Int) ≤ v8_) ∧ j.1 < i0.1))) j.2) (m0, (v8 + 1)) (ai (rfl) (ai (rfl) (ai (rfl) (ai ((Imp.refl _)) (ai (ai (runL_next hI0 (condT h2 (condF h3 (rfl)))) (ai ((by omega : Int.toNat ((s.length : Int) - (v8 + 1)) < m0)) ((by omega : (0 : Int) ≤ (v8 + 1))))) hl0))))))))) (of_decide_eq_true h2)) (fun h2 : (decide (v8 < (s.length : Int))) = false => (fun _ : ¬ v8 < (s.length : Int) => (fun hD0_4 : (runL (F81_s0 s v1) ((Int.toNat ((s.length : Int) - 0)) + 1) 0) = Lp.done v8 => (fun hF : ((-1) : Int) = (F81 s v1) => ai (congrArg (fun r : Int => (.int .i64 r : Value)) hF) (trivial)) (finD hD0_4 (rfl))) (runL_done hI0 (condF h2 (rfl)))) (of_decide_eq_false h2))) (i0.1 - 1) i0.2 (hd1 hi0.1 hi0.2.1) (hd2 hi0.2.1) (hd3 hi0.2.1) hi0.2.2)) (by kernel_rfl)
def F41 (s : List ByteArray) (v1 : ByteArray) : Bool :=
  decide ((F81 s v1) ≥ 0)
def S41 (s : List ByteArray) (v1 : ByteArray) : Spec := ⟨[.r (.c (.l 1 eStr s)), .r (.c (.v (.string v1)))], .v (.bool (F41 s v1)), True⟩
theorem ok41 (s : List ByteArray) (v1 : ByteArray) : (S41 s v1).ok Tryz.prog 41 :=
  fnG_ok mixed (fn := Tryz.f41) (ct := .seqk [(0, 0)] (.no) (.seq (.reg [(2, .call 81 (S81 s v1) (ok81 s v1) none)]) (.no))) Tryz.func41 (fun (_ : True) => fun (_ : s.length ≤ 9223372036854775807) => ai (trivial) (ai ((Imp.refl (.l 1 eStr s))) (ai ((Imp.refl (.v (.string v1)))) ((fun hF : (decide ((F81 s v1) ≥ 0) : Bool) = (F41 s v1) => ai (congrArg (fun r : Bool => (.bool r : Value)) hF) (trivial)) (rfl))))) (by kernel_rfl)
def F122_s0 (word : ByteArray) : Int → Lp Int (List ByteArray × Bool) := fun v19 =>
  bif (decide (v19 < ((F23 word (⟨#[44]⟩ : ByteArray)).length : Int))) then (bif (bif (!(F41 ([(⟨#[100, 111, 111, 114]⟩ : ByteArray), (⟨#[104, 111, 115, 116]⟩ : ByteArray), (⟨#[110, 97, 116]⟩ : ByteArray), (⟨#[112, 101, 101, 114]⟩ : ByteArray), (⟨#[112, 111, 114, 116]⟩ : ByteArray), (⟨#[114, 111, 117, 116, 101]⟩ : ByteArray), (⟨#[114, 117, 108, 101]⟩ : ByteArray), (⟨#[117, 115, 101, 114]⟩ : ByteArray)] : List ByteArray) ((F23 word (⟨#[44]⟩ : ByteArray)).getD (Int.toNat v19) default))) then true else (bif decide (v19 > 0) then (!(Op.bytesLess ((F23 word (⟨#[44]⟩ : ByteArray)).getD (Int.toNat (v19 - 1)) default).toList ((F23 word (⟨#[44]⟩ : ByteArray)).getD (Int.toNat v19) default).toList)) else false)) then (.ret (([] : List ByteArray), false)) else (.next (v19 + 1))) else (.done v19)
def F122 (word : ByteArray) : List ByteArray × Bool :=
  bif (bif (word.toList == (⟨#[97, 108, 108]⟩ : ByteArray).toList) then true else (word.toList == (⟨#[110, 111, 110, 101]⟩ : ByteArray).toList)) then (([word] : List ByteArray), true) else ((runL (F122_s0 word) ((Int.toNat (((F23 word (⟨#[44]⟩ : ByteArray)).length : Int) - 0)) + 1) 0).fin (fun r => r) (fun v19 => ((F23 word (⟨#[44]⟩ : ByteArray)), true)))
def S122 (word : ByteArray) : Spec := ⟨[.r (.c (.v (.string word)))], .tu [.ow (.l 1 eStr ((F122 word).1)), .v (.bool ((F122 word).2))], word.size ≤ 1048576⟩
theorem ok122 (word : ByteArray) : (S122 word).ok Tryz.prog 122 :=
  fnG_ok mixed (fn := Tryz.f122) (ct := .seq (.no) (.seq (.seq (.no) (.cond (.seq (.reg [(1, .dat (.l 1 eStr ([word] : List ByteArray)))]) (.no)) (.no))) (.seq (.reg [(1, .call 23 (S23 word (⟨#[44]⟩ : ByteArray)) (ok23 word (⟨#[44]⟩ : ByteArray)) none)]) (.seq (.seqk [(4, 0), (17, 0)] (.no) (.blk (.loop (ι := Nat × Int) (fun i => (fun (v19 : Int) => (⟨[(4, some (.h 0 0)), (17, some (.h 0 0)), (18, some (.v (vI ((F23 word (⟨#[44]⟩ : ByteArray)).length : Int)))), (19, some (.v (vI v19)))], [(0, some (.own 0 (.l 1 eStr (F23 word (⟨#[44]⟩ : ByteArray)))))], 1⟩ : St)) i.2) (fun i => runL (F122_s0 word) i.1 i.2 = (runL (F122_s0 word) ((Int.toNat (((F23 word (⟨#[44]⟩ : ByteArray)).length : Int) - 0)) + 1) 0) ∧ (fun (v19 : Int) => (Int.toNat (((F23 word (⟨#[44]⟩ : ByteArray)).length : Int) - v19) < i.1 ∧ (0 : Int) ≤ v19)) i.2) (fun i => i.1) (((Int.toNat (((F23 word (⟨#[44]⟩ : ByteArray)).length : Int) - 0)) + 1), 0) (fun i => (fun (v19 : Int) => (.seq (.no) (.seq (.cond (.no) (.no)) (.seq (.blk (.seq (.no) (.seq (.reg [(0, .dat (.l 1 eStr ([(⟨#[100, 111, 111, 114]⟩ : ByteArray), (⟨#[104, 111, 115, 116]⟩ : ByteArray), (⟨#[110, 97, 116]⟩ : ByteArray), (⟨#[112, 101, 101, 114]⟩ : ByteArray), (⟨#[112, 111, 114, 116]⟩ : ByteArray), (⟨#[114, 111, 117, 116, 101]⟩ : ByteArray), (⟨#[114, 117, 108, 101]⟩ : ByteArray), (⟨#[117, 115, 101, 114]⟩ : ByteArray)] : List ByteArray))), (2, .call 41 (S41 ([(⟨#[100, 111, 111, 114]⟩ : ByteArray), (⟨#[104, 111, 115, 116]⟩ : ByteArray), (⟨#[110, 97, 116]⟩ : ByteArray), (⟨#[112, 101, 101, 114]⟩ : ByteArray), (⟨#[112, 111, 114, 116]⟩ : ByteArray), (⟨#[114, 111, 117, 116, 101]⟩ : ByteArray), (⟨#[114, 117, 108, 101]⟩ : ByteArray), (⟨#[117, 115, 101, 114]⟩ : ByteArray)] : List ByteArray) ((F23 word (⟨#[44]⟩ : ByteArray)).getD (Int.toNat v19) default)) (ok41 ([(⟨#[100, 111, 111, 114]⟩ : ByteArray), (⟨#[104, 111, 115, 116]⟩ : ByteArray), (⟨#[110, 97, 116]⟩ : ByteArray), (⟨#[112, 101, 101, 114]⟩ : ByteArray), (⟨#[112, 111, 114, 116]⟩ : ByteArray), (⟨#[114, 111, 117, 116, 101]⟩ : ByteArray), (⟨#[114, 117, 108, 101]⟩ : ByteArray), (⟨#[117, 115, 101, 114]⟩ : ByteArray)] : List ByteArray) ((F23 word (⟨#[44]⟩ : ByteArray)).getD (Int.toNat v19) default)) none), (10, .bnd)]) (.cond (.seq (.no) (.no)) (.no))))) (.reg [(0, .bnd)]))))) i.2)))) (.seq (.no) (.no)))))) Tryz.func122 (fun (hpre0 : word.size ≤ 1048576) => ai (fun h1 : (bif (word.toList == (⟨#[97, 108, 108]⟩ : ByteArray).toList) then true else (word.toList == (⟨#[110, 111, 110, 101]⟩ : ByteArray).toList)) = true => ai ((BuildOK.mk eStr ([word] : List ByteArray) rfl (by exact ai (Imp.refl _) (trivial)) (fun _ => rfl) : BuildOK 1 1 [.v (.string word)] (.l 1 eStr ([word] : List ByteArray)))) ((fun hF : (([word] : List ByteArray), true) = (F122 word) => ai (Imp.of_eq (congrArg (fun r : List ByteArray × Bool => Dat.l 1 eStr r.1) hF)) (ai (congrArg (fun r : List ByteArray × Bool => (.bool r.2 : Value)) hF) (trivial))) (condT h1 (rfl)))) (fun h1 : (bif (word.toList == (⟨#[97, 108, 108]⟩ : ByteArray).toList) then true else (word.toList == (⟨#[110, 111, 110, 101]⟩ : ByteArray).toList)) = false => (fun _ : (word.toList == (⟨#[110, 111, 110, 101]⟩ : ByteArray).toList) = false => (fun _ : (word.toList == (⟨#[97, 108, 108]⟩ : ByteArray).toList) = false => ai ((ai ((by omega : word.size ≤ 4294967280)) ((by decide : 1 ≤ (⟨#[44]⟩ : ByteArray).size)))) (ai ((Imp.refl (.v (.string word)))) (ai ((Imp.refl (.v (.string (⟨#[44]⟩ : ByteArray))))) ((fun gv2 : (F23 word (⟨#[44]⟩ : ByteArray)).length ≤ word.size + 1 => (fun gv3 : 1 ≤ (F23 word (⟨#[44]⟩ : ByteArray)).length => fun (_ : (F23 word (⟨#[44]⟩ : ByteArray)).length ≤ 9223372036854775807) => fun (_ : (F23 word (⟨#[44]⟩ : ByteArray)).length ≤ 9223372036854775807) => ai (ai (rfl) (ai (rfl) (ai ((Imp.refl _)) ((ai (rfl : runL (F122_s0 word) ((Int.toNat (((F23 word (⟨#[44]⟩ : ByteArray)).length : Int) - 0)) + 1) 0 = (runL (F122_s0 word) ((Int.toNat (((F23 word (⟨#[44]⟩ : ByteArray)).length : Int) - 0)) + 1) 0)) (ai ((Nat.lt_succ_self _ : Int.toNat (((F23 word (⟨#[44]⟩ : ByteArray)).length : Int) - 0) < ((Int.toNat (((F23 word (⟨#[44]⟩ : ByteArray)).length : Int) - 0)) + 1))) ((by omega : (0 : Int) ≤ 0))))))) : ((.int .i64 ((F23 word (⟨#[44]⟩ : ByteArray)).length : Int) : Value) = .int .i64 ((F23 word (⟨#[44]⟩ : ByteArray)).length : Int)) ∧ ((.int .i64 0 : Value) = .int .i64 0) ∧ (Imp (.l 1 eStr (F23 word (⟨#[44]⟩ : ByteArray))) (.l 1 eStr (F23 word (⟨#[44]⟩ : ByteArray)))) ∧ (runL (F122_s0 word) ((Int.toNat (((F23 word (⟨#[44]⟩ : ByteArray)).length : Int) - 0)) + 1) 0 = (runL (F122_s0 word) ((Int.toNat (((F23 word (⟨#[44]⟩ : ByteArray)).length : Int) - 0)) + 1) 0) ∧ Int.toNat (((F23 word (⟨#[44]⟩ : ByteArray)).length : Int) - 0) < ((Int.toNat (((F23 word (⟨#[44]⟩ : ByteArray)).length : Int) - 0)) + 1) ∧ (0 : Int) ≤ 0)) (fun (i0 : Nat × Int) (hi0 : runL (F122_s0 word) i0.1 i0.2 = (runL (F122_s0 word) ((Int.toNat (((F23 word (⟨#[44]⟩ : ByteArray)).length : Int) - 0)) + 1) 0) ∧ (fun (v19 : Int) => (Int.toNat (((F23 word (⟨#[44]⟩ : ByteArray)).length : Int) - v19) < i0.1 ∧ (0 : Int) ≤ v19)) i0.2) => (fun (m0 : Nat) (v19 : Int) (hI0 : runL (F122_s0 word) (m0 + 1) v19 = (runL (F122_s0 word) ((Int.toNat (((F23 word (⟨#[44]⟩ : ByteArray)).length : Int) - 0)) + 1) 0)) (_ : Int.toNat (((F23 word (⟨#[44]⟩ : ByteArray)).length : Int) - v19) < m0 + 1) (hl0 : m0 < i0.1) (_ : (0 : Int) ≤ v19) => ai (fun h5 : (decide (v19 < ((F23 word (⟨#[44]⟩ : ByteArray)).length : Int))) = true => (fun _ : v19 < ((F23 word (⟨#[44]⟩ : ByteArray)).length : Int) => ai ((by omega : 0 ≤ v19 ∧ v19 < ((F23 word (⟨#[44]⟩ : ByteArray)).length : Int))) (ai ((BuildOK.mk eStr ([(⟨#[100, 111, 111, 114]⟩ : ByteArray), (⟨#[104, 111, 115, 116]⟩ : ByteArray), (⟨#[110, 97, 116]⟩ : ByteArray), (⟨#[112, 101, 101, 114]⟩ : ByteArray), (⟨#[112, 111, 114, 116]⟩ : ByteArray), (⟨#[114, 111, 117, 116, 101]⟩ : ByteArray), (⟨#[114, 117, 108, 101]⟩ : ByteArray), (⟨#[117, 115, 101, 114]⟩ : ByteArray)] : List ByteArray) rfl (by exact ai (Imp.refl _) (ai (Imp.refl _) (ai (Imp.refl _) (ai (Imp.refl _) (ai (Imp.refl _) (ai (Imp.refl _) (ai (Imp.refl _) (ai (Imp.refl _) (trivial))))))))) (fun _ => rfl) : BuildOK 8 1 [.v (.string (⟨#[100, 111, 111, 114]⟩ : ByteArray)), .v (.string (⟨#[104, 111, 115, 116]⟩ : ByteArray)), .v (.string (⟨#[110, 97, 116]⟩ : ByteArray)), .v (.string (⟨#[112, 101, 101, 114]⟩ : ByteArray)), .v (.string (⟨#[112, 111, 114, 116]⟩ : ByteArray)), .v (.string (⟨#[114, 111, 117, 116, 101]⟩ : ByteArray)), .v (.string (⟨#[114, 117, 108, 101]⟩ : ByteArray)), .v (.string (⟨#[117, 115, 101, 114]⟩ : ByteArray))] (.l 1 eStr ([(⟨#[100, 111, 111, 114]⟩ : ByteArray), (⟨#[104, 111, 115, 116]⟩ : ByteArray), (⟨#[110, 97, 116]⟩ : ByteArray), (⟨#[112, 101, 101, 114]⟩ : ByteArray), (⟨#[112, 111, 114, 116]⟩ : ByteArray), (⟨#[114, 111, 117, 116, 101]⟩ : ByteArray), (⟨#[114, 117, 108, 101]⟩ : ByteArray), (⟨#[117, 115, 101, 114]⟩ : ByteArray)] : List ByteArray)))) (ai (trivial) (ai ((Imp.refl (.l 1 eStr ([(⟨#[100, 111, 111, 114]⟩ : ByteArray), (⟨#[104, 111, 115, 116]⟩ : ByteArray), (⟨#[110, 97, 116]⟩ : ByteArray), (⟨#[112, 101, 101, 114]⟩ : ByteArray), (⟨#[112, 111, 114, 116]⟩ : ByteArray), (⟨#[114, 111, 117, 116, 101]⟩ : ByteArray), (⟨#[114, 117, 108, 101]⟩ : ByteArray), (⟨#[117, 115, 101, 114]⟩ : ByteArray)] : List ByteArray)))) (ai ((Imp.refl (.v (.string ((F23 word (⟨#[44]⟩ : ByteArray)).getD (Int.toNat v19) default))))) (ai ((fun k7 : (decide (v19 > 0)) = true => (fun _ : v19 > 0 => (fun k6 : (!(F41 ([(⟨#[100, 111, 111, 114]⟩ : ByteArray), (⟨#[104, 111, 115, 116]⟩ : ByteArray), (⟨#[110, 97, 116]⟩ : ByteArray), (⟨#[112, 101, 101, 114]⟩ : ByteArray), (⟨#[112, 111, 114, 116]⟩ : ByteArray), (⟨#[114, 111, 117, 116, 101]⟩ : ByteArray), (⟨#[114, 117, 108, 101]⟩ : ByteArray), (⟨#[117, 115, 101, 114]⟩ : ByteArray)] : List ByteArray) ((F23 word (⟨#[44]⟩ : ByteArray)).getD (Int.toNat v19) default))) = false => (by unfold i64ok; omega : i64ok (v19 - 1)))) (of_decide_eq_true k7))) (ai ((fun k9 : (decide (v19 > 0)) = true => (fun _ : v19 > 0 => (fun k8 : (!(F41 ([(⟨#[100, 111, 111, 114]⟩ : ByteArray), (⟨#[104, 111, 115, 116]⟩ : ByteArray), (⟨#[110, 97, 116]⟩ : ByteArray), (⟨#[112, 101, 101, 114]⟩ : ByteArray), (⟨#[112, 111, 114, 116]⟩ : ByteArray), (⟨#[114, 111, 117, 116, 101]⟩ : ByteArray), (⟨#[114, 117, 108, 101]⟩ : ByteArray), (⟨#[117, 115, 101, 114]⟩ : ByteArray)] : List ByteArray) ((F23 word (⟨#[44]⟩ : ByteArray)).getD (Int.toNat v19) default))) = false => (by omega : 0 ≤ (v19 - 1) ∧ (v19 - 1) < ((F23 word (⟨#[44]⟩ : ByteArray)).length : Int)))) (of_decide_eq_true k9))) (ai (fun h10 : (bif (!(F41 ([(⟨#[100, 111, 111, 114]⟩ : ByteArray), (⟨#[104, 111, 115, 116]⟩ : ByteArray), (⟨#[110, 97, 116]⟩ : ByteArray), (⟨#[112, 101, 101, 114]⟩ : ByteArray), (⟨#[112, 111, 114, 116]⟩ : ByteArray), (⟨#[114, 111, 117, 116, 101]⟩ : ByteArray), (⟨#[114, 117, 108, 101]⟩ : ByteArray), (⟨#[117, 115, 101, 114]⟩ : ByteArray)] : List ByteArray) ((F23 word (⟨#[44]⟩ : ByteArray)).getD (Int.toNat v19) default))) then true else (bif decide (v19 > 0) then (!(Op.bytesLess ((F23 word (⟨#[44]⟩ : ByteArray)).getD (Int.toNat (v19 - 1)) default).toList ((F23 word (⟨#[44]⟩ : ByteArray)).getD (Int.toNat v19) default).toList)) else false)) = true => (fun hF : (([] : List ByteArray), false) = (F122 word) => ai ((Imp.nil 1 eStr).trans (Imp.of_eq (congrArg (fun r : List ByteArray × Bool => Dat.l 1 eStr r.1) hF))) (ai (congrArg (fun r : List ByteArray × Bool => (.bool r.2 : Value)) hF) (trivial))) (condF h1 (finR (runL_ret hI0 (condT h5 (condT h10 (rfl)))) rfl))) (fun h10 : (bif (!(F41 ([(⟨#[100, 111, 111, 114]⟩ : ByteArray), (⟨#[104, 111, 115, 116]⟩ : ByteArray), (⟨#[110, 97, 116]⟩ : ByteArray), (⟨#[112, 101, 101, 114]⟩ : ByteArray), (⟨#[112, 111, 114, 116]⟩ : ByteArray), (⟨#[114, 111, 117, 116, 101]⟩ : ByteArray), (⟨#[114, 117, 108, 101]⟩ : ByteArray), (⟨#[117, 115, 101, 114]⟩ : ByteArray)] : List ByteArray) ((F23 word (⟨#[44]⟩ : ByteArray)).getD (Int.toNat v19) default))) then true else (bif decide (v19 > 0) then (!(Op.bytesLess ((F23 word (⟨#[44]⟩ : ByteArray)).getD (Int.toNat (v19 - 1)) default).toList ((F23 word (⟨#[44]⟩ : ByteArray)).getD (Int.toNat v19) default).toList)) else false)) = false => ai ((by unfold i64ok; omega : i64ok (v19 + 1))) (Exists.intro (p := fun j : Nat × Int => (fun (v19_ : Int) => (((.int .i64 ((F23 word (⟨#[44]⟩ : ByteArray)).length : Int) : Value) = .int .i64 ((F23 word (⟨#[44]⟩ : ByteArray)).length : Int)) ∧ ((.int .i64 (v19 + 1) : Value) = .int .i64 v19_) ∧ (Imp (.l 1 eStr (F23 word (⟨#[44]⟩ : ByteArray))) (.l 1 eStr (F23 word (⟨#[44]⟩ : ByteArray)))) ∧ ((runL (F122_s0 word) j.1 j.2 = (runL (F122_s0 word) ((Int.toNat (((F23 word (⟨#[44]⟩ : ByteArray)).length : Int) - 0)) + 1) 0) ∧ Int.toNat (((F23 word (⟨#[44]⟩ : ByteArray)).length : Int) - v19_) < j.1 ∧ (0 : Int) ≤ v19_) ∧ j.1 < i0.1))) j.2) (m0, (v19 + 1)) (ai (rfl) (ai (rfl) (ai ((Imp.refl _)) (ai (ai (runL_next hI0 (condT h5 (condF h10 (rfl)))) (ai ((by omega : Int.toNat (((F23 word (⟨#[44]⟩ : ByteArray)).length : Int) - (v19 + 1)) < m0)) ((by omega : (0 : Int) ≤ (v19 + 1))))) hl0)))))))))))))) (of_decide_eq_true h5)) (fun h5 : (decide (v19 < ((F23 word (⟨#[44]⟩ : ByteArray)).length : Int))) = false => (fun _ : ¬ v19 < ((F23 word (⟨#[44]⟩ : ByteArray)).length : Int) => (fun hD0_11 : (runL (F122_s0 word) ((Int.toNat (((F23 word (⟨#[44]⟩ : ByteArray)).length : Int) - 0)) + 1) 0) = Lp.done v19 => (fun hF : ((F23 word (⟨#[44]⟩ : ByteArray)), true) = (F122 word) => ai (Imp.of_eq (congrArg (fun r : List ByteArray × Bool => Dat.l 1 eStr r.1) hF)) (ai (congrArg (fun r : List ByteArray × Bool => (.bool r.2 : Value)) hF) (trivial))) (condF h1 (finD hD0_11 (rfl)))) (runL_done hI0 (condF h5 (rfl)))) (of_decide_eq_false h5))) (i0.1 - 1) i0.2 (hd1 hi0.1 hi0.2.1) (hd2 hi0.2.1) (hd3 hi0.2.1) hi0.2.2)) (splitS_pos word (⟨#[44]⟩ : ByteArray) (by decide : 1 ≤ (⟨#[44]⟩ : ByteArray).size))) (splitS_le word (⟨#[44]⟩ : ByteArray) (by decide : 1 ≤ (⟨#[44]⟩ : ByteArray).size)))))) ((orF1 h1))) ((orF2 h1)))) (by kernel_rfl)
def F115 (w1 : ByteArray) : Bool :=
  (w1.toList == (⟨#[]⟩ : ByteArray).toList)
def S115 (w1 : ByteArray) : Spec := ⟨[.r (.c (.v (.string w1)))], .v (.bool (F115 w1)), True⟩
theorem ok115 (w1 : ByteArray) : (S115 w1).ok Tryz.prog 115 :=
  fnG_ok mixed (fn := Tryz.f115) (ct := .seq (.no) (.seq (.no) (.no))) Tryz.func115 (fun (_ : True) => (fun hF : ((w1.toList == (⟨#[]⟩ : ByteArray).toList) : Bool) = (F115 w1) => ai (congrArg (fun r : Bool => (.bool r : Value)) hF) (trivial)) (rfl)) (by kernel_rfl)
def fsQ23 (Q : ByteArray → Prop) (p : ByteArray → Bool) : FnSpec := ⟨ByteArray, fun i => [.c (.x (PX (.v (.string i)) (Q i)))], fun i => .bool (p i)⟩
def F102_s0 (s : List ByteArray) (f : ByteArray → Bool) : Int → Lp Int Int := fun v8 =>
  bif (decide (v8 < (s.length : Int))) then (bif (f (s.getD (Int.toNat v8) default)) then (.ret v8) else (.next (v8 + 1))) else (.done v8)
def F102 (s : List ByteArray) (f : ByteArray → Bool) : Int :=
  (runL (F102_s0 s f) ((Int.toNat ((s.length : Int) - 0)) + 1) 0).fin (fun r => r) (fun v8 => (-1))
def S102 (R : Int) (s : List ByteArray) (f : ByteArray → Bool) (Qf : ByteArray → Prop) : Spec := ⟨[.r (.c (.l 1 eStr s)), .fn (fsQ23 Qf f)], .v (vI R), (∀ k : Nat, k < s.length → Qf (s.getD k default))⟩
theorem ok102 (s : List ByteArray) (f : ByteArray → Bool) (Qf : ByteArray → Prop) : (S102 (F102 s f) s f Qf).ok Tryz.prog 102 false :=
  fnG_ok mixed (fn := Tryz.f102) (ct := .seqk [(0, 0)] (.no) (.seq (.seqk [(0, 0)] (.no) (.blk (.loop (ι := Nat × Int) (fun i => (fun (v8 : Int) => (⟨[(0, some (.h 0 0)), (1, some (.h 1 0)), (7, some (.v (vI (s.length : Int)))), (8, some (.v (vI v8)))], [(0, some (.shr none (.l 1 eStr s))), (1, some (.fn (fsQ23 Qf f)))], 2⟩ : St)) i.2) (fun i => runL (F102_s0 s f) i.1 i.2 = (runL (F102_s0 s f) ((Int.toNat ((s.length : Int) - 0)) + 1) 0) ∧ (fun (v8 : Int) => (Int.toNat ((s.length : Int) - v8) < i.1 ∧ (0 : Int) ≤ v8)) i.2) (fun i => i.1) (((Int.toNat ((s.length : Int) - 0)) + 1), 0) (fun i => (fun (v8 : Int) => (.seq (.no) (.seq (.cond (.no) (.no)) (.seq (.blk (.seq (.no) (.seq (.reg [(5, .fnv (fsQ23 Qf f) (s.getD (Int.toNat v8) default))]) (.cond (.seq (.no) (.no)) (.no))))) (.reg [(0, .bnd)]))))) i.2)))) (.seq (.no) (.no)))) Tryz.func102 (fun (hpre0 : ∀ k : Nat, k < s.length → Qf (s.getD k default)) => fun (_ : s.length ≤ 9223372036854775807) => fun (_ : s.length ≤ 9223372036854775807) => ai (ai (rfl) (ai (rfl) (ai ((Imp.refl _)) (ai (rfl) ((ai (rfl : runL (F102_s0 s f) ((Int.toNat ((s.length : Int) - 0)) + 1) 0 = (runL (F102_s0 s f) ((Int.toNat ((s.length : Int) - 0)) + 1) 0)) (ai ((Nat.lt_succ_self _ : Int.toNat ((s.length : Int) - 0) < ((Int.toNat ((s.length : Int) - 0)) + 1))) ((by omega : (0 : Int) ≤ 0)))))))) : ((.int .i64 (s.length : Int) : Value) = .int .i64 (s.length : Int)) ∧ ((.int .i64 0 : Value) = .int .i64 0) ∧ (Imp (.l 1 eStr s) (.l 1 eStr s)) ∧ (fsQ23 Qf f = fsQ23 Qf f) ∧ (runL (F102_s0 s f) ((Int.toNat ((s.length : Int) - 0)) + 1) 0 = (runL (F102_s0 s f) ((Int.toNat ((s.length : Int) - 0)) + 1) 0) ∧ Int.toNat ((s.length : Int) - 0) < ((Int.toNat ((s.length : Int) - 0)) + 1) ∧ (0 : Int) ≤ 0)) (fun (i0 : Nat × Int) (hi0 : runL (F102_s0 s f) i0.1 i0.2 = (runL (F102_s0 s f) ((Int.toNat ((s.length : Int) - 0)) + 1) 0) ∧ (fun (v8 : Int) => (Int.toNat ((s.length : Int) - v8) < i0.1 ∧ (0 : Int) ≤ v8)) i0.2) => (fun (m0 : Nat) (v8 : Int) (hI0 : runL (F102_s0 s f) (m0 + 1) v8 = (runL (F102_s0 s f) ((Int.toNat ((s.length : Int) - 0)) + 1) 0)) (_ : Int.toNat ((s.length : Int) - v8) < m0 + 1) (hl0 : m0 < i0.1) (_ : (0 : Int) ≤ v8) => ai (fun h2 : (decide (v8 < (s.length : Int))) = true => (fun _ : v8 < (s.length : Int) => ai ((by omega : 0 ≤ v8 ∧ v8 < (s.length : Int))) (ai ((Eq.refl (fsQ23 Qf f))) (ai ((Imp.px (d := .v (.string (s.getD (Int.toNat v8) default))) (hpre0 (Int.toNat v8) (by omega)))) (ai (fun h3 : (f (s.getD (Int.toNat v8) default)) = true => (fun hF : (v8 : Int) = (F102 s f) => ai (congrArg (fun r : Int => (.int .i64 r : Value)) hF) (trivial)) (finR (runL_ret hI0 (condT h2 (condT h3 (rfl)))) rfl)) (fun h3 : (f (s.getD (Int.toNat v8) default)) = false => ai ((by unfold i64ok; omega : i64ok (v8 + 1))) (Exists.intro (p := fun j : Nat × Int => (fun (v8_ : Int) => (((.int .i64 (s.length : Int) : Value) = .int .i64 (s.length : Int)) ∧ ((.int .i64 (v8 + 1) : Value) = .int .i64 v8_) ∧ (Imp (.l 1 eStr s) (.l 1 eStr s)) ∧ (fsQ23 Qf f = fsQ23 Qf f) ∧ ((runL (F102_s0 s f) j.1 j.2 = (runL (F102_s0 s f) ((Int.toNat ((s.length : Int) - 0)) + 1) 0) ∧ Int.toNat ((s.length : Int) - v8_) < j.1 ∧ (0 : Int) ≤ v8_) ∧ j.1 < i0.1))) j.2) (m0, (v8 + 1)) (ai (rfl) (ai (rfl) (ai ((Imp.refl _)) (ai (rfl) (ai (ai (runL_next hI0 (condT h2 (condF h3 (rfl)))) (ai ((by omega : Int.toNat ((s.length : Int) - (v8 + 1)) < m0)) ((by omega : (0 : Int) ≤ (v8 + 1))))) hl0))))))))))) (of_decide_eq_true h2)) (fun h2 : (decide (v8 < (s.length : Int))) = false => (fun _ : ¬ v8 < (s.length : Int) => (fun hD0_4 : (runL (F102_s0 s f) ((Int.toNat ((s.length : Int) - 0)) + 1) 0) = Lp.done v8 => (fun hF : ((-1) : Int) = (F102 s f) => ai (congrArg (fun r : Int => (.int .i64 r : Value)) hF) (trivial)) (finD hD0_4 (rfl))) (runL_done hI0 (condF h2 (rfl)))) (of_decide_eq_false h2))) (i0.1 - 1) i0.2 (hd1 hi0.1 hi0.2.1) (hd2 hi0.2.1) (hd3 hi0.2.1) hi0.2.2)) (by kernel_rfl)
theorem as102 (s : List ByteArray) (f : ByteArray → Bool) : F102 s f = (idxI f s) := by
  exact idx_loop f s (F102_s0 s f) (fun i => rfl)
theorem oa102 (s : List ByteArray) (f : ByteArray → Bool) (Qf : ByteArray → Prop) : (S102 (idxI f s) s f Qf).ok Tryz.prog 102 false := by
  intro hp; have h := ok102 s f Qf hp; rw [as102 s f] at h; exact h
theorem g102_0 (s : List ByteArray) (f : ByteArray → Bool) : (idxI f s) < (s.length : Int) := by
  exact idxI_lt f s
theorem g102_1 (s : List ByteArray) (f : ByteArray → Bool) : -1 ≤ (idxI f s) := by
  (show -1 ≤ idxI f s; unfold idxI; cases first (fun k => f (s.getD k default)) s.length <;> simp only [oix] <;> omega)
def F114_s0 (s : List ByteArray) (del : ByteArray → Bool) : (Int × Int × List ByteArray) → Lp (Int × Int × List ByteArray) (List ByteArray) := fun (i41, j1, xs) =>
  bif (decide (j1 < (xs.length : Int))) then (bif (!(del (xs.getD (Int.toNat j1) default))) then (.next ((i41 + 1), (j1 + 1), (xs.set (i41).toNat (xs.getD (Int.toNat j1) default)))) else (.next (i41, (j1 + 1), xs))) else (.done (i41, j1, xs))
def F114_j0 (s : List ByteArray) (del : ByteArray → Bool) : Lp (List ByteArray × Int) (List ByteArray) :=
  (runL (F114_s0 s del) ((Int.toNat ((s.length : Int) - ((idxI del s) + 1))) + 1) ((idxI del s), ((idxI del s) + 1), s)).fin Lp.ret (fun (i41, j1, xs) => .done (xs, i41))
def F114 (s : List ByteArray) (del : ByteArray → Bool) : List ByteArray :=
  bif ((idxI del s) == (-1)) then s else ((F114_j0 s del).fin (fun r => r) (fun (s1, i40) => ((s1.take (Int.toNat i40) ++ List.replicate (s1.drop (Int.toNat i40)).length ((⟨#[]⟩ : ByteArray) : ByteArray) ++ s1.drop ((Int.toNat i40) + (s1.drop (Int.toNat i40)).length)).take (Int.toNat i40))))
def S114 (R : List ByteArray) (s : List ByteArray) (del : ByteArray → Bool) (Qdel : ByteArray → Prop) : Spec := ⟨[.ow (.l 1 eStr s) none, .fn (fsQ23 Qdel del)], .ow (.l 1 eStr R), s.length ≤ 1000000000 ∧ (∀ k : Nat, k < s.length → Qdel (s.getD k default))⟩
theorem ok114 (s : List ByteArray) (del : ByteArray → Bool) (Qdel : ByteArray → Prop) : (S114 (F114 s del) s del Qdel).ok Tryz.prog 114 false :=
  fnG_ok mixed (fn := Tryz.f114) (ct := .seqk [(0, 0)] (.no) (.seq (.reg [(2, .call 102 (S102 (idxI del s) s del Qdel) (oa102 s del Qdel) none)]) (.seq (.seq (.no) (.cond (.seq (.no) (.no)) (.no))) (.cut (ι := List ByteArray × Int) (fun j => (fun (s1 : List ByteArray) (i40 : Int) => (⟨[(0, some (.h 0 0)), (5, some (.v (vI i40)))], [(0, some (.own 0 (.l 1 eStr s1)))], 1⟩ : St)) j.1 j.2) (fun j => (fun (s1 : List ByteArray) (i40 : Int) => ((F114_j0 s del) = Lp.done j ∧ (0 ≤ i40 ∧ i40 ≤ (s1.length : Int)))) j.1 j.2) (.seqk [(0, 0)] (.reg [(1, .bnd)]) (.blk (.loop (ι := Nat × (Int × Int × List ByteArray)) (fun i => (fun (i41 : Int) (j1 : Int) (xs : List ByteArray) => (⟨[(0, some (.h 0 0)), (1, some (.h 1 0)), (5, some (.v (vI i41))), (6, some (.v (vI j1)))], [(0, some (.own 0 (.l 1 eStr xs))), (1, some (.fn (fsQ23 Qdel del)))], 2⟩ : St)) i.2.1 i.2.2.1 i.2.2.2) (fun i => runL (F114_s0 s del) i.1 i.2 = (runL (F114_s0 s del) ((Int.toNat ((s.length : Int) - ((idxI del s) + 1))) + 1) ((idxI del s), ((idxI del s) + 1), s)) ∧ (fun (i41 : Int) (j1 : Int) (xs : List ByteArray) => (Int.toNat ((xs.length : Int) - j1) < i.1 ∧ (0 ≤ i41 ∧ i41 < j1) ∧ j1 ≤ (xs.length : Int) ∧ xs.length ≤ 1000000000 ∧ (∀ k : Nat, j1 ≤ (k : Int) → k < xs.length → Qdel (xs.getD k default)) ∧ xs.length = s.length)) i.2.1 i.2.2.1 i.2.2.2) (fun i => i.1) (((Int.toNat ((s.length : Int) - ((idxI del s) + 1))) + 1), ((idxI del s), ((idxI del s) + 1), s)) (fun i => (fun (i41 : Int) (j1 : Int) (xs : List ByteArray) => (.seq (.seq (.no) (.cond (.no) (.no))) (.seq (.blk (.seq (.no) (.seq (.reg [(2, .fnv (fsQ23 Qdel del) (xs.getD (Int.toNat j1) default))]) (.cond (.seq (.reg [(4, .dat (.l 1 eStr (xs.set (i41).toNat (xs.getD (Int.toNat j1) default))))]) (.reg [(1, .bnd)])) (.no))))) (.reg [(1, .bnd)])))) i.2.1 i.2.2.1 i.2.2.2)))) (fun j => (fun (s1 : List ByteArray) (i40 : Int) => (.seq (.reg [(2, .part), (3, .dat (.l 1 eStr (s1.take (Int.toNat i40) ++ List.replicate (s1.drop (Int.toNat i40)).length ((⟨#[]⟩ : ByteArray) : ByteArray) ++ s1.drop ((Int.toNat i40) + (s1.drop (Int.toNat i40)).length))))]) (.seq (.reg [(2, .own)]) (.no)))) j.1 j.2))))) Tryz.func114 (fun (hp : s.length ≤ 1000000000 ∧ (∀ k : Nat, k < s.length → Qdel (s.getD k default))) => (fun (hpre0 : s.length ≤ 1000000000) (hpre1 : ∀ k : Nat, k < s.length → Qdel (s.getD k default)) => fun (_ : s.length ≤ 9223372036854775807) => ai (((by first | assumption | exact hpre1 _ | exact fun k _ => hpre1 k | (intros; exact trivial) | (intros; exact Nat.zero_le _) : ∀ k : Nat, k < s.length → Qdel (s.getD k default)))) (ai ((Imp.refl (.l 1 eStr s))) (ai ((Eq.refl (fsQ23 Qdel del))) ((fun gv1 : (idxI del s) < (s.length : Int) => (fun gv2 : -1 ≤ (idxI del s) => ai (fun h3 : ((idxI del s) == (-1)) = true => (fun _ : (idxI del s) = (-1) => (fun hF : (s : List ByteArray) = (F114 s del) => ai (Imp.of_eq (congrArg (fun r : List ByteArray => Dat.l 1 eStr r) hF)) (trivial)) (condT h3 (rfl))) (eq_of_beq h3)) (fun h3 : ((idxI del s) == (-1)) = false => (fun _ : ¬ (idxI del s) = (-1) => ai (ai ((by unfold i64ok; first | omega | (simp only [lens] at * <;> omega) : i64ok ((idxI del s) + 1))) (fun (_ : s.length ≤ 9223372036854775807) => ai (ai (rfl) (ai (rfl) (ai ((Imp.refl _)) (ai (rfl) ((ai (rfl : runL (F114_s0 s del) ((Int.toNat ((s.length : Int) - ((idxI del s) + 1))) + 1) ((idxI del s), ((idxI del s) + 1), s) = (runL (F114_s0 s del) ((Int.toNat ((s.length : Int) - ((idxI del s) + 1))) + 1) ((idxI del s), ((idxI del s) + 1), s))) (ai ((Nat.lt_succ_self _ : Int.toNat ((s.length : Int) - ((idxI del s) + 1)) < ((Int.toNat ((s.length : Int) - ((idxI del s) + 1))) + 1))) (ai ((by first | omega | (simp only [lens] at * <;> omega) | (intro k hk hk2; first | exact (by assumption : ∀ k : Nat, k < s.length → Qdel (s.getD k default)) k hk2 | exact (by assumption : ∀ k : Nat, j1 ≤ (k : Int) → k < xs.length → Qdel (xs.getD k default)) k (by omega) hk2 | (rw [getD_set_ne _ _ _ _ (by omega)]; exact (by assumption : ∀ k : Nat, j1 ≤ (k : Int) → k < xs.length → Qdel (xs.getD k default)) k (by omega) (by simpa using hk2))) : 0 ≤ (idxI del s) ∧ (idxI del s) < ((idxI del s) + 1))) (ai ((by first | omega | (simp only [lens] at * <;> omega) | (intro k hk hk2; first | exact (by assumption : ∀ k : Nat, k < s.length → Qdel (s.getD k default)) k hk2 | exact (by assumption : ∀ k : Nat, j1 ≤ (k : Int) → k < xs.length → Qdel (xs.getD k default)) k (by omega) hk2 | (rw [getD_set_ne _ _ _ _ (by omega)]; exact (by assumption : ∀ k : Nat, j1 ≤ (k : Int) → k < xs.length → Qdel (xs.getD k default)) k (by omega) (by simpa using hk2))) : ((idxI del s) + 1) ≤ (s.length : Int))) (ai ((by first | omega | (simp only [lens] at * <;> omega) | (intro k hk hk2; first | exact (by assumption : ∀ k : Nat, k < s.length → Qdel (s.getD k default)) k hk2 | exact (by assumption : ∀ k : Nat, j1 ≤ (k : Int) → k < xs.length → Qdel (xs.getD k default)) k (by omega) hk2 | (rw [getD_set_ne _ _ _ _ (by omega)]; exact (by assumption : ∀ k : Nat, j1 ≤ (k : Int) → k < xs.length → Qdel (xs.getD k default)) k (by omega) (by simpa using hk2))) : s.length ≤ 1000000000)) (ai ((by first | omega | (simp only [lens] at * <;> omega) | (intro k hk hk2; first | exact (by assumption : ∀ k : Nat, k < s.length → Qdel (s.getD k default)) k hk2 | exact (by assumption : ∀ k : Nat, j1 ≤ (k : Int) → k < xs.length → Qdel (xs.getD k default)) k (by omega) hk2 | (rw [getD_set_ne _ _ _ _ (by omega)]; exact (by assumption : ∀ k : Nat, j1 ≤ (k : Int) → k < xs.length → Qdel (xs.getD k default)) k (by omega) (by simpa using hk2))) : ∀ k : Nat, ((idxI del s) + 1) ≤ (k : Int) → k < s.length → Qdel (s.getD k default))) ((by first | omega | (simp only [lens] at * <;> omega) | (intro k hk hk2; first | exact (by assumption : ∀ k : Nat, k < s.length → Qdel (s.getD k default)) k hk2 | exact (by assumption : ∀ k : Nat, j1 ≤ (k : Int) → k < xs.length → Qdel (xs.getD k default)) k (by omega) hk2 | (rw [getD_set_ne _ _ _ _ (by omega)]; exact (by assumption : ∀ k : Nat, j1 ≤ (k : Int) → k < xs.length → Qdel (xs.getD k default)) k (by omega) (by simpa using hk2))) : s.length = s.length)))))))))))) : ((.int .i64 (idxI del s) : Value) = .int .i64 (idxI del s)) ∧ ((.int .i64 ((idxI del s) + 1) : Value) = .int .i64 ((idxI del s) + 1)) ∧ (Imp (.l 1 eStr s) (.l 1 eStr s)) ∧ (fsQ23 Qdel del = fsQ23 Qdel del) ∧ (runL (F114_s0 s del) ((Int.toNat ((s.length : Int) - ((idxI del s) + 1))) + 1) ((idxI del s), ((idxI del s) + 1), s) = (runL (F114_s0 s del) ((Int.toNat ((s.length : Int) - ((idxI del s) + 1))) + 1) ((idxI del s), ((idxI del s) + 1), s)) ∧ Int.toNat ((s.length : Int) - ((idxI del s) + 1)) < ((Int.toNat ((s.length : Int) - ((idxI del s) + 1))) + 1) ∧ (0 ≤ (idxI del s) ∧ (idxI del s) < ((idxI del s) + 1)) ∧ ((idxI del s) + 1) ≤ (s.length : Int) ∧ s.length ≤ 1000000000 ∧ (∀ k : Nat, ((idxI del s) + 1) ≤ (k : Int) → k < s.length → Qdel (s.getD k default)) ∧ s.length = s.length)) (fun (i0 : Nat × (Int × Int × List ByteArray)) (hi0 : runL (F114_s0 s del) i0.1 i0.2 = (runL (F114_s0 s del) ((Int.toNat ((s.length : Int) - ((idxI del s) + 1))) + 1) ((idxI del s), ((idxI del s) + 1), s)) ∧ (fun (i41 : Int) (j1 : Int) (xs : List ByteArray) => (Int.toNat ((xs.length : Int) - j1) < i0.1 ∧ (0 ≤ i41 ∧ i41 < j1) ∧ j1 ≤ (xs.length : Int) ∧ xs.length ≤ 1000000000 ∧ (∀ k : Nat, j1 ≤ (k : Int) → k < xs.length → Qdel (xs.getD k default)) ∧ xs.length = s.length)) i0.2.1 i0.2.2.1 i0.2.2.2) => (fun (m0 : Nat) (i41 : Int) (j1 : Int) (xs : List ByteArray) (hI0 : runL (F114_s0 s del) (m0 + 1) (i41, j1, xs) = (runL (F114_s0 s del) ((Int.toNat ((s.length : Int) - ((idxI del s) + 1))) + 1) ((idxI del s), ((idxI del s) + 1), s))) (_ : Int.toNat ((xs.length : Int) - j1) < m0 + 1) (hl0 : m0 < i0.1) (_ : 0 ≤ i41 ∧ i41 < j1) (_ : j1 ≤ (xs.length : Int)) (_ : xs.length ≤ 1000000000) (_ : ∀ k : Nat, j1 ≤ (k : Int) → k < xs.length → Qdel (xs.getD k default)) (_ : xs.length = s.length) => ai (fun h5 : (decide (j1 < (xs.length : Int))) = true => (fun _ : j1 < (xs.length : Int) => ai ((by first | omega | (simp only [lens] at * <;> omega) : 0 ≤ j1 ∧ j1 < (xs.length : Int))) (ai ((Eq.refl (fsQ23 Qdel del))) (ai ((Imp.px (d := .v (.string (xs.getD (Int.toNat j1) default))) ((by assumption : ∀ k : Nat, j1 ≤ (k : Int) → k < xs.length → Qdel (xs.getD k default)) (Int.toNat j1) (by omega) (by omega)))) (ai (fun h6 : (!(del (xs.getD (Int.toNat j1) default))) = true => (fun _ : (del (xs.getD (Int.toNat j1) default)) = false => ai ((by first | omega | (simp only [lens] at * <;> omega) : 0 ≤ i41 ∧ i41 < (xs.length : Int))) (ai ((SetOK.mk eStr xs (xs.getD (Int.toNat j1) default) rfl (by exact ai (Imp.refl _) (trivial)) : SetOK (.l 1 eStr xs) (i41).toNat (eStr (xs.getD (Int.toNat i41) default)) [.v (.string (xs.getD (Int.toNat j1) default))] (.l 1 eStr (xs.set (i41).toNat (xs.getD (Int.toNat j1) default))))) (ai ((by unfold i64ok; first | omega | (simp only [lens] at * <;> omega) : i64ok (i41 + 1))) (ai ((by unfold i64ok; first | omega | (simp only [lens] at * <;> omega) : i64ok (j1 + 1))) (Exists.intro (p := fun j : Nat × (Int × Int × List ByteArray) => (fun (i41_ : Int) (j1_ : Int) (xs_ : List ByteArray) => (((.int .i64 (i41 + 1) : Value) = .int .i64 i41_) ∧ ((.int .i64 (j1 + 1) : Value) = .int .i64 j1_) ∧ (Imp (.l 1 eStr (xs.set (i41).toNat (xs.getD (Int.toNat j1) default))) (.l 1 eStr xs_)) ∧ (fsQ23 Qdel del = fsQ23 Qdel del) ∧ ((runL (F114_s0 s del) j.1 j.2 = (runL (F114_s0 s del) ((Int.toNat ((s.length : Int) - ((idxI del s) + 1))) + 1) ((idxI del s), ((idxI del s) + 1), s)) ∧ Int.toNat ((xs_.length : Int) - j1_) < j.1 ∧ (0 ≤ i41_ ∧ i41_ < j1_) ∧ j1_ ≤ (xs_.length : Int) ∧ xs_.length ≤ 1000000000 ∧ (∀ k : Nat, j1_ ≤ (k : Int) → k < xs_.length → Qdel (xs_.getD k default)) ∧ xs_.length = s.length) ∧ j.1 < i0.1))) j.2.1 j.2.2.1 j.2.2.2) (m0, ((i41 + 1), (j1 + 1), (xs.set (i41).toNat (xs.getD (Int.toNat j1) default)))) (ai (rfl) (ai (rfl) (ai ((Imp.refl _)) (ai (rfl) (ai (ai (runL_next hI0 (condT h5 (condT h6 (rfl)))) (ai ((by first | omega | (simp only [lens] at * <;> omega) | (intro k hk hk2; first | exact (by assumption : ∀ k : Nat, k < s.length → Qdel (s.getD k default)) k hk2 | exact (by assumption : ∀ k : Nat, j1 ≤ (k : Int) → k < xs.length → Qdel (xs.getD k default)) k (by omega) hk2 | (rw [getD_set_ne _ _ _ _ (by omega)]; exact (by assumption : ∀ k : Nat, j1 ≤ (k : Int) → k < xs.length → Qdel (xs.getD k default)) k (by omega) (by simpa using hk2))) : Int.toNat (((xs.set (i41).toNat (xs.getD (Int.toNat j1) default)).length : Int) - (j1 + 1)) < m0)) (ai ((by first | omega | (simp only [lens] at * <;> omega) | (intro k hk hk2; first | exact (by assumption : ∀ k : Nat, k < s.length → Qdel (s.getD k default)) k hk2 | exact (by assumption : ∀ k : Nat, j1 ≤ (k : Int) → k < xs.length → Qdel (xs.getD k default)) k (by omega) hk2 | (rw [getD_set_ne _ _ _ _ (by omega)]; exact (by assumption : ∀ k : Nat, j1 ≤ (k : Int) → k < xs.length → Qdel (xs.getD k default)) k (by omega) (by simpa using hk2))) : 0 ≤ (i41 + 1) ∧ (i41 + 1) < (j1 + 1))) (ai ((by first | omega | (simp only [lens] at * <;> omega) | (intro k hk hk2; first | exact (by assumption : ∀ k : Nat, k < s.length → Qdel (s.getD k default)) k hk2 | exact (by assumption : ∀ k : Nat, j1 ≤ (k : Int) → k < xs.length → Qdel (xs.getD k default)) k (by omega) hk2 | (rw [getD_set_ne _ _ _ _ (by omega)]; exact (by assumption : ∀ k : Nat, j1 ≤ (k : Int) → k < xs.length → Qdel (xs.getD k default)) k (by omega) (by simpa using hk2))) : (j1 + 1) ≤ ((xs.set (i41).toNat (xs.getD (Int.toNat j1) default)).length : Int))) (ai ((by first | omega | (simp only [lens] at * <;> omega) | (intro k hk hk2; first | exact (by assumption : ∀ k : Nat, k < s.length → Qdel (s.getD k default)) k hk2 | exact (by assumption : ∀ k : Nat, j1 ≤ (k : Int) → k < xs.length → Qdel (xs.getD k default)) k (by omega) hk2 | (rw [getD_set_ne _ _ _ _ (by omega)]; exact (by assumption : ∀ k : Nat, j1 ≤ (k : Int) → k < xs.length → Qdel (xs.getD k default)) k (by omega) (by simpa using hk2))) : (xs.set (i41).toNat (xs.getD (Int.toNat j1) default)).length ≤ 1000000000)) (ai ((by first | omega | (simp only [lens] at * <;> omega) | (intro k hk hk2; first | exact (by assumption : ∀ k : Nat, k < s.length → Qdel (s.getD k default)) k hk2 | exact (by assumption : ∀ k : Nat, j1 ≤ (k : Int) → k < xs.length → Qdel (xs.getD k default)) k (by omega) hk2 | (rw [getD_set_ne _ _ _ _ (by omega)]; exact (by assumption : ∀ k : Nat, j1 ≤ (k : Int) → k < xs.length → Qdel (xs.getD k default)) k (by omega) (by simpa using hk2))) : ∀ k : Nat, (j1 + 1) ≤ (k : Int) → k < (xs.set (i41).toNat (xs.getD (Int.toNat j1) default)).length → Qdel ((xs.set (i41).toNat (xs.getD (Int.toNat j1) default)).getD k default))) ((by first | omega | (simp only [lens] at * <;> omega) | (intro k hk hk2; first | exact (by assumption : ∀ k : Nat, k < s.length → Qdel (s.getD k default)) k hk2 | exact (by assumption : ∀ k : Nat, j1 ≤ (k : Int) → k < xs.length → Qdel (xs.getD k default)) k (by omega) hk2 | (rw [getD_set_ne _ _ _ _ (by omega)]; exact (by assumption : ∀ k : Nat, j1 ≤ (k : Int) → k < xs.length → Qdel (xs.getD k default)) k (by omega) (by simpa using hk2))) : (xs.set (i41).toNat (xs.getD (Int.toNat j1) default)).length = s.length)))))))) hl0)))))))))) ((notET h6))) (fun h6 : (!(del (xs.getD (Int.toNat j1) default))) = false => (fun _ : (del (xs.getD (Int.toNat j1) default)) = true => ai ((by unfold i64ok; first | omega | (simp only [lens] at * <;> omega) : i64ok (j1 + 1))) (Exists.intro (p := fun j : Nat × (Int × Int × List ByteArray) => (fun (i41_ : Int) (j1_ : Int) (xs_ : List ByteArray) => (((.int .i64 i41 : Value) = .int .i64 i41_) ∧ ((.int .i64 (j1 + 1) : Value) = .int .i64 j1_) ∧ (Imp (.l 1 eStr xs) (.l 1 eStr xs_)) ∧ (fsQ23 Qdel del = fsQ23 Qdel del) ∧ ((runL (F114_s0 s del) j.1 j.2 = (runL (F114_s0 s del) ((Int.toNat ((s.length : Int) - ((idxI del s) + 1))) + 1) ((idxI del s), ((idxI del s) + 1), s)) ∧ Int.toNat ((xs_.length : Int) - j1_) < j.1 ∧ (0 ≤ i41_ ∧ i41_ < j1_) ∧ j1_ ≤ (xs_.length : Int) ∧ xs_.length ≤ 1000000000 ∧ (∀ k : Nat, j1_ ≤ (k : Int) → k < xs_.length → Qdel (xs_.getD k default)) ∧ xs_.length = s.length) ∧ j.1 < i0.1))) j.2.1 j.2.2.1 j.2.2.2) (m0, (i41, (j1 + 1), xs)) (ai (rfl) (ai (rfl) (ai ((Imp.refl _)) (ai (rfl) (ai (ai (runL_next hI0 (condT h5 (condF h6 (rfl)))) (ai ((by first | omega | (simp only [lens] at * <;> omega) | (intro k hk hk2; first | exact (by assumption : ∀ k : Nat, k < s.length → Qdel (s.getD k default)) k hk2 | exact (by assumption : ∀ k : Nat, j1 ≤ (k : Int) → k < xs.length → Qdel (xs.getD k default)) k (by omega) hk2 | (rw [getD_set_ne _ _ _ _ (by omega)]; exact (by assumption : ∀ k : Nat, j1 ≤ (k : Int) → k < xs.length → Qdel (xs.getD k default)) k (by omega) (by simpa using hk2))) : Int.toNat ((xs.length : Int) - (j1 + 1)) < m0)) (ai ((by first | omega | (simp only [lens] at * <;> omega) | (intro k hk hk2; first | exact (by assumption : ∀ k : Nat, k < s.length → Qdel (s.getD k default)) k hk2 | exact (by assumption : ∀ k : Nat, j1 ≤ (k : Int) → k < xs.length → Qdel (xs.getD k default)) k (by omega) hk2 | (rw [getD_set_ne _ _ _ _ (by omega)]; exact (by assumption : ∀ k : Nat, j1 ≤ (k : Int) → k < xs.length → Qdel (xs.getD k default)) k (by omega) (by simpa using hk2))) : 0 ≤ i41 ∧ i41 < (j1 + 1))) (ai ((by first | omega | (simp only [lens] at * <;> omega) | (intro k hk hk2; first | exact (by assumption : ∀ k : Nat, k < s.length → Qdel (s.getD k default)) k hk2 | exact (by assumption : ∀ k : Nat, j1 ≤ (k : Int) → k < xs.length → Qdel (xs.getD k default)) k (by omega) hk2 | (rw [getD_set_ne _ _ _ _ (by omega)]; exact (by assumption : ∀ k : Nat, j1 ≤ (k : Int) → k < xs.length → Qdel (xs.getD k default)) k (by omega) (by simpa using hk2))) : (j1 + 1) ≤ (xs.length : Int))) (ai ((by first | omega | (simp only [lens] at * <;> omega) | (intro k hk hk2; first | exact (by assumption : ∀ k : Nat, k < s.length → Qdel (s.getD k default)) k hk2 | exact (by assumption : ∀ k : Nat, j1 ≤ (k : Int) → k < xs.length → Qdel (xs.getD k default)) k (by omega) hk2 | (rw [getD_set_ne _ _ _ _ (by omega)]; exact (by assumption : ∀ k : Nat, j1 ≤ (k : Int) → k < xs.length → Qdel (xs.getD k default)) k (by omega) (by simpa using hk2))) : xs.length ≤ 1000000000)) (ai ((by first | omega | (simp only [lens] at * <;> omega) | (intro k hk hk2; first | exact (by assumption : ∀ k : Nat, k < s.length → Qdel (s.getD k default)) k hk2 | exact (by assumption : ∀ k : Nat, j1 ≤ (k : Int) → k < xs.length → Qdel (xs.getD k default)) k (by omega) hk2 | (rw [getD_set_ne _ _ _ _ (by omega)]; exact (by assumption : ∀ k : Nat, j1 ≤ (k : Int) → k < xs.length → Qdel (xs.getD k default)) k (by omega) (by simpa using hk2))) : ∀ k : Nat, (j1 + 1) ≤ (k : Int) → k < xs.length → Qdel (xs.getD k default))) ((by first | omega | (simp only [lens] at * <;> omega) | (intro k hk hk2; first | exact (by assumption : ∀ k : Nat, k < s.length → Qdel (s.getD k default)) k hk2 | exact (by assumption : ∀ k : Nat, j1 ≤ (k : Int) → k < xs.length → Qdel (xs.getD k default)) k (by omega) hk2 | (rw [getD_set_ne _ _ _ _ (by omega)]; exact (by assumption : ∀ k : Nat, j1 ≤ (k : Int) → k < xs.length → Qdel (xs.getD k default)) k (by omega) (by simpa using hk2))) : xs.length = s.length)))))))) hl0))))))) ((notEF h6))))))) (of_decide_eq_true h5)) (fun h5 : (decide (j1 < (xs.length : Int))) = false => (fun _ : ¬ j1 < (xs.length : Int) => (fun hD0_7 : (runL (F114_s0 s del) ((Int.toNat ((s.length : Int) - ((idxI del s) + 1))) + 1) ((idxI del s), ((idxI del s) + 1), s)) = Lp.done (i41, j1, xs) => Exists.intro (p := fun j : List ByteArray × Int => (fun (s1_ : List ByteArray) (i40_ : Int) => (((.int .i64 i41 : Value) = .int .i64 i40_) ∧ (Imp (.l 1 eStr xs) (.l 1 eStr s1_)) ∧ (F114_j0 s del) = Lp.done j ∧ (0 ≤ i40_ ∧ i40_ ≤ (s1_.length : Int)))) j.1 j.2) ((xs, i41)) (ai (rfl) (ai ((Imp.refl _)) (ai (Eq.symm (finD hD0_7 (rfl))) ((by first | omega | (simp only [lens] at * <;> omega) : 0 ≤ i41 ∧ i41 ≤ (xs.length : Int))))))) (runL_done hI0 (condF h5 (rfl)))) (of_decide_eq_false h5))) (i0.1 - 1) i0.2.1 i0.2.2.1 i0.2.2.2 (hd1 hi0.1 hi0.2.1) (hd2 hi0.2.1) (hd3 hi0.2.1) hi0.2.2.1 hi0.2.2.2.1 hi0.2.2.2.2.1 hi0.2.2.2.2.2.1 hi0.2.2.2.2.2.2))) (fun (j : List ByteArray × Int) (hj : (fun (s1 : List ByteArray) (i40 : Int) => ((F114_j0 s del) = Lp.done j ∧ (0 ≤ i40 ∧ i40 ≤ (s1.length : Int)))) j.1 j.2) => (fun (s1 : List ByteArray) (i40 : Int) (hJ0_8 : (F114_j0 s del) = Lp.done (s1, i40)) (_ : 0 ≤ i40 ∧ i40 ≤ (s1.length : Int)) => ai ((by first | omega | (simp only [lens] at * <;> omega) : 0 ≤ i40 ∧ i40 ≤ (s1.length : Int) ∧ (s1.length : Int) ≤ (s1.length : Int))) (ai ((ClearOK.mk eStr s1 ((⟨#[]⟩ : ByteArray) : ByteArray) rfl (fun y e he => by simp only [eStr, List.mem_cons, List.not_mem_nil, or_false] at he; rcases he with rfl <;> exact ⟨_, rfl⟩) : ClearOK (.l 1 eStr s1) (Int.toNat i40) (s1.drop (Int.toNat i40)).length 1 [.string (⟨#[]⟩ : ByteArray)] (.l 1 eStr (s1.take (Int.toNat i40) ++ List.replicate (s1.drop (Int.toNat i40)).length ((⟨#[]⟩ : ByteArray) : ByteArray) ++ s1.drop ((Int.toNat i40) + (s1.drop (Int.toNat i40)).length))))) (ai ((by first | omega | (simp only [lens] at * <;> omega) : 0 ≤ (0 : Int) ∧ (0 : Int) ≤ i40 ∧ i40 ≤ ((s1.take (Int.toNat i40) ++ List.replicate (s1.drop (Int.toNat i40)).length ((⟨#[]⟩ : ByteArray) : ByteArray) ++ s1.drop ((Int.toNat i40) + (s1.drop (Int.toNat i40)).length)).length : Int))) ((fun hF : (((s1.take (Int.toNat i40) ++ List.replicate (s1.drop (Int.toNat i40)).length ((⟨#[]⟩ : ByteArray) : ByteArray) ++ s1.drop ((Int.toNat i40) + (s1.drop (Int.toNat i40)).length)).take (Int.toNat i40)) : List ByteArray) = (F114 s del) => ai (Imp.of_eq (congrArg (fun r : List ByteArray => Dat.l 1 eStr r) hF)) (trivial)) (condF h3 (finD hJ0_8 (rfl))))))) j.1 j.2 hj.1 hj.2)) (beqF h3))) (g102_1 s del)) (g102_0 s del))))) hp.1 hp.2) (by kernel_rfl)
theorem as114 (s : List ByteArray) (del : ByteArray → Bool) : F114 s del = (s.filter (fun x => !(del x))) := by
  exact del_loop del s _ (F114_s0 s del) (fun i j xs => rfl)
theorem oa114 (s : List ByteArray) (del : ByteArray → Bool) (Qdel : ByteArray → Prop) : (S114 (s.filter (fun x => !(del x))) s del Qdel).ok Tryz.prog 114 false := by
  intro hp; have h := ok114 s del Qdel hp; rw [as114 s del] at h; exact h
def F116 (w1 : ByteArray) : Bool :=
  decide ((w1.size : Int) > 24)
def S116 (w1 : ByteArray) : Spec := ⟨[.r (.c (.v (.string w1)))], .v (.bool (F116 w1)), True⟩
theorem ok116 (w1 : ByteArray) : (S116 w1).ok Tryz.prog 116 :=
  fnG_ok mixed (fn := Tryz.f116) (ct := .seq (.no) (.seq (.no) (.no))) Tryz.func116 (fun (_ : True) => (fun hF : (decide ((w1.size : Int) > 24) : Bool) = (F116 w1) => ai (congrArg (fun r : Bool => (.bool r : Value)) hF) (trivial)) (rfl)) (by kernel_rfl)
def F62 (s : List ByteArray) (f : ByteArray → Bool) : Bool :=
  decide ((idxI f s) ≥ 0)
def S62 (R : Bool) (s : List ByteArray) (f : ByteArray → Bool) (Qf : ByteArray → Prop) : Spec := ⟨[.r (.c (.l 1 eStr s)), .fn (fsQ23 Qf f)], .v (.bool R), (∀ k : Nat, k < s.length → Qf (s.getD k default))⟩
theorem ok62 (s : List ByteArray) (f : ByteArray → Bool) (Qf : ByteArray → Prop) : (S62 (F62 s f) s f Qf).ok Tryz.prog 62 false :=
  fnG_ok mixed (fn := Tryz.f62) (ct := .seqk [(0, 0)] (.no) (.seq (.reg [(2, .call 102 (S102 (idxI f s) s f Qf) (oa102 s f Qf) none)]) (.no))) Tryz.func62 (fun (hpre0 : ∀ k : Nat, k < s.length → Qf (s.getD k default)) => fun (_ : s.length ≤ 9223372036854775807) => ai (((by first | assumption | exact hpre0 _ | exact fun k _ => hpre0 k | (intros; exact trivial) | (intros; exact Nat.zero_le _) : ∀ k : Nat, k < s.length → Qf (s.getD k default)))) (ai ((Imp.refl (.l 1 eStr s))) (ai ((Eq.refl (fsQ23 Qf f))) ((fun gv1 : (idxI f s) < (s.length : Int) => (fun gv2 : -1 ≤ (idxI f s) => (fun hF : (decide ((idxI f s) ≥ 0) : Bool) = (F62 s f) => ai (congrArg (fun r : Bool => (.bool r : Value)) hF) (trivial)) (rfl)) (g102_1 s f)) (g102_0 s f))))) (by kernel_rfl)
theorem as62 (s : List ByteArray) (f : ByteArray → Bool) : F62 s f = (s.any f) := by
  exact any_idx f s
theorem oa62 (s : List ByteArray) (f : ByteArray → Bool) (Qf : ByteArray → Prop) : (S62 (s.any f) s f Qf).ok Tryz.prog 62 false := by
  intro hp; have h := ok62 s f Qf hp; rw [as62 s f] at h; exact h
def F84_s0 (line : ByteArray) : Int → Lp Int (List ByteArray × Bool) := fun i40 =>
  bif (decide (i40 < (((F104 line (⟨#[35]⟩ : ByteArray)).1).size : Int))) then (bif (!(decide (32 ≤ (IntKind.i64.wrap ((((F104 line (⟨#[35]⟩ : ByteArray)).1).data.getD (Int.toNat i40) 0).toNat : Int)) ∧ (IntKind.i64.wrap ((((F104 line (⟨#[35]⟩ : ByteArray)).1).data.getD (Int.toNat i40) 0).toNat : Int)) ≤ 126))) then (.ret (([] : List ByteArray), false)) else (.next (i40 + 1))) else (.done i40)
def F84 (line : ByteArray) : List ByteArray × Bool :=
  (runL (F84_s0 line) ((Int.toNat ((((F104 line (⟨#[35]⟩ : ByteArray)).1).size : Int) - 0)) + 1) 0).fin (fun r => r) (fun i40 => bif (bif decide ((((F23 ((F104 line (⟨#[35]⟩ : ByteArray)).1) (⟨#[32]⟩ : ByteArray)).filter (fun x => !((fun (x0 : ByteArray) => F115 x0) x))).length : Int) > 8) then true else (((F23 ((F104 line (⟨#[35]⟩ : ByteArray)).1) (⟨#[32]⟩ : ByteArray)).filter (fun x => !((fun (x0 : ByteArray) => F115 x0) x))).any (fun (x0 : ByteArray) => F116 x0))) then (([] : List ByteArray), false) else (((F23 ((F104 line (⟨#[35]⟩ : ByteArray)).1) (⟨#[32]⟩ : ByteArray)).filter (fun x => !((fun (x0 : ByteArray) => F115 x0) x))), true))
def S84 (line : ByteArray) : Spec := ⟨[.r (.c (.v (.string line)))], .tu [.ow (.l 1 eStr ((F84 line).1)), .v (.bool ((F84 line).2))], line.size ≤ 1048576⟩
theorem ok84 (line : ByteArray) : (S84 line).ok Tryz.prog 84 false :=
  fnG_ok mixed (fn := Tryz.f84) (ct := .seq (.no) (.seq (.reg [(1, .call 104 (S104 line (⟨#[35]⟩ : ByteArray)) ((ok104 line (⟨#[35]⟩ : ByteArray)).to false) none)]) (.seq (.seq (.no) (.blk (.loop (ι := Nat × Int) (fun i => (fun (i40 : Int) => (⟨[(0, some (.v (.string ((F104 line (⟨#[35]⟩ : ByteArray)).1)))), (4, some (.v (vI i40)))], [], 0⟩ : St)) i.2) (fun i => runL (F84_s0 line) i.1 i.2 = (runL (F84_s0 line) ((Int.toNat ((((F104 line (⟨#[35]⟩ : ByteArray)).1).size : Int) - 0)) + 1) 0) ∧ (fun (i40 : Int) => (Int.toNat ((((F104 line (⟨#[35]⟩ : ByteArray)).1).size : Int) - i40) < i.1 ∧ (0 : Int) ≤ i40)) i.2) (fun i => i.1) (((Int.toNat ((((F104 line (⟨#[35]⟩ : ByteArray)).1).size : Int) - 0)) + 1), 0) (fun i => (fun (i40 : Int) => (.seq (.seq (.no) (.cond (.no) (.no))) (.seq (.blk (.seq (.reg [(4, .call 78 (S78 (decide (32 ≤ (IntKind.i64.wrap ((((F104 line (⟨#[35]⟩ : ByteArray)).1).data.getD (Int.toNat i40) 0).toNat : Int)) ∧ (IntKind.i64.wrap ((((F104 line (⟨#[35]⟩ : ByteArray)).1).data.getD (Int.toNat i40) 0).toNat : Int)) ≤ 126)) (IntKind.i64.wrap ((((F104 line (⟨#[35]⟩ : ByteArray)).1).data.getD (Int.toNat i40) 0).toNat : Int)) 32 126) ((oa78 (IntKind.i64.wrap ((((F104 line (⟨#[35]⟩ : ByteArray)).1).data.getD (Int.toNat i40) 0).toNat : Int)) 32 126).to false) none)]) (.cond (.seq (.no) (.no)) (.no)))) (.reg [(1, .bnd)])))) i.2)))) (.seq (.reg [(1, .call 23 (S23 ((F104 line (⟨#[35]⟩ : ByteArray)).1) (⟨#[32]⟩ : ByteArray)) ((ok23 ((F104 line (⟨#[35]⟩ : ByteArray)).1) (⟨#[32]⟩ : ByteArray)).to false) none), (2, .call 114 (S114 ((F23 ((F104 line (⟨#[35]⟩ : ByteArray)).1) (⟨#[32]⟩ : ByteArray)).filter (fun x => !((fun (x0 : ByteArray) => F115 x0) x))) (F23 ((F104 line (⟨#[35]⟩ : ByteArray)).1) (⟨#[32]⟩ : ByteArray)) (fun (x0 : ByteArray) => F115 x0) (fun (x0 : ByteArray) => True)) (oa114 (F23 ((F104 line (⟨#[35]⟩ : ByteArray)).1) (⟨#[32]⟩ : ByteArray)) (fun (x0 : ByteArray) => F115 x0) (fun (x0 : ByteArray) => True)) (some ⟨true, 115, fsQ23 (fun (x0 : ByteArray) => True) (fun (x0 : ByteArray) => F115 x0), [], rfl, True, fun i => ok_px (ok115 i)⟩))]) (.seq (.seq (.reg [(5, .call 62 (S62 (((F23 ((F104 line (⟨#[35]⟩ : ByteArray)).1) (⟨#[32]⟩ : ByteArray)).filter (fun x => !((fun (x0 : ByteArray) => F115 x0) x))).any (fun (x0 : ByteArray) => F116 x0)) ((F23 ((F104 line (⟨#[35]⟩ : ByteArray)).1) (⟨#[32]⟩ : ByteArray)).filter (fun x => !((fun (x0 : ByteArray) => F115 x0) x))) (fun (x0 : ByteArray) => F116 x0) (fun (x0 : ByteArray) => True)) (oa62 ((F23 ((F104 line (⟨#[35]⟩ : ByteArray)).1) (⟨#[32]⟩ : ByteArray)).filter (fun x => !((fun (x0 : ByteArray) => F115 x0) x))) (fun (x0 : ByteArray) => F116 x0) (fun (x0 : ByteArray) => True)) (some ⟨true, 116, fsQ23 (fun (x0 : ByteArray) => True) (fun (x0 : ByteArray) => F116 x0), [], rfl, True, fun i => ok_px (ok116 i)⟩))]) (.cond (.seq (.no) (.no)) (.no))) (.seq (.no) (.no))))))) Tryz.func84 (fun (hpre0 : line.size ≤ 1048576) => ai (((by omega : line.size ≤ 4294967280))) (ai ((Imp.refl (.v (.string line)))) (ai ((Imp.refl (.v (.string (⟨#[35]⟩ : ByteArray))))) ((fun gv1 : (F104 line (⟨#[35]⟩ : ByteArray)).1.size ≤ (line.size : Int) => (fun gv2 : (F104 line (⟨#[35]⟩ : ByteArray)).2.1.size ≤ (line.size : Int) => ai (ai (rfl) (ai (rfl) ((ai (rfl : runL (F84_s0 line) ((Int.toNat ((((F104 line (⟨#[35]⟩ : ByteArray)).1).size : Int) - 0)) + 1) 0 = (runL (F84_s0 line) ((Int.toNat ((((F104 line (⟨#[35]⟩ : ByteArray)).1).size : Int) - 0)) + 1) 0)) (ai ((Nat.lt_succ_self _ : Int.toNat ((((F104 line (⟨#[35]⟩ : ByteArray)).1).size : Int) - 0) < ((Int.toNat ((((F104 line (⟨#[35]⟩ : ByteArray)).1).size : Int) - 0)) + 1))) ((by omega : (0 : Int) ≤ 0)))))) : ((.string ((F104 line (⟨#[35]⟩ : ByteArray)).1) : Value) = .string ((F104 line (⟨#[35]⟩ : ByteArray)).1)) ∧ ((.int .i64 0 : Value) = .int .i64 0) ∧ (runL (F84_s0 line) ((Int.toNat ((((F104 line (⟨#[35]⟩ : ByteArray)).1).size : Int) - 0)) + 1) 0 = (runL (F84_s0 line) ((Int.toNat ((((F104 line (⟨#[35]⟩ : ByteArray)).1).size : Int) - 0)) + 1) 0) ∧ Int.toNat ((((F104 line (⟨#[35]⟩ : ByteArray)).1).size : Int) - 0) < ((Int.toNat ((((F104 line (⟨#[35]⟩ : ByteArray)).1).size : Int) - 0)) + 1) ∧ (0 : Int) ≤ 0)) (fun (i0 : Nat × Int) (hi0 : runL (F84_s0 line) i0.1 i0.2 = (runL (F84_s0 line) ((Int.toNat ((((F104 line (⟨#[35]⟩ : ByteArray)).1).size : Int) - 0)) + 1) 0) ∧ (fun (i40 : Int) => (Int.toNat ((((F104 line (⟨#[35]⟩ : ByteArray)).1).size : Int) - i40) < i0.1 ∧ (0 : Int) ≤ i40)) i0.2) => (fun (m0 : Nat) (i40 : Int) (hI0 : runL (F84_s0 line) (m0 + 1) i40 = (runL (F84_s0 line) ((Int.toNat ((((F104 line (⟨#[35]⟩ : ByteArray)).1).size : Int) - 0)) + 1) 0)) (_ : Int.toNat ((((F104 line (⟨#[35]⟩ : ByteArray)).1).size : Int) - i40) < m0 + 1) (hl0 : m0 < i0.1) (_ : (0 : Int) ≤ i40) => ai (fun h4 : (decide (i40 < (((F104 line (⟨#[35]⟩ : ByteArray)).1).size : Int))) = true => (fun _ : i40 < (((F104 line (⟨#[35]⟩ : ByteArray)).1).size : Int) => ai ((by omega : 0 ≤ i40 ∧ i40 < (((F104 line (⟨#[35]⟩ : ByteArray)).1).size : Int))) (ai (trivial) (ai ((Imp.refl (.v (vI (IntKind.i64.wrap ((((F104 line (⟨#[35]⟩ : ByteArray)).1).data.getD (Int.toNat i40) 0).toNat : Int)))))) (ai ((Imp.refl (.v (vI 32)))) (ai ((Imp.refl (.v (vI 126)))) (ai (fun h5 : (!(decide (32 ≤ (IntKind.i64.wrap ((((F104 line (⟨#[35]⟩ : ByteArray)).1).data.getD (Int.toNat i40) 0).toNat : Int)) ∧ (IntKind.i64.wrap ((((F104 line (⟨#[35]⟩ : ByteArray)).1).data.getD (Int.toNat i40) 0).toNat : Int)) ≤ 126))) = true => (fun _ : ¬ (32 ≤ (IntKind.i64.wrap ((((F104 line (⟨#[35]⟩ : ByteArray)).1).data.getD (Int.toNat i40) 0).toNat : Int)) ∧ (IntKind.i64.wrap ((((F104 line (⟨#[35]⟩ : ByteArray)).1).data.getD (Int.toNat i40) 0).toNat : Int)) ≤ 126) => (fun hF : (([] : List ByteArray), false) = (F84 line) => ai ((Imp.nil 1 eStr).trans (Imp.of_eq (congrArg (fun r : List ByteArray × Bool => Dat.l 1 eStr r.1) hF))) (ai (congrArg (fun r : List ByteArray × Bool => (.bool r.2 : Value)) hF) (trivial))) (finR (runL_ret hI0 (condT h4 (condT h5 (rfl)))) rfl)) (of_decide_eq_false (notET h5))) (fun h5 : (!(decide (32 ≤ (IntKind.i64.wrap ((((F104 line (⟨#[35]⟩ : ByteArray)).1).data.getD (Int.toNat i40) 0).toNat : Int)) ∧ (IntKind.i64.wrap ((((F104 line (⟨#[35]⟩ : ByteArray)).1).data.getD (Int.toNat i40) 0).toNat : Int)) ≤ 126))) = false => (fun _ : 32 ≤ (IntKind.i64.wrap ((((F104 line (⟨#[35]⟩ : ByteArray)).1).data.getD (Int.toNat i40) 0).toNat : Int)) ∧ (IntKind.i64.wrap ((((F104 line (⟨#[35]⟩ : ByteArray)).1).data.getD (Int.toNat i40) 0).toNat : Int)) ≤ 126 => ai ((by unfold i64ok; omega : i64ok (i40 + 1))) (Exists.intro (p := fun j : Nat × Int => (fun (i40_ : Int) => (((.string ((F104 line (⟨#[35]⟩ : ByteArray)).1) : Value) = .string ((F104 line (⟨#[35]⟩ : ByteArray)).1)) ∧ ((.int .i64 (i40 + 1) : Value) = .int .i64 i40_) ∧ ((runL (F84_s0 line) j.1 j.2 = (runL (F84_s0 line) ((Int.toNat ((((F104 line (⟨#[35]⟩ : ByteArray)).1).size : Int) - 0)) + 1) 0) ∧ Int.toNat ((((F104 line (⟨#[35]⟩ : ByteArray)).1).size : Int) - i40_) < j.1 ∧ (0 : Int) ≤ i40_) ∧ j.1 < i0.1))) j.2) (m0, (i40 + 1)) (ai (rfl) (ai (rfl) (ai (ai (runL_next hI0 (condT h4 (condF h5 (rfl)))) (ai ((by omega : Int.toNat ((((F104 line (⟨#[35]⟩ : ByteArray)).1).size : Int) - (i40 + 1)) < m0)) ((by omega : (0 : Int) ≤ (i40 + 1))))) hl0))))) (of_decide_eq_true (notEF h5))))))))) (of_decide_eq_true h4)) (fun h4 : (decide (i40 < (((F104 line (⟨#[35]⟩ : ByteArray)).1).size : Int))) = false => (fun _ : ¬ i40 < (((F104 line (⟨#[35]⟩ : ByteArray)).1).size : Int) => (fun hD0_6 : (runL (F84_s0 line) ((Int.toNat ((((F104 line (⟨#[35]⟩ : ByteArray)).1).size : Int) - 0)) + 1) 0) = Lp.done i40 => ai ((ai ((by omega : ((F104 line (⟨#[35]⟩ : ByteArray)).1).size ≤ 4294967280)) ((by decide : 1 ≤ (⟨#[32]⟩ : ByteArray).size)))) (ai ((Imp.refl (.v (.string ((F104 line (⟨#[35]⟩ : ByteArray)).1))))) (ai ((Imp.refl (.v (.string (⟨#[32]⟩ : ByteArray))))) ((fun gv7 : (F23 ((F104 line (⟨#[35]⟩ : ByteArray)).1) (⟨#[32]⟩ : ByteArray)).length ≤ ((F104 line (⟨#[35]⟩ : ByteArray)).1).size + 1 => (fun gv8 : 1 ≤ (F23 ((F104 line (⟨#[35]⟩ : ByteArray)).1) (⟨#[32]⟩ : ByteArray)).length => ai ((ai ((by omega : (F23 ((F104 line (⟨#[35]⟩ : ByteArray)).1) (⟨#[32]⟩ : ByteArray)).length ≤ 1000000000)) ((by first | assumption | (intros; exact trivial) | (intros; exact Nat.zero_le _) : ∀ k : Nat, k < (F23 ((F104 line (⟨#[35]⟩ : ByteArray)).1) (⟨#[32]⟩ : ByteArray)).length → (fun (x0 : ByteArray) => True) ((F23 ((F104 line (⟨#[35]⟩ : ByteArray)).1) (⟨#[32]⟩ : ByteArray)).getD k default))))) (ai ((Imp.refl (.l 1 eStr (F23 ((F104 line (⟨#[35]⟩ : ByteArray)).1) (⟨#[32]⟩ : ByteArray))))) (ai ((Eq.refl (fsQ23 (fun (x0 : ByteArray) => True) (fun (x0 : ByteArray) => F115 x0)))) (ai (trivial) (ai ((fun k9 : (decide ((((F23 ((F104 line (⟨#[35]⟩ : ByteArray)).1) (⟨#[32]⟩ : ByteArray)).filter (fun x => !((fun (x0 : ByteArray) => F115 x0) x))).length : Int) > 8)) = false => (fun _ : ¬ (((F23 ((F104 line (⟨#[35]⟩ : ByteArray)).1) (⟨#[32]⟩ : ByteArray)).filter (fun x => !((fun (x0 : ByteArray) => F115 x0) x))).length : Int) > 8 => ((by first | assumption | (intros; exact trivial) | (intros; exact Nat.zero_le _) : ∀ k : Nat, k < ((F23 ((F104 line (⟨#[35]⟩ : ByteArray)).1) (⟨#[32]⟩ : ByteArray)).filter (fun x => !((fun (x0 : ByteArray) => F115 x0) x))).length → (fun (x0 : ByteArray) => True) (((F23 ((F104 line (⟨#[35]⟩ : ByteArray)).1) (⟨#[32]⟩ : ByteArray)).filter (fun x => !((fun (x0 : ByteArray) => F115 x0) x))).getD k default)))) (of_decide_eq_false k9))) (ai ((fun k10 : (decide ((((F23 ((F104 line (⟨#[35]⟩ : ByteArray)).1) (⟨#[32]⟩ : ByteArray)).filter (fun x => !((fun (x0 : ByteArray) => F115 x0) x))).length : Int) > 8)) = false => (fun _ : ¬ (((F23 ((F104 line (⟨#[35]⟩ : ByteArray)).1) (⟨#[32]⟩ : ByteArray)).filter (fun x => !((fun (x0 : ByteArray) => F115 x0) x))).length : Int) > 8 => (Imp.refl (.l 1 eStr ((F23 ((F104 line (⟨#[35]⟩ : ByteArray)).1) (⟨#[32]⟩ : ByteArray)).filter (fun x => !((fun (x0 : ByteArray) => F115 x0) x)))))) (of_decide_eq_false k10))) (ai ((fun k11 : (decide ((((F23 ((F104 line (⟨#[35]⟩ : ByteArray)).1) (⟨#[32]⟩ : ByteArray)).filter (fun x => !((fun (x0 : ByteArray) => F115 x0) x))).length : Int) > 8)) = false => (fun _ : ¬ (((F23 ((F104 line (⟨#[35]⟩ : ByteArray)).1) (⟨#[32]⟩ : ByteArray)).filter (fun x => !((fun (x0 : ByteArray) => F115 x0) x))).length : Int) > 8 => (Eq.refl (fsQ23 (fun (x0 : ByteArray) => True) (fun (x0 : ByteArray) => F116 x0)))) (of_decide_eq_false k11))) (ai ((fun k12 : (decide ((((F23 ((F104 line (⟨#[35]⟩ : ByteArray)).1) (⟨#[32]⟩ : ByteArray)).filter (fun x => !((fun (x0 : ByteArray) => F115 x0) x))).length : Int) > 8)) = false => (fun _ : ¬ (((F23 ((F104 line (⟨#[35]⟩ : ByteArray)).1) (⟨#[32]⟩ : ByteArray)).filter (fun x => !((fun (x0 : ByteArray) => F115 x0) x))).length : Int) > 8 => trivial) (of_decide_eq_false k12))) (ai (fun h13 : (bif decide ((((F23 ((F104 line (⟨#[35]⟩ : ByteArray)).1) (⟨#[32]⟩ : ByteArray)).filter (fun x => !((fun (x0 : ByteArray) => F115 x0) x))).length : Int) > 8) then true else (((F23 ((F104 line (⟨#[35]⟩ : ByteArray)).1) (⟨#[32]⟩ : ByteArray)).filter (fun x => !((fun (x0 : ByteArray) => F115 x0) x))).any (fun (x0 : ByteArray) => F116 x0))) = true => (fun hF : (([] : List ByteArray), false) = (F84 line) => ai ((Imp.nil 1 eStr).trans (Imp.of_eq (congrArg (fun r : List ByteArray × Bool => Dat.l 1 eStr r.1) hF))) (ai (congrArg (fun r : List ByteArray × Bool => (.bool r.2 : Value)) hF) (trivial))) (finD hD0_6 (condT h13 (rfl)))) (fun h13 : (bif decide ((((F23 ((F104 line (⟨#[35]⟩ : ByteArray)).1) (⟨#[32]⟩ : ByteArray)).filter (fun x => !((fun (x0 : ByteArray) => F115 x0) x))).length : Int) > 8) then true else (((F23 ((F104 line (⟨#[35]⟩ : ByteArray)).1) (⟨#[32]⟩ : ByteArray)).filter (fun x => !((fun (x0 : ByteArray) => F115 x0) x))).any (fun (x0 : ByteArray) => F116 x0))) = false => (fun _ : ¬ (((F23 ((F104 line (⟨#[35]⟩ : ByteArray)).1) (⟨#[32]⟩ : ByteArray)).filter (fun x => !((fun (x0 : ByteArray) => F115 x0) x))).length : Int) > 8 => (fun hF : (((F23 ((F104 line (⟨#[35]⟩ : ByteArray)).1) (⟨#[32]⟩ : ByteArray)).filter (fun x => !((fun (x0 : ByteArray) => F115 x0) x))), true) = (F84 line) => ai (Imp.of_eq (congrArg (fun r : List ByteArray × Bool => Dat.l 1 eStr r.1) hF)) (ai (congrArg (fun r : List ByteArray × Bool => (.bool r.2 : Value)) hF) (trivial))) (finD hD0_6 (condF h13 (rfl)))) (of_decide_eq_false (orF1 h13)))))))))))) (splitS_pos ((F104 line (⟨#[35]⟩ : ByteArray)).1) (⟨#[32]⟩ : ByteArray) (by decide : 1 ≤ (⟨#[32]⟩ : ByteArray).size))) (splitS_le ((F104 line (⟨#[35]⟩ : ByteArray)).1) (⟨#[32]⟩ : ByteArray) (by decide : 1 ≤ (⟨#[32]⟩ : ByteArray).size)))))) (runL_done hI0 (condF h4 (rfl)))) (of_decide_eq_false h4))) (i0.1 - 1) i0.2 (hd1 hi0.1 hi0.2.1) (hd2 hi0.2.1) (hd3 hi0.2.1) hi0.2.2)) (g104_1 line (⟨#[35]⟩ : ByteArray))) (g104_0 line (⟨#[35]⟩ : ByteArray)))))) (by kernel_rfl)
end Go.Proofs.YtmjamlboilmbfaaGreatDoor
namespace Go.Proofs.YtmjamlboilmbfaaGreatDoor
open Go.RowKit
set_option maxRecDepth 100000
set_option linter.unusedVariables false
set_option linter.unusedSimpArgs false
def splitL (c : UInt8) : List UInt8 → List (List UInt8)
  | [] => [[]]
  | b :: l => if b = c then [] :: splitL c l else (match splitL c l with | [] => [[b]] | w :: ws => (b :: w) :: ws)
theorem splitL_none {c : UInt8} : ∀ {l : List UInt8}, c ∉ l → splitL c l = [l]
  | [], _ => rfl
  | b :: l, h => by
    have hb : b ≠ c := fun e => h (by rw [e]; exact List.mem_cons_self)
    rw [splitL, if_neg hb, splitL_none (fun hm => h (List.mem_cons_of_mem _ hm))]
theorem splitL_app {c : UInt8} (b : List UInt8) : ∀ {a : List UInt8}, c ∉ a → splitL c (a ++ c :: b) = a :: splitL c b
  | [], _ => by rw [List.nil_append, splitL, if_pos rfl]
  | x :: a, h => by
    have hb : x ≠ c := fun e => h (by rw [e]; exact List.mem_cons_self)
    rw [List.cons_append, splitL, if_neg hb, splitL_app b (fun hm => h (List.mem_cons_of_mem _ hm))]
theorem index_split (c : UInt8) : ∀ l : List UInt8, (Lib.index l [c] = -1 ∧ c ∉ l) ∨ ∃ a b, l = a ++ c :: b ∧ c ∉ a ∧ Lib.index l [c] = (a.length : Int)
  | [] => .inl ⟨rfl, by simp⟩
  | x :: l => by
    rw [Lib.index_one, Lib.indexByte]
    by_cases hx : x = c
    · subst hx
      exact .inr ⟨[], l, rfl, by simp, by simp⟩
    · have hx' : (x == c) = false := by simpa using hx
      rw [hx']
      rcases index_split c l with ⟨h1, h2⟩ | ⟨a, b, h1, h2, h3⟩
      · rw [Lib.index_one] at h1
        refine .inl ⟨by rw [h1]; rfl, fun hm => ?_⟩
        rcases List.mem_cons.1 hm with h | h
        · exact hx h.symm
        · exact h2 h
      · rw [Lib.index_one] at h3
        refine .inr ⟨x :: a, b, by rw [h1]; rfl, fun hm => ?_, ?_⟩
        · rcases List.mem_cons.1 hm with h | h
          · exact hx h.symm
          · exact h2 h
        · rw [h3]
          have : ((a.length : Int) == -1) = false := by
            rw [beq_eq_false_iff_ne]; omega
          simp only [this, Bool.false_eq_true, if_false, List.length_cons]
          omega
theorem ba_ext {a b : ByteArray} (h : a.data.toList = b.data.toList) : a = b := by
  cases a; cases b
  simp only at h
  congr
  exact Array.ext' h
theorem cut_cases (s : ByteArray) (c : UInt8) : (c ∉ s.data.toList ∧ cut3 s ⟨#[c]⟩ = (s, ⟨#[]⟩, false)) ∨ ∃ a b, s.data.toList = a ++ c :: b ∧ c ∉ a ∧ cut3 s ⟨#[c]⟩ = (⟨a.toArray⟩, ⟨b.toArray⟩, true) := by
  rcases index_split c s.data.toList with ⟨h1, h2⟩ | ⟨a, b, h1, h2, h3⟩
  · refine .inl ⟨h2, ?_⟩
    unfold cut3 Lib.cut
    rw [h1]
    rfl
  · refine .inr ⟨a, b, h1, h2, ?_⟩
    unfold cut3 Lib.cut
    rw [h3, if_pos (by omega), h1]
    simp
theorem splitS_aux (c : UInt8) : ∀ (k : Nat) (s : ByteArray), s.data.toList.count c = k → (Lib.splitB ⟨#[c]⟩ 0 k s).map (·.data.toList) = splitL c s.data.toList
  | 0, s, hk => by
    rw [splitL_none (List.count_eq_zero.1 hk)]
    rfl
  | k + 1, s, hk => by
    rcases index_split c s.data.toList with ⟨h1, h2⟩ | ⟨a, b, h1, h2, h3⟩
    · rw [List.count_eq_zero.2 h2] at hk; omega
    · have hi : Lib.indexB s ⟨#[c]⟩ = (a.length : Int) := h3
      unfold Lib.splitB
      rw [hi, if_neg (by rw [beq_iff_eq]; omega), List.map_cons, h1, splitL_app b h2]
      have hsz : s.size = a.length + (b.length + 1) := by
        have := congrArg List.length h1
        rw [List.length_append, List.length_cons, Array.length_toList] at this
        exact this
      have e1 : (s.extract 0 (((a.length : Int)).toNat + 0)).data.toList = a := by
        rw [ByteArray.data_extract, Array.toList_extract, List.extract_eq_take_drop, h1, Int.toNat_natCast, Nat.add_zero, Nat.sub_zero, List.drop_zero]
        rw [List.take_append_of_le_length (Nat.le_refl _), List.take_length]
      have e2 : (s.extract (((a.length : Int)).toNat + (⟨#[c]⟩ : ByteArray).size) s.size).data.toList = b := by
        have hc1 : (⟨#[c]⟩ : ByteArray).size = 1 := rfl
        rw [hc1]
        simp only [ByteArray.data_extract, Array.toList_extract, List.extract_eq_take_drop, h1, Int.toNat_natCast, hsz]
        rw [List.drop_append, List.drop_of_length_le (by omega), List.nil_append]
        have e3 : a.length + 1 - a.length = 1 := by omega
        rw [e3, List.drop_succ_cons, List.drop_zero, List.take_of_length_le (by omega)]
      rw [e1, splitS_aux c k _ (by rw [e2]; rw [h1] at hk; simp [List.count_eq_zero.2 h2] at hk; omega), e2]
theorem splitS_one (s : ByteArray) (c : UInt8) : (splitS s ⟨#[c]⟩).map (·.data.toList) = splitL c s.data.toList := by
  have : Lib.countB s ⟨#[c]⟩ = s.data.toList.count c := Lib.count_one c s.data.toList
  unfold splitS
  rw [this]
  exact splitS_aux c _ s rfl
end Go.Proofs.YtmjamlboilmbfaaGreatDoor
namespace Go.Proofs.YtmjamlboilmbfaaGreatDoor
open Go.RowKit
set_option maxRecDepth 100000
set_option linter.unusedVariables false
set_option linter.unusedSimpArgs false
def F44_s0 (line : ByteArray) : Int → Lp Int ByteArray := fun i40 =>
  bif (decide (i40 < (line.size : Int))) then (bif (((line.data.getD (Int.toNat i40) 0).toNat : Int) == 35) then (.ret (line.extract (Int.toNat (0 : Int)) (Int.toNat i40))) else (.next (i40 + 1))) else (.done i40)
def F44 (line : ByteArray) : ByteArray :=
  (runL (F44_s0 line) ((Int.toNat ((line.size : Int) - 0)) + 1) 0).fin (fun r => r) (fun i40 => line)
def S44 (R : ByteArray) (line : ByteArray) : Spec := ⟨[.r (.c (.v (.string line)))], .v (.string R), line.size ≤ 1048576⟩
theorem ok44 (line : ByteArray) : (S44 (F44 line) line).ok Tryz.prog 44 :=
  fnG_ok mixed (fn := Tryz.f44) (ct := .seq (.no) (.seq (.seq (.no) (.blk (.loop (ι := Nat × Int) (fun i => (fun (i40 : Int) => (⟨[(0, some (.v (.string line))), (3, some (.v (vI i40)))], [], 0⟩ : St)) i.2) (fun i => runL (F44_s0 line) i.1 i.2 = (runL (F44_s0 line) ((Int.toNat ((line.size : Int) - 0)) + 1) 0) ∧ (fun (i40 : Int) => (Int.toNat ((line.size : Int) - i40) < i.1 ∧ (0 : Int) ≤ i40)) i.2) (fun i => i.1) (((Int.toNat ((line.size : Int) - 0)) + 1), 0) (fun i => (fun (i40 : Int) => (.seq (.seq (.no) (.cond (.no) (.no))) (.seq (.blk (.seq (.no) (.cond (.seq (.no) (.no)) (.no)))) (.reg [(1, .bnd)])))) i.2)))) (.seq (.no) (.no)))) Tryz.func44 (fun (hpre0 : line.size ≤ 1048576) => ai (ai (rfl) (ai (rfl) ((ai (rfl : runL (F44_s0 line) ((Int.toNat ((line.size : Int) - 0)) + 1) 0 = (runL (F44_s0 line) ((Int.toNat ((line.size : Int) - 0)) + 1) 0)) (ai ((Nat.lt_succ_self _ : Int.toNat ((line.size : Int) - 0) < ((Int.toNat ((line.size : Int) - 0)) + 1))) ((by omega : (0 : Int) ≤ 0)))))) : ((.string line : Value) = .string line) ∧ ((.int .i64 0 : Value) = .int .i64 0) ∧ (runL (F44_s0 line) ((Int.toNat ((line.size : Int) - 0)) + 1) 0 = (runL (F44_s0 line) ((Int.toNat ((line.size : Int) - 0)) + 1) 0) ∧ Int.toNat ((line.size : Int) - 0) < ((Int.toNat ((line.size : Int) - 0)) + 1) ∧ (0 : Int) ≤ 0)) (fun (i0 : Nat × Int) (hi0 : runL (F44_s0 line) i0.1 i0.2 = (runL (F44_s0 line) ((Int.toNat ((line.size : Int) - 0)) + 1) 0) ∧ (fun (i40 : Int) => (Int.toNat ((line.size : Int) - i40) < i0.1 ∧ (0 : Int) ≤ i40)) i0.2) => (fun (m0 : Nat) (i40 : Int) (hI0 : runL (F44_s0 line) (m0 + 1) i40 = (runL (F44_s0 line) ((Int.toNat ((line.size : Int) - 0)) + 1) 0)) (_ : Int.toNat ((line.size : Int) - i40) < m0 + 1) (hl0 : m0 < i0.1) (_ : (0 : Int) ≤ i40) => ai (fun h2 : (decide (i40 < (line.size : Int))) = true => (fun _ : i40 < (line.size : Int) => ai ((by omega : 0 ≤ i40 ∧ i40 < (line.size : Int))) (ai (fun h3 : (((line.data.getD (Int.toNat i40) 0).toNat : Int) == 35) = true => (fun _ : ((line.data.getD (Int.toNat i40) 0).toNat : Int) = 35 => ai ((by omega : 0 ≤ (0 : Int) ∧ (0 : Int) ≤ i40 ∧ i40 ≤ (line.size : Int))) ((fun hF : ((line.extract (Int.toNat (0 : Int)) (Int.toNat i40)) : ByteArray) = (F44 line) => ai (congrArg (fun r : ByteArray => (.string r : Value)) hF) (trivial)) (finR (runL_ret hI0 (condT h2 (condT h3 (rfl)))) rfl))) (eq_of_beq h3)) (fun h3 : (((line.data.getD (Int.toNat i40) 0).toNat : Int) == 35) = false => (fun _ : ¬ ((line.data.getD (Int.toNat i40) 0).toNat : Int) = 35 => ai ((by unfold i64ok; omega : i64ok (i40 + 1))) (Exists.intro (p := fun j : Nat × Int => (fun (i40_ : Int) => (((.string line : Value) = .string line) ∧ ((.int .i64 (i40 + 1) : Value) = .int .i64 i40_) ∧ ((runL (F44_s0 line) j.1 j.2 = (runL (F44_s0 line) ((Int.toNat ((line.size : Int) - 0)) + 1) 0) ∧ Int.toNat ((line.size : Int) - i40_) < j.1 ∧ (0 : Int) ≤ i40_) ∧ j.1 < i0.1))) j.2) (m0, (i40 + 1)) (ai (rfl) (ai (rfl) (ai (ai (runL_next hI0 (condT h2 (condF h3 (rfl)))) (ai ((by omega : Int.toNat ((line.size : Int) - (i40 + 1)) < m0)) ((by omega : (0 : Int) ≤ (i40 + 1))))) hl0))))) (beqF h3)))) (of_decide_eq_true h2)) (fun h2 : (decide (i40 < (line.size : Int))) = false => (fun _ : ¬ i40 < (line.size : Int) => (fun hD0_4 : (runL (F44_s0 line) ((Int.toNat ((line.size : Int) - 0)) + 1) 0) = Lp.done i40 => (fun hF : (line : ByteArray) = (F44 line) => ai (congrArg (fun r : ByteArray => (.string r : Value)) hF) (trivial)) (finD hD0_4 (rfl))) (runL_done hI0 (condF h2 (rfl)))) (of_decide_eq_false h2))) (i0.1 - 1) i0.2 (hd1 hi0.1 hi0.2.1) (hd2 hi0.2.1) (hd3 hi0.2.1) hi0.2.2)) (by kernel_rfl)
end Go.Proofs.YtmjamlboilmbfaaGreatDoor
namespace Go.Proofs.YtmjamlboilmbfaaGreatDoor
open Go.RowKit
set_option maxRecDepth 100000
set_option linter.unusedVariables false
set_option linter.unusedSimpArgs false
theorem getD_list (s : ByteArray) (i : Nat) : s.data.getD i 0 = s.data.toList.getD i 0 := by
  simp [Array.getD, List.getD_eq_getElem?_getD]
  split <;> simp_all
theorem cut_at {s : ByteArray} {c : UInt8} {i : Nat} (hi : i < s.size) (h : s.data.toList.getD i 0 = c) (hn : ∀ j, j < i → s.data.toList.getD j 0 ≠ c) : (cut3 s ⟨#[c]⟩).1 = s.extract 0 i := by
  have hl : s.data.toList.length = s.size := Array.length_toList
  rcases cut_cases s c with ⟨h1, _⟩ | ⟨a, b, h1, h2, h3⟩
  · exact absurd (by rw [← h, List.getD_eq_getElem?_getD, List.getElem?_eq_getElem (by omega)]; exact List.getElem_mem _) h1
  · rw [h3]
    have hai : a.length = i := by
      rcases Nat.lt_trichotomy a.length i with hlt | heq | hgt
      · refine absurd ?_ (hn a.length hlt)
        rw [h1, List.getD_eq_getElem?_getD, List.getElem?_append_right (Nat.le_refl _)]
        simp
      · exact heq
      · rw [h1, List.getD_eq_getElem?_getD, List.getElem?_append_left hgt, List.getElem?_eq_getElem hgt] at h
        exact absurd (h ▸ List.getElem_mem hgt) h2
    refine ba_ext ?_
    rw [ByteArray.data_extract, Array.toList_extract, List.extract_eq_take_drop, h1, List.drop_zero, Nat.sub_zero, ← hai, List.take_append_of_le_length (Nat.le_refl _), List.take_length]
theorem cut_not {s : ByteArray} {c : UInt8} (hn : ∀ j, j < s.size → s.data.toList.getD j 0 ≠ c) : (cut3 s ⟨#[c]⟩).1 = s := by
  have hl : s.data.toList.length = s.size := Array.length_toList
  rcases cut_cases s c with ⟨_, h1⟩ | ⟨a, b, h1, h2, h3⟩
  · rw [h1]
  · refine absurd ?_ (hn a.length (by rw [← hl, h1]; simp))
    rw [h1, List.getD_eq_getElem?_getD, List.getElem?_append_right (Nat.le_refl _)]
    simp
theorem u8_eq (b : UInt8) (k : UInt8) : ((b.toNat : Int) == (k.toNat : Int)) = decide (b = k) := by
  rw [beqD]
  congr 1
  refine propext ⟨fun h => ?_, fun h => by rw [h]⟩
  exact UInt8.toNat_inj.1 (by omega)
theorem strip_aux (s : ByteArray) : ∀ (m i : Nat), i + m = s.size → (∀ j, j < i → s.data.toList.getD j 0 ≠ 35) → ∀ fuel, m < fuel →
    (runL (F44_s0 s) fuel (i : Int)).fin (fun r => r) (fun _ => s) = (cut3 s ⟨#[35]⟩).1
  | m, i, _, _, 0, hf => absurd hf (Nat.not_lt_zero _)
  | 0, i, h, hn, fuel + 1, _ => by
    have h1 : decide ((i : Int) < (s.size : Int)) = false := decide_eq_false (by omega)
    simp only [runL, F44_s0, h1, cond_false]
    rw [cut_not (fun j hj => hn j (by omega))]
    rfl
  | m + 1, i, h, hn, fuel + 1, hf => by
    have h1 : decide ((i : Int) < (s.size : Int)) = true := decide_eq_true (by omega)
    have h2 := u8_eq (s.data.toList.getD i 0) 35
    have h3 : ((35 : UInt8).toNat : Int) = 35 := rfl
    rw [h3] at h2
    simp only [runL, F44_s0, h1, cond_true, Int.toNat_natCast, getD_list, h2]
    by_cases hc : s.data.toList.getD i 0 = 35
    · rw [decide_eq_true hc, cond_true, cut_at (by omega) hc hn]
      rfl
    · rw [decide_eq_false hc, cond_false]
      have := strip_aux s m (i + 1) (by omega) (fun j hj => by
        rcases Nat.lt_or_ge j i with h4 | h4
        · exact hn j h4
        · obtain rfl : j = i := by omega
          exact hc) fuel (by omega)
      simpa using this
theorem as44 (line : ByteArray) : F44 line = ((cut3 line (⟨#[35]⟩ : ByteArray)).1) := by
  unfold F44
  exact strip_aux line line.size 0 (by omega) (fun j hj => absurd hj (Nat.not_lt_zero _)) _ (by omega)
theorem cutA_le (line : ByteArray) : ((cut3 line (⟨#[35]⟩ : ByteArray)).1.size : Int) ≤ line.size := cut3_le1 _ _
theorem cutA_le2 (line : ByteArray) (h : line.size ≤ 1048576) : (cut3 line (⟨#[35]⟩ : ByteArray)).1.size ≤ 1048576 := by
  have := cut3_le1 line ⟨#[35]⟩
  omega
end Go.Proofs.YtmjamlboilmbfaaGreatDoor
