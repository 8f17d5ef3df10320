/-
  The machine, eighteenth part: one state of knowledge in another; code.
-/
import Derived.Test.YtbhjkcicpobmhaaDoorMH
namespace Go.Proofs.YtbhjkcicpobmhaaDoor
open Go.RowKit
set_option linter.unusedVariables false
set_option linter.unusedSimpArgs false

/-- where an item of the other state comes from -/
inductive Src where
  | id (Y : Nat)
  | val (x : Value)

abbrev Ren := List (Nat × Src)

def renG : Ren → Nat → Option Src
  | [], _ => none
  | (k, s) :: r, X => bif Nat.beq k X then some s else renG r X

mutual
/-- the renaming, out of what the slots hold -/
def mkR : AV → AV → Ren → Ren
  | .h Y _, .h X _, r => (match renG r X with | some _ => r | none => (X, .id Y) :: r)
  | .p Y _, .p X _, r => (match renG r X with | some _ => r | none => (X, .id Y) :: r)
  | .v x, .h X 0, r => (match renG r X with | some _ => r | none => (X, .val x) :: r)
  | .ag cs, .ag ds, r => mkRs cs ds r
  | .tu cs, .tu ds, r => mkRs cs ds r
  | .cl _ cs, .cl _ ds, r => mkRs cs ds r
  | _, _, r => r
def mkRs : List AV → List AV → Ren → Ren
  | a :: as, b :: bs, r => mkRs as bs (mkR a b r)
  | _, _, r => r
end
def mkS (sl : Nat → Option AV) : List (Nat × Option AV) → Ren → Ren
  | [], r => r
  | (t, some b) :: l, r => mkS sl l (match sl t with | some a => mkR a b r | none => r)
  | (_, none) :: l, r => mkS sl l r
def mkF (fs : Nat → Option Fact) : List (Nat × Option Fact) → Ren → Ren
  | [], r => r
  | (X, some (.box _ ds)) :: l, r => mkF fs l (match renG r X with
    | some (.id Y) => (match fs Y with | some (.box _ cs) => mkRs cs ds r | _ => r)
    | _ => r)
  | (X, some (.arr _ ds)) :: l, r => mkF fs l (match renG r X with
    | some (.id Y) => (match fs Y with | some (.arr _ cs) => mkRs cs ds r | _ => r)
    | _ => r)
  | (X, some (.shr (some (X1, _)) _)) :: l, r => mkF fs l (match renG r X, renG r X1 with
    | some (.id Y), none => (match fs Y with | some (.shr (some (Y1, _)) _) => (X1, .id Y1) :: r | _ => r)
    | _, _ => r)
  | _ :: l, r => mkF fs l r

mutual
/-- a value of the other state is one of this -/
def eqA (r : Ren) (nx : Nat) : AV → AV → Option (List Prop)
  | .v x, .v y => some [x = y]
  | a, .h X j => bif Nat.blt X nx then (match renG r X, a with
    | some (.id Y), .h Y' j' => bif Nat.beq Y Y' && Nat.beq j j' then some [] else none
    | some (.val x), .v y => (match j with | 0 => some [y = x] | _ => none)
    | _, _ => none) else none
  | .p Y' o, .p X o' => bif Nat.blt X nx then (match renG r X with
    | some (.id Y) => bif Nat.beq Y Y' && Nat.beq o o' then some [] else none
    | _ => none) else none
  | .ag cs, .ag ds => eqAs r nx cs ds
  | .tu cs, .tu ds => eqAs r nx cs ds
  | .cl f cs, .cl g ds => bif Nat.beq f g then eqAs r nx cs ds else none
  | _, _ => none
def eqAs (r : Ren) (nx : Nat) : List AV → List AV → Option (List Prop)
  | [], [] => some []
  | a :: as, b :: bs => match eqA r nx a b, eqAs r nx as bs with
    | some p, some q => some (p ++ q)
    | _, _ => none
  | _, _ => none
end

def subSl (r : Ren) (nx : Nat) (sl : Nat → Option AV) : List (Nat × Option AV) → Option (List Prop)
  | [] => some []
  | (t, some b) :: l => match sl t with
    | some a => (match eqA r nx a b, subSl r nx sl l with
      | some p, some q => some (p ++ q)
      | _, _ => none)
    | none => none
  | (_, none) :: l => subSl r nx sl l

/-- one fact of the other state -/
def subFact (r : Ren) (nx : Nat) (fs : Nat → Option Fact) (X : Nat) : Fact → Option (List Prop)
  | .box T ds => match renG r X with
    | some (.id Y) => (match fs Y with
      | some (.box T' cs) => bif Nat.beq T T' && ds.all AV.one then eqAs r nx cs ds else none
      | _ => none)
    | _ => none
  | .own V d => bif Nat.blt V nx then (match renG r X with
    | some (.id Y) => (match fs Y with
      | some (.own _ d0) => some [Imp d0 d]
      | _ => none)
    | some (.val x) => bif x.oneCell' then some [Imp (.v x) d] else none
    | none => none) else none
  | .shr none d => match renG r X with
    | some (.id Y) => (match fs Y with
      | some (.shr none d0) => some [Imp d0 d]
      | _ => none)
    | some (.val x) => bif x.oneCell' then some [Imp (.v x) d] else none
    | none => none
  | .shr (some (X1, V)) d => bif Nat.blt X1 nx && Nat.blt V nx then (match renG r X, renG r X1 with
    | some (.id Y), some (.id Y1) => (match fs Y with
      | some (.shr (some (Y2, V2)) d0) => bif Nat.beq Y1 Y2 && liveB fs (some (Y2, V2)) then some [Imp d0 d] else none
      | _ => none)
    | _, _ => none) else none
  | .mem none _ ds => match renG r X with
    | some (.id Y) => (match fs Y with
      | some (.mem none _ ds0) => some [Imps ds0 ds]
      | _ => none)
    | _ => none
  | .vl x d => match renG r X with
    | some (.id Y) => (match fs Y with
      | some (.vl x0 d0) => some [x0 = x, Imp d0 d]
      | _ => none)
    | _ => none
  | .arr n ds => match renG r X with
    | some (.id Y) => (match fs Y with
      | some (.arr n' cs) => bif Nat.beq n n' && ds.all AV.one then eqAs r nx cs ds else none
      | _ => none)
    | _ => none
  | .fn F => match renG r X with
    | some (.id Y) => (match fs Y with
      | some (.fn F0) => some [F0 = F]
      | _ => none)
    | _ => none
  | _ => none

def subFs (r : Ren) (nx : Nat) (fs : Nat → Option Fact) : List (Nat × Option Fact) → Option (List Prop)
  | [] => some []
  | (X, some f) :: l => bif Nat.blt X nx then (match subFact r nx fs X f, subFs r nx fs l with
    | some p, some q => some (p ++ q)
    | _, _ => none) else none
  | (_, none) :: l => subFs r nx fs l

/-- the items that the changeable ones come from -/
def modSrc (r : Ren) : List (Nat × Option Fact) → List Nat
  | [] => []
  | (X, some f) :: l => bif f.mod then (match renG r X with | some (.id Y) => Y :: modSrc r l | _ => modSrc r l) else modSrc r l
  | (_, none) :: l => modSrc r l

def srcOne : Ren → Bool
  | [] => true
  | (_, .val x) :: r => x.oneCell' && srcOne r
  | _ :: r => srcOne r

/-- what is to be shown of: all that the other state says is so -/
def subV (s S : St) : Option (List Prop) :=
  let r := mkF (fsG s.fs) S.fs (mkF (fsG s.fs) S.fs (mkS (slG s.sl) S.sl []))
  bif nodupB (modSrc r S.fs) && srcOne r && nodupB (S.fs.map (·.1)) then (match subSl r S.nx (slG s.sl) S.sl, subFs r S.nx (fsG s.fs) S.fs with
    | some p, some q => some (p ++ q)
    | _, _ => none) else none

section
variable {P : Program} {N : Nat} {ψ IN : Nat → Prop} {w0 : World}

def βR (r : Ren) (β : Nat → Nat → Value) : Nat → Nat → Value := fun X j => match renG r X with
  | some (.id Y) => β Y j
  | some (.val x) => x
  | none => .bool false
def φR (r : Ren) (φ : Nat → List Nat) : Nat → List Nat := fun X => match renG r X with
  | some (.id Y) => φ Y
  | _ => []

mutual
theorem eqA_ok {r : Ren} {nx : Nat} {β : Nat → Nat → Value} : ∀ (a b : AV) (ps : List Prop), eqA r nx a b = some ps → AllP ps → val (βR r β) b = val β a ∧ b.wf (· < nx)
  | a, .v y, ps, h, hv => by
    cases a with
    | v x =>
      simp only [eqA, Option.some.injEq] at h
      subst h
      obtain ⟨rfl, _⟩ := hv
      exact ⟨rfl, trivial⟩
    | _ => simp [eqA] at h
  | a, .h X j, ps, h, hv => by
    have key : eqA r nx a (.h X j) = (bif Nat.blt X nx then (match renG r X, a with
      | some (.id Y), .h Y' j' => bif Nat.beq Y Y' && Nat.beq j j' then some [] else none
      | some (.val x), .v y => (match j with | 0 => some [y = x] | _ => none)
      | _, _ => none) else none) := by cases a <;> rfl
    rw [key] at h
    cases hx : Nat.blt X nx with
    | false => rw [hx] at h; cases h
    | true =>
      rw [hx] at h
      simp only [cond_true] at h
      have hX : X < nx := by simpa using hx
      split at h
      · rename_i Y Y' j' hr
        cases hb : (Nat.beq Y Y' && Nat.beq j j') with
        | false => rw [hb] at h; cases h
        | true =>
          simp only [Bool.and_eq_true] at hb
          have e1 := Nat.eq_of_beq_eq_true hb.1
          have e2 := Nat.eq_of_beq_eq_true hb.2
          subst e1; subst e2
          exact ⟨by simp only [val, βR, hr], hX⟩
      · rename_i x y hr
        split at h
        · simp only [Option.some.injEq] at h
          subst h
          obtain ⟨rfl, _⟩ := hv
          exact ⟨by simp only [val, βR, hr], hX⟩
        · cases h
      · cases h
  | a, .p X o, ps, h, hv => by
    cases a with
    | p Y' o' =>
      simp only [eqA] at h
      cases hx : Nat.blt X nx with
      | false => rw [hx] at h; cases h
      | true =>
        rw [hx] at h
        simp only [cond_true] at h
        have hX : X < nx := by simpa using hx
        split at h
        · rename_i Y hr
          cases hb : (Nat.beq Y Y' && Nat.beq o' o) with
          | false => rw [hb] at h; cases h
          | true =>
            simp only [Bool.and_eq_true] at hb
            have e1 := Nat.eq_of_beq_eq_true hb.1
            have e2 := Nat.eq_of_beq_eq_true hb.2
            subst e1; subst e2
            exact ⟨by simp only [val, βR, hr], hX⟩
        · cases h
    | _ => simp [eqA] at h
  | a, .ag ds, ps, h, hv => by
    cases a with
    | ag cs =>
      simp only [eqA] at h
      obtain ⟨h1, h2⟩ := eqAs_ok (β := β) cs ds ps h hv
      exact ⟨by simp only [val, h1], h2⟩
    | _ => simp [eqA] at h
  | a, .tu ds, ps, h, hv => by
    cases a with
    | tu cs =>
      simp only [eqA] at h
      obtain ⟨h1, h2⟩ := eqAs_ok (β := β) cs ds ps h hv
      exact ⟨by simp only [val, h1], h2⟩
    | _ => simp [eqA] at h
  | a, .cl g ds, ps, h, hv => by
    cases a with
    | cl f cs =>
      simp only [eqA] at h
      cases hb : Nat.beq f g with
      | false => rw [hb] at h; cases h
      | true =>
        rw [hb] at h
        simp only [cond_true] at h
        have e := Nat.eq_of_beq_eq_true hb
        subst e
        obtain ⟨h1, h2⟩ := eqAs_ok (β := β) cs ds ps h hv
        exact ⟨by simp only [val, h1], h2⟩
    | _ => simp [eqA] at h
theorem eqAs_ok {r : Ren} {nx : Nat} {β : Nat → Nat → Value} : ∀ (as bs : List AV) (ps : List Prop), eqAs r nx as bs = some ps → AllP ps → vals (βR r β) bs = vals β as ∧ AVs.wf (· < nx) bs
  | [], [], ps, h, hv => ⟨rfl, trivial⟩
  | a :: as, b :: bs, ps, h, hv => by
    simp only [eqAs] at h
    split at h
    · rename_i p q h1 h2
      simp only [Option.some.injEq] at h
      subst h
      obtain ⟨v1, v2⟩ := AllP.app hv
      obtain ⟨k1, k2⟩ := eqA_ok (β := β) a b p h1 v1
      obtain ⟨k3, k4⟩ := eqAs_ok (β := β) as bs q h2 v2
      exact ⟨by simp only [vals, k1, k3], k2, k4⟩
    · cases h
  | [], _ :: _, ps, h, _ => by simp [eqAs] at h
  | _ :: _, [], ps, h, _ => by simp [eqAs] at h
end

theorem subSl_ok {r : Ren} {nx : Nat} {β : Nat → Nat → Value} {sl : Nat → Option AV} : ∀ (l : List (Nat × Option AV)) (ps : List Prop), subSl r nx sl l = some ps → AllP ps → ∀ t b, slG l t = some b → ∃ a, sl t = some a ∧ val (βR r β) b = val β a ∧ b.wf (· < nx)
  | [], ps, _, _, t, b, h => by cases h
  | (k, some b0) :: l, ps, h, hv, t, b, ht => by
    simp only [subSl] at h
    split at h
    · rename_i a ha
      split at h
      · rename_i p q h1 h2
        simp only [Option.some.injEq] at h
        subst h
        obtain ⟨v1, v2⟩ := AllP.app hv
        simp only [slG] at ht
        cases hb : Nat.beq k t with
        | true =>
          rw [hb] at ht
          simp only [cond_true, Option.some.injEq] at ht
          subst ht
          have e := Nat.eq_of_beq_eq_true hb
          subst e
          exact ⟨a, ha, eqA_ok a b0 p h1 v1⟩
        | false =>
          rw [hb] at ht
          exact subSl_ok l q h2 v2 t b ht
      · cases h
    · cases h
  | (k, none) :: l, ps, h, hv, t, b, ht => by
    simp only [subSl] at h
    simp only [slG] at ht
    cases hb : Nat.beq k t with
    | true => rw [hb] at ht; cases ht
    | false => rw [hb] at ht; exact subSl_ok l ps h hv t b ht

theorem subFs_ok {r : Ren} {nx : Nat} {fs : Nat → Option Fact} : ∀ (l : List (Nat × Option Fact)) (ps : List Prop), subFs r nx fs l = some ps → AllP ps → ∀ X f, fsG l X = some f → ∃ q, subFact r nx fs X f = some q ∧ AllP q ∧ X < nx
  | [], ps, _, _, t, b, h => by cases h
  | (k, some f0) :: l, ps, h, hv, X, f, hX => by
    simp only [subFs] at h
    cases hk : Nat.blt k nx with
    | false => rw [hk] at h; cases h
    | true =>
      rw [hk] at h
      simp only [cond_true] at h
      split at h
      · rename_i p q h1 h2
        simp only [Option.some.injEq] at h
        subst h
        obtain ⟨v1, v2⟩ := AllP.app hv
        simp only [fsG] at hX
        cases hb : Nat.beq k X with
        | true =>
          rw [hb] at hX
          simp only [cond_true, Option.some.injEq] at hX
          subst hX
          have e := Nat.eq_of_beq_eq_true hb
          subst e
          exact ⟨p, h1, v1, by simpa using hk⟩
        | false =>
          rw [hb] at hX
          exact subFs_ok l q h2 v2 X f hX
      · cases h
  | (k, none) :: l, ps, h, hv, X, f, hX => by
    simp only [subFs] at h
    simp only [fsG] at hX
    cases hb : Nat.beq k X with
    | true => rw [hb] at hX; cases hX
    | false => rw [hb] at hX; exact subFs_ok l ps h hv X f hX

theorem fsG_mem : ∀ {l : List (Nat × Option Fact)} {X : Nat} {f : Fact}, fsG l X = some f → (X, some f) ∈ l
  | [], X, f, h => by cases h
  | (k, o) :: l, X, f, h => by
    simp only [fsG] at h
    cases hb : Nat.beq k X with
    | true =>
      rw [hb] at h
      simp only [cond_true] at h
      subst h
      have e := Nat.eq_of_beq_eq_true hb
      subst e
      exact List.mem_cons_self
    | false => rw [hb] at h; exact List.mem_cons_of_mem _ (fsG_mem h)

/-- two changeable items come of two -/
theorem modSrc_ne {r : Ren} : ∀ {l : List (Nat × Option Fact)} {X X' : Nat} {f f' : Fact} {Y Y' : Nat}, (modSrc r l).Nodup → (l.map (·.1)).Nodup → (X, some f) ∈ l → (X', some f') ∈ l → X ≠ X' → f.mod = true → f'.mod = true → renG r X = some (.id Y) → renG r X' = some (.id Y') → Y ≠ Y'
  | [], _, _, _, _, _, _, _, _, h, _, _, _, _, _, _ => by cases h
  | (k, o) :: l, X, X', f, f', Y, Y', hm, hl, h, h', hne, m1, m2, r1, r2 => by
    have hin : ∀ {l : List (Nat × Option Fact)} {X : Nat} {f : Fact} {Y : Nat}, (X, some f) ∈ l → f.mod = true → renG r X = some (.id Y) → Y ∈ modSrc r l := by
      intro l
      induction l with
      | nil => intro X f Y h; cases h
      | cons p l ih =>
        intro X f Y h hm hr
        obtain ⟨k, o⟩ := p
        rcases List.mem_cons.1 h with h | h
        · cases h
          simp only [modSrc, hm, cond_true, hr]
          exact List.mem_cons_self
        · have := ih h hm hr
          cases o with
          | none => exact this
          | some g =>
            simp only [modSrc]
            cases g.mod with
            | false => exact this
            | true =>
              simp only [cond_true]
              split
              · exact List.mem_cons_of_mem _ this
              · exact this
    have hm' : (modSrc r l).Nodup := by
      cases o with
      | none => exact hm
      | some g =>
        simp only [modSrc] at hm
        cases hg : g.mod with
        | false => rw [hg] at hm; exact hm
        | true =>
          rw [hg] at hm
          simp only [cond_true] at hm
          split at hm
          · exact (List.nodup_cons.1 hm).2
          · exact hm
    simp only [List.map_cons] at hl
    obtain ⟨l1, l2⟩ := List.nodup_cons.1 hl
    rcases List.mem_cons.1 h with ha | ha <;> rcases List.mem_cons.1 h' with hb | hb
    · cases ha; cases hb; exact absurd rfl hne
    · cases ha
      simp only [modSrc, m1, cond_true, r1] at hm
      intro e
      exact (List.nodup_cons.1 hm).1 (e ▸ hin hb m2 r2)
    · cases hb
      simp only [modSrc, m2, cond_true, r2] at hm
      intro e
      exact (List.nodup_cons.1 hm).1 (e ▸ hin ha m1 r1)
    · exact modSrc_ne hm' l2 ha hb hne m1 m2 r1 r2

theorem srcOne_ok : ∀ {r : Ren} {X : Nat} {x : Value}, srcOne r = true → renG r X = some (.val x) → x.oneCell' = true
  | [], X, x, _, h => by cases h
  | (k, s) :: r, X, x, h, hr => by
    simp only [renG] at hr
    cases hb : Nat.beq k X with
    | true =>
      rw [hb] at hr
      simp only [cond_true, Option.some.injEq] at hr
      subst hr
      simp only [srcOne, Bool.and_eq_true] at h
      exact h.1
    | false =>
      rw [hb] at hr
      refine srcOne_ok ?_ hr
      cases s with
      | id Y => exact h
      | val y => simp only [srcOne, Bool.and_eq_true] at h; exact h.2

/-- all that the other state says is so -/
theorem subV_ok {s S : St} {ps : List Prop} (h : subV s S = some ps) (hv : AllP ps) {a : Act} {w : World} (H : Holds P N ψ IN w0 s a w) : Holds P N ψ IN w0 S a w := by
  unfold subV at h
  simp only at h
  generalize hr : mkF (fsG s.fs) S.fs (mkF (fsG s.fs) S.fs (mkS (slG s.sl) S.sl [])) = r at h
  cases hc : (nodupB (modSrc r S.fs) && srcOne r && nodupB (S.fs.map (·.1))) with
  | false => rw [hc] at h; cases h
  | true =>
    rw [hc] at h
    simp only [cond_true] at h
    simp only [Bool.and_eq_true] at hc
    obtain ⟨⟨c1, c2⟩, c3⟩ := hc
    have c1 := nodupB_ok c1
    have c3 := nodupB_ok c3
    split at h
    · rename_i p q h1 h2
      simp only [Option.some.injEq] at h
      subst h
      obtain ⟨v1, v2⟩ := AllP.app hv
      obtain ⟨β, φ, dom, V⟩ := H
      have R := V.rel
      have hmod : ∀ X f, fsG S.fs X = some f → f.mod = true → (∃ Y g, renG r X = some (.id Y) ∧ fsG s.fs Y = some g ∧ g.mod = true) ∨ φR r φ X = [] := by
        intro X f hX hm
        obtain ⟨q', g1, g2, g3⟩ := subFs_ok S.fs q h2 v2 X f hX
        cases f <;> simp only [Fact.mod] at hm <;> first | cases hm | skip
        case box T ds =>
          simp only [subFact] at g1
          split at g1
          · rename_i Y hY
            split at g1
            · rename_i T' cs hf; exact .inl ⟨Y, _, hY, hf, rfl⟩
            · cases g1
          · cases g1
        case own V d =>
          simp only [subFact] at g1
          cases hV : Nat.blt V S.nx with
          | false => rw [hV] at g1; cases g1
          | true =>
            rw [hV] at g1
            simp only [cond_true] at g1
            split at g1
            · rename_i Y hY
              split at g1
              · rename_i d0 hf; exact .inl ⟨Y, _, hY, hf, rfl⟩
              · cases g1
            · rename_i x hx; exact .inr (by simp only [φR, hx])
            · cases g1
        case arr n ds =>
          simp only [subFact] at g1
          split at g1
          · rename_i Y hY
            split at g1
            · rename_i n' cs hf; exact .inl ⟨Y, _, hY, hf, rfl⟩
            · cases g1
          · cases g1
      refine ⟨βR r β, φR r φ, (· < S.nx), V.size, V.defers, fun t av ht => ?_, ⟨fun X f hX => ?_, fun X X' f f' hX hX' m1 m2 hne b hb hb' => ?_, fun X f hX hm b hb => ?_, R.psi, fun X j => ?_, R.chg, R.glo⟩, fun id hid => hid⟩
      · obtain ⟨a0, k1, k2, k3⟩ := subSl_ok (β := β) S.sl p h1 v1 t av ht
        rw [k2]
        exact ⟨(V.has t a0 k1).1, k3⟩
      · obtain ⟨q', g1, g2, g3⟩ := subFs_ok S.fs q h2 v2 X f hX
        refine ⟨g3, ?_⟩
        cases f with
        | box T ds =>
          simp only [subFact] at g1
          split at g1
          · rename_i Y hY
            split at g1
            · rename_i T' cs hf
              cases hb : (Nat.beq T T' && ds.all AV.one) with
              | false => rw [hb] at g1; cases g1
              | true =>
                rw [hb] at g1
                simp only [cond_true] at g1
                simp only [Bool.and_eq_true] at hb
                have e := Nat.eq_of_beq_eq_true hb.1
                subst e
                obtain ⟨k1, k2⟩ := eqAs_ok (β := β) cs ds q' g1 g2
                obtain ⟨_, _, b, m1, m2, m3⟩ := R.ok Y _ hf
                exact ⟨⟨k2, hb.2⟩, b, by simp only [βR, hY]; exact m1, by rw [k1]; exact m2, by simp only [φR, hY]; exact m3⟩
            · cases g1
          · cases g1
        | own V' d =>
          simp only [subFact] at g1
          cases hV : Nat.blt V' S.nx with
          | false => rw [hV] at g1; cases g1
          | true =>
            rw [hV] at g1
            simp only [cond_true] at g1
            refine ⟨by simpa using hV, ?_⟩
            split at g1
            · rename_i Y hY
              split at g1
              · rename_i V0 d0 hf
                cases g1
                obtain ⟨_, _, m1⟩ := R.ok Y _ hf
                simp only [βR, φR, hY]
                exact g2.1.ow _ _ _ m1
              · cases g1
            · rename_i x hx
              cases hxo : x.oneCell' with
              | false => rw [hxo] at g1; cases g1
              | true =>
                rw [hxo] at g1
                cases g1
                simp only [βR, φR, hx]
                exact g2.1.ow _ _ _ ⟨rfl, hxo, rfl⟩
            · cases g1
        | shr dep d =>
          cases dep with
          | none =>
            simp only [subFact] at g1
            split at g1
            · rename_i Y hY
              split at g1
              · rename_i d0 hf
                cases g1
                obtain ⟨_, m1⟩ := R.ok Y _ hf
                show RdV ψ w d _
                simp only [βR, hY]
                exact g2.1.rd _ _ _ m1
              · cases g1
            · rename_i x hx
              cases hxo : x.oneCell' with
              | false => rw [hxo] at g1; cases g1
              | true =>
                rw [hxo] at g1
                cases g1
                show RdV ψ w d _
                simp only [βR, hx]
                exact g2.1.rd _ _ _ ⟨rfl, hxo⟩
            · cases g1
          | some XV =>
            obtain ⟨X1, V1⟩ := XV
            simp only [subFact] at g1
            cases hb : (Nat.blt X1 S.nx && Nat.blt V1 S.nx) with
            | false => rw [hb] at g1; cases g1
            | true =>
              rw [hb] at g1
              simp only [cond_true] at g1
              simp only [Bool.and_eq_true] at hb
              refine ⟨by simpa using hb.1, by simpa using hb.2, fun _ => ?_⟩
              split at g1
              · rename_i Y Y1 hY hY1
                split at g1
                · rename_i Y2 V2 d0 hf
                  cases hb2 : (Nat.beq Y1 Y2 && liveB (fsG s.fs) (some (Y2, V2))) with
                  | false => rw [hb2] at g1; cases g1
                  | true =>
                    rw [hb2] at g1
                    cases g1
                    simp only [Bool.and_eq_true] at hb2
                    have e := Nat.eq_of_beq_eq_true hb2.1
                    subst e
                    obtain ⟨_, _, _, m1⟩ := R.ok Y _ hf
                    have := m1 (liveB_ok hb2.2)
                    simp only [βR, φR, hY, hY1]
                    exact g2.1.rd _ _ _ this
                · cases g1
              · cases g1
        | mem dep el ds =>
          cases dep with
          | none =>
            simp only [subFact] at g1
            split at g1
            · rename_i Y hY
              split at g1
              · rename_i el0 ds0 hf
                cases g1
                obtain ⟨_, b, o, m1, m2, m3, m4⟩ := R.ok Y _ hf
                have hl : ds.length = ds0.length := by
                  have h1 := (g2.1.rd m4).len
                  have h2 := m4.len
                  omega
                have hbv : bv (βR r β) X ds.length = bv β Y ds0.length := by
                  simp only [bv, βR, hY, hl]
                refine ⟨b, o, by simp only [βR, hY]; exact m1, m2, by rw [hbv]; exact m3, by rw [hbv]; exact g2.1.rd m4⟩
              · cases g1
            · cases g1
          | some XV => simp [subFact] at g1
        | arr n ds =>
          simp only [subFact] at g1
          split at g1
          · rename_i Y hY
            split at g1
            · rename_i n' cs hf
              cases hb : (Nat.beq n n' && ds.all AV.one) with
              | false => rw [hb] at g1; cases g1
              | true =>
                rw [hb] at g1
                simp only [cond_true] at g1
                simp only [Bool.and_eq_true] at hb
                have e := Nat.eq_of_beq_eq_true hb.1
                subst e
                obtain ⟨k1, k2⟩ := eqAs_ok (β := β) cs ds q' g1 g2
                obtain ⟨_, _, b, T, m1, m2, m3⟩ := R.ok Y _ hf
                exact ⟨⟨k2, hb.2⟩, b, T, by simp only [βR, hY]; exact m1, by rw [k1]; exact m2, by simp only [φR, hY]; exact m3⟩
            · cases g1
          · cases g1
        | fn F =>
          simp only [subFact] at g1
          split at g1
          · rename_i Y hY
            split at g1
            · rename_i F0 hf
              cases g1
              obtain ⟨rfl, _⟩ := g2
              obtain ⟨_, m1⟩ := R.ok Y _ hf
              show FnOK false P ψ w F0 _
              simp only [βR, hY]
              exact m1
            · cases g1
          · cases g1
        | part Y V lo sz d => simp [subFact] at g1
        | vl x d =>
          simp only [subFact] at g1
          split at g1
          · rename_i Y hY
            split at g1
            · rename_i x0 d0 hf
              cases g1
              obtain ⟨rfl, g3, _⟩ := g2
              obtain ⟨_, m1, m2⟩ := R.ok Y _ hf
              show βR r β X 0 = x0 ∧ RdV ψ w d x0
              simp only [βR, hY]
              exact ⟨m1, g3.rd _ _ _ m2⟩
            · cases g1
          · cases g1
      · rcases hmod X f hX m1 with ⟨Y, g, y1, y2, y3⟩ | h0
        · rcases hmod X' f' hX' m2 with ⟨Y', g', z1, z2, z3⟩ | h0
          · simp only [φR, y1] at hb
            simp only [φR, z1] at hb'
            exact R.dis Y Y' g g' y2 z2 y3 z3 (modSrc_ne c1 c3 (fsG_mem hX) (fsG_mem hX') hne m1 m2 y1 z1) b hb hb'
          · rw [h0] at hb'; cases hb'
        · rw [h0] at hb; cases hb
      · rcases hmod X f hX hm with ⟨Y, g, y1, y2, y3⟩ | h0
        · simp only [φR, y1] at hb
          exact R.lt Y g y2 y3 b hb
        · rw [h0] at hb; cases hb
      · simp only [βR]
        split
        · exact R.all1 _ j
        · rename_i x hx; exact srcOne_ok c2 hx
        · rfl
    · cases h

end
end Go.Proofs.YtbhjkcicpobmhaaDoor
