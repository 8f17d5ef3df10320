/-
  The machine, fifteenth part: a region is right.
-/
import Derived.Test.YtbhjkcicpobmhaaDoorME
namespace Go.Proofs.YtbhjkcicpobmhaaDoor
open Go.RowKit
set_option linter.unusedVariables false
set_option linter.unusedSimpArgs false

def condI (rs : List RI) (ri : RI) : Prop := ∀ key ∈ ri.keys, kap rs key

/-- what is known of an item when the operations of E have come up (those whose keys hold) -/
def fsP (E : Nat → Bool) (id : Nat) : Nat → List RI → Option Fact → Option Fact
  | k, ri :: rs, x => fsP E id (k + 1) rs (bif E k then (setsGet ri.r.sets id).getD x else x)
  | _, [], x => x

theorem fupds_get (fs : Nat → Option Fact) : ∀ (l : List (Nat × Option Fact)) (id : Nat), fupds fs l id = (setsGet l id).getD (fs id)
  | [], id => rfl
  | (i, o) :: l, id => by
    simp only [fupds, setsGet]
    rw [fupds_get _ l id]
    cases hg : setsGet l id with
    | some x => rfl
    | none =>
      simp only [Option.getD_none, fupd]
      cases Nat.beq i id <;> rfl

theorem setsGet_mem : ∀ {l : List (Nat × Option Fact)} {id : Nat} {o : Option Fact}, setsGet l id = some o → ∃ p ∈ l, p.1 = id
  | [], id, o, h => by cases h
  | (i, o') :: l, id, o, h => by
    simp only [setsGet] at h
    cases hg : setsGet l id with
    | some x =>
      obtain ⟨p, h1, h2⟩ := setsGet_mem hg
      exact ⟨p, List.mem_cons_of_mem _ h1, h2⟩
    | none =>
      rw [hg] at h
      cases hb : Nat.beq i id with
      | false => rw [hb] at h; cases h
      | true => exact ⟨_, List.mem_cons_self, Nat.eq_of_beq_eq_true hb⟩

theorem lookS_cases {anc : Nat → Bool} {keys : List (Nat × Bool)} {t : Nat} {init : Option AV} {av : AV} : ∀ (os : List Oper) (rs : List RI) (k : Nat), lookS anc keys t init k os rs = some av →
    (∃ j o ri, os[j]? = some o ∧ rs[j]? = some ri ∧ o.dst = some t ∧ anc (k + j) = true ∧ keySub ri.keys keys = true ∧ av = ri.r.av) ∨ (init = some av ∧ ∀ (j : Nat) (o : Oper) (ri : RI), os[j]? = some o → rs[j]? = some ri → o.dst ≠ some t)
  | [], rs, k, h => by cases rs <;> exact .inr ⟨by simpa [lookS] using h, fun j o ri hj => by simp at hj⟩
  | o :: os, [], k, h => .inr ⟨by simpa [lookS] using h, fun j o ri _ hj => by simp at hj⟩
  | o :: os, ri :: rs, k, h => by
    have rest : o.dst ≠ some t → lookS anc keys t init (k + 1) os rs = some av → (∃ j o' ri', (o :: os)[j]? = some o' ∧ (ri :: rs)[j]? = some ri' ∧ o'.dst = some t ∧ anc (k + j) = true ∧ keySub ri'.keys keys = true ∧ av = ri'.r.av) ∨ (init = some av ∧ ∀ (j : Nat) (o' : Oper) (ri' : RI), (o :: os)[j]? = some o' → (ri :: rs)[j]? = some ri' → o'.dst ≠ some t) := fun hne h' => by
      rcases lookS_cases os rs (k + 1) h' with ⟨j, o', ri', h1, h2, h3, h4, h5, h6⟩ | ⟨h1, h2⟩
      · exact .inl ⟨j + 1, o', ri', by simpa using h1, by simpa using h2, h3, by rw [show k + (j + 1) = k + 1 + j by omega]; exact h4, h5, h6⟩
      · refine .inr ⟨h1, fun j o' ri' hj hr => ?_⟩
        cases j with
        | zero => simp only [List.getElem?_cons_zero, Option.some.injEq] at hj; exact hj ▸ hne
        | succ j => exact h2 j o' ri' (by simpa using hj) (by simpa using hr)
    simp only [lookS] at h
    cases hd : o.dst with
    | none =>
      rw [hd] at h
      exact rest (by rw [hd]; simp) h
    | some d =>
      rw [hd] at h
      simp only at h
      cases hb : Nat.beq d t with
      | false =>
        rw [hb] at h
        exact rest (by rw [hd]; intro e; simp only [Option.some.injEq] at e; subst e; simp at hb) h
      | true =>
        rw [hb] at h
        simp only [cond_true] at h
        have hdt := Nat.eq_of_beq_eq_true hb
        subst hdt
        cases hc : (anc k && keySub ri.keys keys) with
        | false => rw [hc] at h; cases h
        | true =>
          rw [hc] at h
          simp only [cond_true, Option.some.injEq] at h
          simp only [Bool.and_eq_true] at hc
          exact .inl ⟨0, o, ri, rfl, rfl, hd, hc.1, hc.2, h.symm⟩

theorem whoW_ok {t : Nat} : ∀ {os : List Oper} {k j : Nat}, whoW t k os = some j → ∃ i o, j = k + i ∧ os[i]? = some o ∧ o.dst = some t
  | [], k, j, h => by cases h
  | o :: os, k, j, h => by
    have rest : whoW t (k + 1) os = some j → ∃ i o', j = k + i ∧ (o :: os)[i]? = some o' ∧ o'.dst = some t := fun h' => by
      obtain ⟨i, o', h1, h2, h3⟩ := whoW_ok h'
      exact ⟨i + 1, o', by omega, by simpa using h2, h3⟩
    simp only [whoW] at h
    cases hd : o.dst with
    | none => rw [hd] at h; exact rest h
    | some d =>
      rw [hd] at h
      simp only at h
      cases hb : Nat.beq d t with
      | false => rw [hb] at h; exact rest h
      | true =>
        rw [hb] at h
        simp only [cond_true, Option.some.injEq] at h
        exact ⟨0, o, by omega, rfl, by rw [hd, Nat.eq_of_beq_eq_true hb]⟩

theorem keySub_ok {rs : List RI} {ks ks' : List (Nat × Bool)} (h : keySub ks ks' = true) (hk : ∀ k ∈ ks', kap rs k) : ∀ k ∈ ks, kap rs k := by
  intro k hk1
  have := List.all_eq_true.1 h k hk1
  obtain ⟨k', h1, h2⟩ := List.any_eq_true.1 this
  simp only [Bool.and_eq_true] at h2
  have e1 := Nat.eq_of_beq_eq_true h2.1
  have e2 : k.2 = k'.2 := by simpa using h2.2
  have : k = k' := Prod.ext e1 e2
  exact this ▸ hk k' h1

section
variable {D : Bool} {P : Program} {l : List Oper} {N : Nat} {sl0 : Nat → Option AV} {fs0 : Nat → Option Fact} {nx : Nat} {anc : Nat → Nat → Bool} {cont : Nat → Nat → Bool} {hs : List (Nat × Hint D P)} {rs : List RI} {ψ IN : Nat → Prop} {w0 : World}

structure Inv2 (P : Program) (l : List Oper) (N : Nat) (sl0 : Nat → Option AV) (fs0 : Nat → Option Fact) (nx : Nat) (rs : List RI) (ψ IN : Nat → Prop) (w0 : World) (S : Nat → Prop) (E : Nat → Bool) (β : Nat → Nat → Value) (φ : Nat → List Nat) (dom : Nat → Prop) (a : Act) (w : World) : Prop where
  exec : ∀ (k : Nat) (ri : RI), rs[k]? = some ri → (E k = true ↔ S k ∧ condI rs ri)
  size : a.tmps.size = N
  defers : a.defers = []
  old : ∀ t av, sl0 t = some av → (∀ (k : Nat) (o : Oper), l[k]? = some o → S k → o.dst ≠ some t) → a.tmps[t]? = some (val β av)
  oldwf : ∀ t av, sl0 t = some av → av.wf dom
  new : ∀ (k : Nat) (o : Oper) (ri : RI) (t : Nat), l[k]? = some o → rs[k]? = some ri → S k → o.dst = some t → condI rs ri → a.tmps[t]? = some (val β ri.r.av)
  newwf : ∀ (k : Nat) (ri : RI), rs[k]? = some ri → S k → condI rs ri → ri.r.av.wf dom
  skip : ∀ (k : Nat) (o : Oper) (ri : RI) (t : Nat), l[k]? = some o → rs[k]? = some ri → S k → o.dst = some t → ¬ condI rs ri → a.tmps[t]? = some undef
  rel : Rel P (fun id => fsP E id 0 rs (fs0 id)) β φ dom ψ IN w0 w
  bound : ∀ id, dom id → id < nx ∨ ∃ k, (S k ∧ k < l.length) ∧ nx + stride * k ≤ id ∧ id < nx + stride * (k + 1)

/-- what the kernel has reckoned of a region -/
structure Reck {D : Bool} (P : Program) (l : List Oper) (N : Nat) (sl0 : Nat → Option AV) (fs0 : Nat → Option Fact) (nx : Nat) (anc : Nat → Nat → Bool) (cont : Nat → Nat → Bool) (hs : List (Nat × Hint D P)) (rs : List RI) : Prop where
  ev : ∀ (i : Nat) (o : Oper), l[i]? = some o → ∃ ri, rs[i]? = some ri ∧ evI P l sl0 fs0 nx anc cont hs (rs.take i) i o = some ri
  chk : ∀ (i : Nat) (o : Oper) (ri : RI), l[i]? = some o → rs[i]? = some ri → chkI l N anc cont i o ri = true
  len : rs.length = l.length
  lt : ∀ i k, anc i k = true → k < i
  cont : ∀ (i j : Nat) (rj : RI) (p : Nat × Option Fact), j ≠ i → rs[j]? = some rj → p ∈ rj.r.sets → anc i j = false → anc j i = false → cont i p.1 = true

theorem fsP_const {E : Nat → Bool} {id : Nat} : ∀ (rs : List RI) (k : Nat) (x : Option Fact), (∀ (j : Nat) (ri : RI), rs[j]? = some ri → E (k + j) = true → setsGet ri.r.sets id = none) → fsP E id k rs x = x
  | [], k, x, _ => rfl
  | ri :: rs, k, x, h => by
    simp only [fsP]
    have e : (bif E k then (setsGet ri.r.sets id).getD x else x) = x := by
      cases hE : E k with
      | true => rw [h 0 ri rfl hE]; rfl
      | false => rfl
    rw [e]
    exact fsP_const rs (k + 1) x fun j rj hj hS => h (j + 1) rj (by simpa using hj) (by rw [show k + (j + 1) = k + 1 + j by omega]; exact hS)

theorem lookF_ok (H : Reck P l N sl0 fs0 nx anc cont hs rs) {S : Nat → Prop} {E : Nat → Bool} (hE : ∀ (k : Nat) (ri : RI), rs[k]? = some ri → (E k = true ↔ S k ∧ condI rs ri)) {i : Nat} (hi : ¬ S i) (hS : ∀ k, anc i k = true → S k) (hS' : ∀ k, S k → anc k i = false) {keys : List (Nat × Bool)} (hk : ∀ key ∈ keys, kap rs key) {id : Nat} (hc : cont i id = false) :
    ∀ (rs2 : List RI) (k : Nat) (acc x : Option Fact), (∀ j, rs2[j]? = rs[k + j]?) → (∀ f, acc = some f → x = some f) → ∀ f, lookF (anc i) keys id acc k (rs2.take (i - k)) = some f → fsP E id k rs2 x = some f := by
  have hno : ∀ (j : Nat) (rj : RI), rs[j]? = some rj → j ≠ i → anc i j = false → S j → setsGet rj.r.sets id = none := by
    intro j rj hj hne h1 hSj
    cases hg : setsGet rj.r.sets id with
    | none => rfl
    | some o =>
      obtain ⟨p, hp, e⟩ := setsGet_mem hg
      have := H.cont i j rj p hne hj hp h1 (hS' j hSj)
      rw [e, hc] at this
      cases this
  intro rs2
  induction rs2 with
  | nil =>
    intro k acc x hsuf hax f h
    simp only [List.take_nil, lookF] at h
    exact hax f h
  | cons ri rs3 ih =>
    intro k acc x hsuf hax f h
    have hri : rs[k]? = some ri := by have := hsuf 0; simpa using this.symm
    by_cases hki : k < i
    · obtain ⟨m, hm⟩ : ∃ m, i - k = m + 1 := ⟨i - k - 1, by omega⟩
      rw [hm, List.take_succ_cons] at h
      simp only [lookF] at h
      simp only [fsP]
      refine ih (k + 1) _ _ (fun j => by have := hsuf (j + 1); rw [List.getElem?_cons_succ] at this; rw [this]; congr 1; omega) ?_ f (by rw [show i - (k + 1) = m by omega]; exact h)
      intro f' hf'
      cases hg : setsGet ri.r.sets id with
      | none =>
        rw [hg] at hf'
        simp only [Option.getD_none]
        have e : (bif E k then x else x) = x := by cases E k <;> rfl
        rw [e]
        exact hax f' hf'
      | some o =>
        rw [hg] at hf'
        simp only at hf'
        cases ha : anc i k with
        | true =>
          rw [ha] at hf'
          simp only [cond_true] at hf'
          cases hks : keySub ri.keys keys with
          | false => rw [hks] at hf'; cases hf'
          | true =>
            rw [hks] at hf'
            simp only [cond_true] at hf'
            rw [(hE k ri hri).2 ⟨hS k ha, keySub_ok hks hk⟩]
            exact hf'
        | false =>
          rw [ha] at hf'
          simp only [cond_false] at hf'
          have hnS : E k = false := by
            cases hEk : E k with
            | false => rfl
            | true =>
              have := hno k ri hri (by omega) ha ((hE k ri hri).1 hEk).1
              rw [this] at hg; cases hg
          rw [hnS]
          exact hax f' hf'
    · have hz : i - k = 0 := by omega
      rw [hz, List.take_zero] at h
      simp only [lookF] at h
      rw [fsP_const (ri :: rs3) k x fun j rj hj hSj => ?_]
      · exact hax f h
      · have hrj : rs[k + j]? = some rj := by rw [← hsuf j]; exact hj
        have hSj := ((hE _ _ hrj).1 hSj).1
        refine hno (k + j) rj hrj (fun e => hi (e ▸ hSj)) ?_ hSj
        cases ha : anc i (k + j) with
        | false => rfl
        | true => have := H.lt _ _ ha; omega

theorem fsP_add (H : Reck P l N sl0 fs0 nx anc cont hs rs) {S : Nat → Prop} {E : Nat → Bool} (hE : ∀ (k : Nat) (ri : RI), rs[k]? = some ri → (E k = true ↔ S k ∧ condI rs ri)) {i : Nat} (hi : ¬ S i) (hS' : ∀ k, S k → anc k i = false) {ri : RI} (hri : rs[i]? = some ri) (hcont : ∀ p ∈ ri.r.sets, cont i p.1 = false) (id : Nat) (b : Bool) :
    ∀ (rs2 : List RI) (k : Nat) (x : Option Fact), k ≤ i → (∀ j, rs2[j]? = rs[k + j]?) → fsP (fun j => bif Nat.beq j i then b else E j) id k rs2 x = (bif b then (setsGet ri.r.sets id).getD (fsP E id k rs2 x) else fsP E id k rs2 x) := by
  have hEi : E i = false := by
    cases h : E i with
    | false => rfl
    | true => exact absurd ((hE i ri hri).1 h).1 hi
  have hne : ∀ k, k ≠ i → (bif Nat.beq k i then b else E k) = E k := by
    intro k hk
    have : Nat.beq k i = false := Bool.eq_false_iff.2 fun h => hk (Nat.eq_of_beq_eq_true h)
    rw [this]; rfl
  have hsame : ∀ (rs2 : List RI) (k : Nat) (x : Option Fact), i < k → fsP (fun j => bif Nat.beq j i then b else E j) id k rs2 x = fsP E id k rs2 x := by
    intro rs2
    induction rs2 with
    | nil => intro k x _; rfl
    | cons r rs3 ih =>
      intro k x hk
      simp only [fsP]
      rw [ih (k + 1) _ (by omega), hne k (by omega)]
  intro rs2
  induction rs2 with
  | nil =>
    intro k x hk hsuf
    have := hsuf (i - k)
    rw [show k + (i - k) = i by omega, hri] at this
    simp at this
  | cons r rs3 ih =>
    intro k x hk hsuf
    have hr : rs[k]? = some r := by have := hsuf 0; simpa using this.symm
    rcases Nat.lt_or_ge k i with hlt | hge
    · simp only [fsP]
      rw [hne k (by omega)]
      exact ih (k + 1) _ (by omega) fun j => by have := hsuf (j + 1); rw [List.getElem?_cons_succ] at this; rw [this]; congr 1; omega
    · obtain rfl : k = i := by omega
      rw [hri] at hr
      cases hr
      simp only [fsP]
      rw [hsame rs3 (k + 1) _ (by omega), hEi]
      have hkk : Nat.beq k k = true := by simp
      simp only [hkk, cond_true, cond_false]
      cases b with
      | false => rfl
      | true =>
        simp only [cond_true]
        cases hg : setsGet ri.r.sets id with
        | none => rfl
        | some o =>
          simp only [Option.getD_some]
          obtain ⟨p, hp, e⟩ := setsGet_mem hg
          have hcp := hcont p hp
          rw [e] at hcp
          refine fsP_const rs3 (k + 1) o fun j rj hj hSj => ?_
          have hrj : rs[k + 1 + j]? = some rj := by
            have := hsuf (j + 1)
            rw [show k + (j + 1) = k + 1 + j by omega] at this
            rw [← this]; simpa using hj
          have hSj := ((hE _ _ hrj).1 hSj).1
          cases hg2 : setsGet rj.r.sets id with
          | none => rfl
          | some o2 =>
            obtain ⟨q, hq, e2⟩ := setsGet_mem hg2
            have := H.cont k (k + 1 + j) rj q (by omega) hrj hq (by
              cases ha : anc k (k + 1 + j) with
              | false => rfl
              | true => have := H.lt _ _ ha; omega) (hS' _ hSj)
            rw [e2, hcp] at this
            cases this

end
end Go.Proofs.YtbhjkcicpobmhaaDoor
