/-
  The machine, twelfth part: a call, as one operation.
-/
import Derived.Test.YtbhjkcicpobmhaaDoorMB
namespace Go.Proofs.YtbhjkcicpobmhaaDoor
open Go.RowKit
set_option linter.unusedVariables false
set_option linter.unusedSimpArgs false

def nodupB : List Nat → Bool
  | [] => true
  | x :: xs => !(xs.any (Nat.beq x)) && nodupB xs
theorem nodupB_ok : ∀ {l : List Nat}, nodupB l = true → l.Nodup
  | [], _ => List.nodup_nil
  | x :: xs, h => by
    simp only [nodupB, Bool.and_eq_true, Bool.not_eq_true'] at h
    refine List.nodup_cons.2 ⟨fun hm => ?_, nodupB_ok h.2⟩
    have : xs.any (Nat.beq x) = true := List.any_eq_true.2 ⟨x, hm, by simp⟩
    rw [this] at h
    cases h.1

def eCall (P : Program) (fs : Nat → Option Fact) (hf : Option (FnH P)) (base : Nat) (sp : Spec) (args : List AV) : Option OpR :=
  match mArgs P fs hf args sp.args with
  | some m => bif nodupB m.cons && m.reads.all (fun x => !(m.cons.any (Nat.beq x))) && Nat.ble (behA (resA base sp.res).2.2 args sp.args).2 (base + stride) then
      some ⟨sp.pre :: m.vcs, (resA base sp.res).1, (m.cons.map fun i => (i, none)) ++ ((resA base sp.res).2.1 ++ (behA (resA base sp.res).2.2 args sp.args).1)⟩ else none
  | none => none

section
variable {P : Program} {fs fsA : Nat → Option Fact} {β : Nat → Nat → Value} {φ : Nat → List Nat} {dom ψ IN : Nat → Prop} {w0 w w' : World} {base : Nat}

theorem mPt_cons (hsub : ∀ id f, fs id = some f → fsA id = some f) (R : Rel P fsA β φ dom ψ IN w0 w) {id : Nat} {T : TypeId} {ds : List Dat} {m : MA} (h : mPt fs id T ds = some m) : ∀ id ∈ m.cons, ∃ g, fsA id = some g ∧ g.mod = true := by
  simp only [mPt] at h
  split at h
  · rename_i T0 cs hid
    cases hT : Nat.beq T T0 with
    | false => rw [hT] at h; cases h
    | true =>
      rw [hT] at h
      simp only [cond_true] at h
      split at h
      · rename_i d0s ids hds
        cases h
        obtain ⟨fp, q1, q2, q3, q4, q5, q6, q7⟩ := ownDats_ok R hsub hds
        intro i hi
        rcases List.mem_cons.1 hi with rfl | hi
        · exact ⟨_, hsub _ _ hid, rfl⟩
        · obtain ⟨V, d, hd⟩ := q5 i hi
          exact ⟨_, hd, rfl⟩
      · cases h
  · cases h
theorem mPtg_cons (hsub : ∀ id f, fs id = some f → fsA id = some f) (R : Rel P fsA β φ dom ψ IN w0 w) {gi id : Nat} {T : TypeId} {x : Value} {d : Dat} {ds : List Dat} {m : MA} (h : mPtg fs gi id T x d ds = some m) : ∀ id ∈ m.cons, ∃ g, fsA id = some g ∧ g.mod = true := by
  simp only [mPtg] at h
  split at h
  · rename_i T0 g cs x1 d1 hid hgi
    cases hT : (Nat.beq T T0 && Nat.beq g gi) with
    | false => rw [hT] at h; cases h
    | true =>
      rw [hT] at h
      simp only [cond_true] at h
      split at h
      · rename_i d0s ids hds
        cases h
        obtain ⟨fp, q1, q2, q3, q4, q5, q6, q7⟩ := ownDats_ok R hsub hds
        intro i hi
        rcases List.mem_cons.1 hi with rfl | hi
        · exact ⟨_, hsub _ _ hid, rfl⟩
        · obtain ⟨V, d, hd⟩ := q5 i hi
          exact ⟨_, hd, rfl⟩
      · cases h
  · cases h
theorem mArg_cons (hsub : ∀ id f, fs id = some f → fsA id = some f) (R : Rel P fsA β φ dom ψ IN w0 w) {hf : Option (FnH P)} {av : AV} {a : Arg} {m : MA} (h : mArg P fs hf av a = some m) : ∀ id ∈ m.cons, ∃ g, fsA id = some g ∧ g.mod = true := by
  have how : ∀ {av : AV} {d : Dat} {m : MA}, mOw fs av d = some m → ∀ id ∈ m.cons, ∃ g, fsA id = some g ∧ g.mod = true := by
    intro av d m h
    simp only [mOw] at h
    split at h
    · rename_i d0 xid hx
      cases h
      cases av with
      | v x =>
        simp only [dstOf] at hx
        cases hxo : x.oneCell' with
        | false => rw [hxo] at hx; cases hx
        | true =>
          simp only [hxo, cond_true, Option.some.injEq, Prod.mk.injEq] at hx
          obtain ⟨rfl, rfl⟩ := hx
          intro id hid; cases hid
      | h X j =>
        cases j with
        | succ j => simp [dstOf] at hx
        | zero =>
          simp only [dstOf] at hx
          split at hx
          · rename_i V d1 hX
            simp only [Option.some.injEq, Prod.mk.injEq] at hx
            obtain ⟨rfl, rfl⟩ := hx
            intro id hid
            simp only [List.mem_singleton] at hid
            exact ⟨_, hid ▸ hsub _ _ hX, rfl⟩
          · cases hx
      | _ => simp [dstOf] at hx
    · cases h
  have hro : ∀ {a : Arg} {m : MA}, mRo fs av a = some m → m.cons = [] := by
    intro a m h
    cases a with
    | r a =>
      cases a with
      | c d =>
        simp only [mRo, mRoC] at h
        split at h
        · cases h; rfl
        · split at h
          · split at h
            · split at h <;> first | (cases h; rfl) | cases h
            · cases h
          · cases h
      | g d => simp only [mRo, mRoG] at h; split at h <;> first | (cases h; rfl) | cases h
    | rp ds =>
      simp only [mRo] at h
      split at h
      · simp only [mRoP] at h
        split at h <;> first | (cases h; rfl) | cases h
      · cases h
    | _ => simp [mRo] at h
  cases a with
  | r a =>
    have := hro (a := .r a) (by simpa [mArg] using h)
    rw [this]; intro id hid; cases hid
  | rp ds =>
    have := hro (a := .rp ds) (by simpa [mArg] using h)
    rw [this]; intro id hid; cases hid
  | pt T ds ds' =>
    simp only [mArg] at h
    split at h
    · exact mPt_cons hsub R h
    · cases h
  | ptg gi T x d ds ds' =>
    simp only [mArg] at h
    split at h
    · exact mPtg_cons hsub R h
    · cases h
  | vl x d =>
    simp only [mArg] at h
    split at h
    · simp only [mVl] at h
      split at h
      · cases h; intro id hid; cases hid
      · cases h
    · cases h
  | ow d d' =>
    cases d' with
    | none => exact how (by simpa [mArg] using h)
    | some d' =>
      simp only [mArg] at h
      split at h
      · exact how h
      · cases h
  | og ds ds' =>
    simp only [mArg] at h
    split at h
    · simp only [mOg] at h
      split at h
      · rename_i d0s ids hds
        cases h
        obtain ⟨fp, q1, q2, q3, q4, q5, q6, q7⟩ := ownDats_ok R hsub hds
        intro i hi
        obtain ⟨V, d, hd⟩ := q5 i hi
        exact ⟨_, hd, rfl⟩
      · cases h
    · cases h
  | ot ds =>
    simp only [mArg] at h
    split at h
    · simp only [mOg] at h
      split at h
      · rename_i d0s ids hds
        cases h
        obtain ⟨fp, q1, q2, q3, q4, q5, q6, q7⟩ := ownDats_ok R hsub hds
        intro i hi
        obtain ⟨V, d, hd⟩ := q5 i hi
        exact ⟨_, hd, rfl⟩
      · cases h
    · cases h
  | fn F D =>
    simp only [mArg] at h
    split at h
    · simp only [mFn] at h
      split at h
      · rename_i hh
        cases hb : (Nat.beq hh.f _ && callable P hh.f && (!D || hh.D)) with
        | false => rw [hb] at h; cases h
        | true =>
          rw [hb] at h
          simp only [cond_true] at h
          split at h
          · cases h; intro id hid; cases hid
          · cases h
      · cases h
    · simp only [mFv] at h
      split at h
      · cases D with
        | true => cases h
        | false => cases h; intro id hid; cases hid
      · cases h
    · cases h

theorem mArgs_cons (hsub : ∀ id f, fs id = some f → fsA id = some f) (R : Rel P fsA β φ dom ψ IN w0 w) {hf : Option (FnH P)} : ∀ {avs : List AV} {as : List Arg} {m : MA}, mArgs P fs hf avs as = some m → ∀ id ∈ m.cons, ∃ g, fsA id = some g ∧ g.mod = true
  | [], [], m, h => by simp only [mArgs, Option.some.injEq] at h; subst h; intro id hid; cases hid
  | av :: avs, a :: as, m, h => by
    simp only [mArgs] at h
    split at h
    · rename_i m1 m2 h1 h2
      cases h
      intro id hid
      rcases List.mem_append.1 hid with hid | hid
      · exact mArg_cons hsub R h1 id hid
      · exact mArgs_cons hsub R h2 id hid
    · cases h
  | [], _ :: _, m, h => by simp [mArgs] at h
  | _ :: _, [], m, h => by simp [mArgs] at h

def PairsOK (dom : Nat → Prop) (β : Nat → Nat → Value) : List AV → List Arg → Prop
  | [], [] => True
  | av :: avs, a :: as => PairOK dom β av a ∧ PairsOK dom β avs as
  | _, _ => False

theorem ogK_eq {fs : Nat → Option Fact} : ∀ {cs : List AV} {ds : List Dat} {ids : List Nat}, ownDats fs cs = some (ds, ids) → ogK cs = ids
  | [], ds, ids, h => by
    simp only [ownDats, Option.some.injEq, Prod.mk.injEq] at h
    obtain ⟨rfl, rfl⟩ := h
    rfl
  | c :: cs, ds, ids, h => by
    cases c with
    | v x =>
      simp only [ownDats] at h
      cases hx : x.oneCell' with
      | false => rw [hx] at h; cases h
      | true =>
        rw [hx] at h
        simp only [cond_true] at h
        split at h
        · rename_i ds' ids' h'
          simp only [Option.some.injEq, Prod.mk.injEq] at h
          obtain ⟨rfl, rfl⟩ := h
          simp only [ogK]
          exact ogK_eq h'
        · cases h
    | h X j =>
      cases j with
      | succ j => simp [ownDats] at h
      | zero =>
        simp only [ownDats] at h
        split at h
        · split at h
          · rename_i ds' ids' h'
            cases hb : ids'.any (Nat.beq X) with
            | true => rw [hb] at h; cases h
            | false =>
              rw [hb] at h
              simp only [cond_false, Option.some.injEq, Prod.mk.injEq] at h
              obtain ⟨rfl, rfl⟩ := h
              simp only [ogK]
              rw [ogK_eq h']
          · cases h
        · cases h
    | cl f cap =>
      cases cap with
      | cons c cs => simp [ownDats] at h
      | nil =>
        simp only [ownDats] at h
        split at h
        · rename_i ds' ids' h'
          simp only [Option.some.injEq, Prod.mk.injEq] at h
          obtain ⟨rfl, rfl⟩ := h
          simp only [ogK]
          exact ogK_eq h'
        · cases h
    | _ => simp [ownDats] at h

/-- the items that come back under their old number -/
def keyOf : AV → Arg → List Nat
  | .p id _, .pt _ _ _ => [id]
  | .p id _, .ptg _ _ _ _ _ _ => [id]
  | .h X _, .ow _ (some _) => [X]
  | .ag cs, .og _ _ => ogK cs
  | _, _ => []
def keysOf : List AV → List Arg → List Nat
  | av :: avs, a :: as => keyOf av a ++ keysOf avs as
  | _, _ => []

theorem mPt_key {id : Nat} {T : TypeId} {ds : List Dat} {m : MA} (h : mPt fs id T ds = some m) : List.Sublist [id] m.cons := by
  simp only [mPt] at h
  split at h
  · rename_i T0 cs hid
    cases hT : Nat.beq T T0 with
    | false => rw [hT] at h; cases h
    | true =>
      rw [hT] at h
      simp only [cond_true] at h
      split at h
      · cases h; simp
      · cases h
  · cases h
theorem mPtg_key {gi id : Nat} {T : TypeId} {x : Value} {d : Dat} {ds : List Dat} {m : MA} (h : mPtg fs gi id T x d ds = some m) : List.Sublist [id] m.cons := by
  simp only [mPtg] at h
  split at h
  · rename_i T0 g cs x1 d1 hid hgi
    cases hT : (Nat.beq T T0 && Nat.beq g gi) with
    | false => rw [hT] at h; cases h
    | true =>
      rw [hT] at h
      simp only [cond_true] at h
      split at h
      · cases h; simp
      · cases h
  · cases h
theorem mArg_key {hf : Option (FnH P)} {av : AV} {a : Arg} {m : MA} (h : mArg P fs hf av a = some m) : (keyOf av a).Sublist m.cons := by
  cases a with
  | og ds ds' =>
    simp only [mArg] at h
    split at h
    · rename_i cs
      simp only [mOg] at h
      split at h
      · rename_i d0s ids hds
        cases h
        simp only [keyOf]
        rw [ogK_eq hds]
        exact List.Sublist.refl _
      · cases h
    · cases h
  | pt T ds ds' =>
    simp only [mArg] at h
    split at h
    · exact mPt_key h
    · cases h
  | ptg gi T x d ds ds' =>
    simp only [mArg] at h
    split at h
    · exact mPtg_key h
    · cases h
  | vl x d => cases av <;> simp [keyOf]
  | ow d d' =>
    cases d' with
    | none => cases av <;> simp [keyOf]
    | some d' =>
      simp only [mArg] at h
      split at h
      · rename_i X
        simp only [mOw, dstOf] at h
        split at h
        · rename_i d0 xid hx
          cases h
          split at hx
          · simp only [Option.some.injEq, Prod.mk.injEq] at hx
            obtain ⟨_, rfl⟩ := hx
            simp [keyOf]
          · cases hx
        · cases h
      · cases h
  | r a => cases av <;> simp [keyOf]
  | ot ds => cases av <;> simp [keyOf]
  | rp ds => cases av <;> simp [keyOf]
  | fn F D => cases av <;> simp [keyOf]

theorem mArgs_ok (R : Rel P fsA β φ dom ψ IN w0 w) (hsub : ∀ id f, fs id = some f → fsA id = some f) {hf : Option (FnH P)} {CONS : List Nat} (hC : ∀ id ∈ CONS, ∃ g, fsA id = some g ∧ g.mod = true) : ∀ {avs : List AV} {as : List Arg} {m : MA}, mArgs P fs hf avs as = some m → AllP m.vcs → (∀ X ∈ m.reads, X ∉ CONS) → m.cons.Nodup →
    ∃ fp, ArgsOK P (Outs φ w CONS) w as (vals β avs) fp ∧ (∀ b, b ∈ fp ↔ ∃ id ∈ m.cons, b ∈ φ id) ∧ AVs.wf dom avs ∧ PairsOK dom β avs as ∧ fp.Nodup ∧ (keysOf avs as).Sublist m.cons
  | [], [], m, h, hv, hn, hnd => by
    simp only [mArgs, Option.some.injEq] at h; subst h
    exact ⟨[], ⟨rfl, rfl⟩, fun b => ⟨fun h => by (cases h), fun ⟨i, h, _⟩ => by (cases h)⟩, trivial, trivial, List.nodup_nil, List.Sublist.refl _⟩
  | av :: avs, a :: as, m, h, hv, hn, hnd => by
    simp only [mArgs] at h
    split at h
    · rename_i m1 m2 h1 h2
      cases h
      obtain ⟨v1, v2⟩ := AllP.app hv
      obtain ⟨n1, n2, n3⟩ := List.nodup_append.1 hnd
      obtain ⟨f, k1, k2, k3, k4, k5⟩ := mArg_ok R hsub hC h1 v1 (fun X hX => hn X (List.mem_append_left _ hX)) n1
      obtain ⟨g, q1, q2, q3, q4, q5, q6⟩ := mArgs_ok R hsub hC h2 v2 (fun X hX => hn X (List.mem_append_right _ hX)) n2
      have hnd' : (f ++ g).Nodup := by
        refine List.nodup_append.2 ⟨k5, q5, fun b hb b' hb' e => ?_⟩
        subst e
        obtain ⟨i, hi, hbi⟩ := (k2 b).1 hb
        obtain ⟨j, hj, hbj⟩ := (q2 b).1 hb'
        obtain ⟨g1, e1, e2⟩ := mArg_cons hsub R h1 i hi
        obtain ⟨g2, e3, e4⟩ := mArgs_cons hsub R h2 j hj
        exact R.dis i j g1 g2 e1 e3 e2 e4 (fun e => n3 i hi j hj e) b hbi hbj
      refine ⟨f ++ g, ⟨_, _, f, g, rfl, k1, q1, rfl, hnd'⟩, fun b => ⟨fun hb => ?_, fun ⟨i, hi, hbi⟩ => ?_⟩, ⟨k3, q3⟩, ⟨k4, q4⟩, hnd', List.Sublist.append (mArg_key h1) q6⟩
      · rcases List.mem_append.1 hb with hb | hb
        · obtain ⟨i, hi, hbi⟩ := (k2 b).1 hb
          exact ⟨i, List.mem_append_left _ hi, hbi⟩
        · obtain ⟨i, hi, hbi⟩ := (q2 b).1 hb
          exact ⟨i, List.mem_append_right _ hi, hbi⟩
      · rcases List.mem_append.1 hi with hi | hi
        · exact List.mem_append_left _ ((k2 b).2 ⟨i, hi, hbi⟩)
        · exact List.mem_append_right _ ((q2 b).2 ⟨i, hi, hbi⟩)
    · cases h
  | [], _ :: _, m, h, _, _, _ => by simp [mArgs] at h
  | _ :: _, [], m, h, _, _, _ => by simp [mArgs] at h

theorem RL.re {L L' : List Nat} (H : RL P fs β φ dom ψ IN w0 w L) (hnd : L'.Nodup) (hs : ∀ b ∈ L', b ∈ L) : RL P fs β φ dom ψ IN w0 w L' := ⟨H.rel, hnd, fun b hb => H.loose.2 b (hs b hb)⟩

theorem up_same {α : Type} (f : Nat → α) (i : Nat) : up f i (f i) = f := funext fun j => by
  by_cases h : j = i
  · subst h; exact up_self _ _ _
  · exact up_ne _ _ _ h

theorem cellsB_keys : ∀ (ds : List Dat) (n : Nat) (p : Nat × Option Fact), p ∈ (cellsB n ds).2.1 → n ≤ p.1 ∧ p.1 < (cellsB n ds).2.2
  | [], n, p, h => by cases h
  | .v x :: ds, n, p, h => cellsB_keys ds n p h
  | @Dat.l _ _ sz enc xs :: ds, n, p, h => by
    have hle := cellsB_le ds (n + 1)
    simp only [cellsB] at h ⊢
    rcases List.mem_cons.1 h with rfl | h
    · exact ⟨Nat.le_refl _, hle⟩
    · have := cellsB_keys ds (n + 1) p h
      exact ⟨by omega, this.2⟩
  | .any :: ds, n, p, h => by
    have hle := cellsB_le ds (n + 1)
    simp only [cellsB] at h ⊢
    rcases List.mem_cons.1 h with rfl | h
    · exact ⟨Nat.le_refl _, hle⟩
    · have := cellsB_keys ds (n + 1) p h
      exact ⟨by omega, this.2⟩
  | .x XX :: ds, n, p, h => by
    have hle := cellsB_le ds (n + 1)
    simp only [cellsB] at h ⊢
    rcases List.mem_cons.1 h with rfl | h
    · exact ⟨Nat.le_refl _, hle⟩
    · have := cellsB_keys ds (n + 1) p h
      exact ⟨by omega, this.2⟩
  | .b DD :: ds, n, p, h => by
    have hle := cellsB_le ds (n + 1)
    simp only [cellsB] at h ⊢
    rcases List.mem_cons.1 h with rfl | h
    · exact ⟨Nat.le_refl _, hle⟩
    · have := cellsB_keys ds (n + 1) p h
      exact ⟨by omega, this.2⟩
mutual
theorem resA_keys : ∀ (r : RT) (n : Nat) (p : Nat × Option Fact), p ∈ (resA n r).2.1 → n ≤ p.1 ∧ p.1 < (resA n r).2.2
  | .v x, n, p, h => by cases h
  | .ow d, n, p, h => by
    simp only [resA, List.mem_singleton] at h
    subst h
    exact ⟨Nat.le_refl _, Nat.lt_succ_self _⟩
  | .ag l, n, p, h => resAs_keys l n p h
  | .tu l, n, p, h => resAs_keys l n p h
  | .cl _ l, n, p, h => resAs_keys l n p h
  | .pt T ds, n, p, h => by
    simp only [resA] at h ⊢
    rcases List.mem_append.1 h with h | h
    · have := cellsB_keys ds n p h
      exact ⟨this.1, by omega⟩
    · simp only [List.mem_singleton] at h
      subst h
      exact ⟨cellsB_le ds n, Nat.lt_succ_self _⟩
theorem resAs_keys : ∀ (l : List RT) (n : Nat) (p : Nat × Option Fact), p ∈ (resAs n l).2.1 → n ≤ p.1 ∧ p.1 < (resAs n l).2.2
  | [], n, p, h => by cases h
  | r :: rs, n, p, h => by
    have e1 := resA_le r n
    have e2 := resAs_le rs (resA n r).2.2
    simp only [resAs] at h ⊢
    rcases List.mem_append.1 h with h | h
    · have := resA_keys r n p h
      exact ⟨this.1, by omega⟩
    · have := resAs_keys rs _ p h
      exact ⟨by omega, this.2⟩
end

theorem fupds_other (fs : Nat → Option Fact) : ∀ (l : List (Nat × Option Fact)) (i : Nat), (∀ p ∈ l, p.1 ≠ i) → fupds fs l i = fs i
  | [], i, _ => rfl
  | (j, o) :: l, i, h => by
    simp only [fupds]
    rw [fupds_other _ l i fun p hp => h p (List.mem_cons_of_mem _ hp), fupd_eq, if_neg fun e => h _ List.mem_cons_self e.symm]

theorem ogB_le : ∀ (cs : List AV) (ds : List Dat) (n : Nat), n ≤ (ogB n cs ds).2
  | [], ds, n => by cases ds <;> exact Nat.le_refl _
  | c :: cs, [], n => by cases c <;> first | exact Nat.le_refl _ | (rename_i X j; cases j <;> exact Nat.le_refl _)
  | c :: cs, d :: ds, n => by
    cases c with
    | h X j =>
      cases j with
      | zero => exact Nat.le_trans (Nat.le_succ n) (ogB_le cs ds (n + 1))
      | succ j => exact ogB_le cs ds n
    | _ => exact ogB_le cs ds n

theorem behA_le : ∀ (avs : List AV) (as : List Arg) (n : Nat), n ≤ (behA n avs as).2
  | [], as, n => by rw [show behA n [] as = ([], n) by (cases as <;> rfl)]; exact Nat.le_refl _
  | av :: avs, [], n => by rw [show behA n (av :: avs) [] = ([], n) by (cases av <;> first | rfl | (rename_i id j; cases j <;> rfl))]; exact Nat.le_refl _
  | av :: avs, a :: as, n => by
    have ih := behA_le avs as
    unfold behA
    split
    · rename_i e1 e2
      cases e1; cases e2
      exact Nat.le_trans (cellsB_le _ _) (ih _)
    · rename_i e1 e2
      cases e1; cases e2
      exact Nat.le_trans (cellsB_le _ _) (ih _)
    · rename_i e1 e2
      cases e1; cases e2
      exact Nat.le_trans (Nat.le_succ _) (ih _)
    · rename_i e1 e2
      cases e1; cases e2
      exact Nat.le_trans (ogB_le _ _ _) (ih _)
    · rename_i e1 e2
      cases e1; cases e2
      exact ih _
    · exact Nat.le_refl _

theorem PairsOK.congr {β' : Nat → Nat → Value} {dom' : Nat → Prop} (h : ∀ id, dom id → dom' id ∧ β' id = β id) : ∀ {avs : List AV} {as : List Arg}, PairsOK dom β avs as → AVs.wf dom avs → PairsOK dom' β' avs as
  | [], [], _, _ => trivial
  | av :: avs, a :: as, hp, hw => by
    refine ⟨?_, PairsOK.congr h hp.2 hw.2⟩
    have h1 := hp.1
    cases a with
    | pt T ds ds' =>
      obtain ⟨id, rfl, b, hb⟩ := h1
      exact ⟨id, rfl, b, by rw [(h id hw.1).2]; exact hb⟩
    | ptg gi T x d ds ds' =>
      obtain ⟨id, rfl, ⟨b, hb⟩, h2, h3, h4⟩ := h1
      exact ⟨id, rfl, ⟨b, by rw [(h id hw.1).2]; exact hb⟩, (h gi h2).1, by rw [(h gi h2).2]; exact h3, h4⟩
    | ow d d' => cases d' <;> exact h1
    | _ => exact h1
  | [], _ :: _, hp, _ => hp.elim
  | _ :: _, [], hp, _ => hp.elim

theorem ogB_keys : ∀ (cs : List AV) (ds : List Dat) (n : Nat) (p : Nat × Option Fact), p ∈ (ogB n cs ds).1 → p.1 ∈ ogK cs
  | [], ds, n, p, h => by cases ds <;> cases h
  | c :: cs, [], n, p, h => by cases c <;> first | cases h | (rename_i X j; cases j <;> cases h)
  | c :: cs, d :: ds, n, p, h => by
    cases c with
    | h X j =>
      cases j with
      | zero =>
        rcases List.mem_cons.1 (show p ∈ (X, some (.own n d)) :: (ogB (n + 1) cs ds).1 from h) with rfl | h
        · exact List.mem_cons_self
        · exact List.mem_cons_of_mem X (ogB_keys cs ds (n + 1) p h)
      | succ j => exact ogB_keys cs ds n p h
    | _ => exact ogB_keys cs ds n p h

theorem ogB_ok : ∀ (cs : List AV) (ds : List Dat) (n : Nat) (fs : Nat → Option Fact) (φ : Nat → List Nat) (dom : Nat → Prop) (f L : List Nat), RL P fs β φ dom ψ IN w0 w (f ++ L) → (∀ id, n ≤ id → id < (ogB n cs ds).2 → ¬ dom id) → AVs.wf dom cs → OwVs w ds (vals β cs) f → (ogK cs).Nodup → (∀ k ∈ ogK cs, fs k = none ∧ dom k) →
    ∃ φ' dom', RL P (fupds fs (ogB n cs ds).1) β φ' dom' ψ IN w0 w L ∧ Ext β β dom dom' n (ogB n cs ds).2
  | [], [], n, fs, φ, dom, f, L, H, hn, hw, ho, hk, hk0 => by
    obtain ⟨_, rfl⟩ := ho
    exact ⟨φ, dom, H, Ext.refl _ _ _⟩
  | [], d :: ds, n, fs, φ, dom, f, L, H, hn, hw, ho, hk, hk0 => by
    obtain ⟨u, us, _, _, e, _⟩ := ho
    simp [vals] at e
  | c :: cs, [], n, fs, φ, dom, f, L, H, hn, hw, ho, hk, hk0 => by
    obtain ⟨e, _⟩ := ho
    simp [vals] at e
  | c :: cs, d :: ds, n, fs, φ, dom, f, L, H, hn, hw, ho, hk, hk0 => by
    obtain ⟨u, us, f1, g, e, h1, h2, rfl, h3⟩ := ho
    simp only [vals, List.cons.injEq] at e
    obtain ⟨rfl, rfl⟩ := e
    have skip : ogB n (c :: cs) (d :: ds) = ogB n cs ds → ogK (c :: cs) = ogK cs → ∃ φ' dom', RL P (fupds fs (ogB n (c :: cs) (d :: ds)).1) β φ' dom' ψ IN w0 w L ∧ Ext β β dom dom' n (ogB n (c :: cs) (d :: ds)).2 := by
      intro hb hkk
      rw [hb] at hn ⊢
      rw [hkk] at hk hk0
      exact ogB_ok cs ds n fs φ dom g L (H.re (by
        have := H.loose.1
        rw [List.append_assoc] at this
        exact (List.nodup_append.1 this).2.1) fun b hb => by
          rw [List.append_assoc]; exact List.mem_append_right _ hb) hn hw.2 h2 hk hk0
    cases c with
    | h X j =>
      cases j with
      | succ j => exact skip rfl rfl
      | zero =>
        have hb : ogB n (.h X 0 :: cs) (d :: ds) = ((X, some (.own n d)) :: (ogB (n + 1) cs ds).1, (ogB (n + 1) cs ds).2) := rfl
        rw [hb] at hn ⊢
        have hle := ogB_le cs ds (n + 1)
        have hnn := hn n (Nat.le_refl _) hle
        have hXd : dom X := hw.1
        have hkc : (X :: ogK cs).Nodup := hk
        have hk0' : ∀ k ∈ X :: ogK cs, fs k = none ∧ dom k := hk0
        have ho : OwV w d (β X 0) f1 := h1
        rw [List.append_assoc] at H
        have H2 := H.add X (.own n d) (β X) (fun i => dom i ∨ i = n) rfl (hk0' X List.mem_cons_self).1 (fun _ => rfl) (H.rel.one X hXd) (fun _ h => .inl h) (.inl hXd) ⟨.inr rfl, by rw [up_self, up_self]; exact ho⟩ (fun V d e => by cases e; exact hnn)
        rw [up_same] at H2
        obtain ⟨φ', dom', k1, k2⟩ := ogB_ok cs ds (n + 1) _ (up φ X f1) (fun i => dom i ∨ i = n) g L H2 (fun id h h' hd => by
          rcases hd with hd | rfl
          · exact hn id (by omega) h' hd
          · omega) (AVs.wf_mono (fun _ h => .inl h) _ hw.2) h2 (List.nodup_cons.1 hkc).2 (fun k hkk => by
          have hne : k ≠ X := fun e => (List.nodup_cons.1 hkc).1 (e ▸ hkk)
          rw [fupd_eq, if_neg hne]
          have := hk0' k (List.mem_cons_of_mem X hkk)
          exact ⟨this.1, .inl this.2⟩)
        exact ⟨φ', dom', k1, ⟨by omega, fun id h => k2.old id (.inl h), fun id h => by
          rcases k2.new id h with (h | rfl) | h
          · exact .inl h
          · exact .inr ⟨Nat.le_refl _, hle⟩
          · exact .inr ⟨by omega, h.2⟩⟩⟩
    | _ => exact skip rfl rfl

theorem behA_ok : ∀ (avs : List AV) (as : List Arg) (n : Nat) (fs : Nat → Option Fact) (β : Nat → Nat → Value) (φ : Nat → List Nat) (dom : Nat → Prop) (f L : List Nat), RL P fs β φ dom ψ IN w0 w (f ++ L) → (∀ id, n ≤ id → id < (behA n avs as).2 → ¬ dom id) → PairsOK dom β avs as → AVs.wf dom avs → BehsOK w as (vals β avs) f →
    (keysOf avs as).Nodup → (∀ k ∈ keysOf avs as, fs k = none ∧ dom k) →
    ∃ β' φ' dom', RL P (fupds fs (behA n avs as).1) β' φ' dom' ψ IN w0 w L ∧ Ext β β' dom dom' n (behA n avs as).2
  | [], [], n, fs, β, φ, dom, f, L, H, hn, hp, hw, hB, hk, hk0 => by
    have : f = [] := hB
    subst this
    exact ⟨β, φ, dom, H, Ext.refl _ _ _⟩
  | [], _ :: _, n, fs, β, φ, dom, f, L, H, hn, hp, hw, hB, hk, hk0 => hp.elim
  | _ :: _, [], n, fs, β, φ, dom, f, L, H, hn, hp, hw, hB, hk, hk0 => hp.elim
  | av :: avs, a :: as, n, fs, β, φ, dom, f, L, H, hn, hp, hw, hB, hk, hk0 => by
    obtain ⟨u, us, f1, g, e, h1, h2, rfl⟩ := hB
    simp only [vals, List.cons.injEq] at e
    obtain ⟨rfl, rfl⟩ := e
    have skip : (∀ (id : Nat) T ds ds', av = .p id 0 → a = .pt T ds ds' → False) → (∀ (id : Nat) gi T x d ds ds', av = .p id 0 → a = .ptg gi T x d ds ds' → False) → (∀ X d d', av = .h X 0 → a = .ow d (some d') → False) → (∀ cs ds ds', av = .ag cs → a = .og ds ds' → False) → f1 = [] →
        ∃ β' φ' dom', RL P (fupds fs (behA n (av :: avs) (a :: as)).1) β' φ' dom' ψ IN w0 w L ∧ Ext β β' dom dom' n (behA n (av :: avs) (a :: as)).2 := by
      intro c1 c1' c2 c3 hf1
      subst hf1
      have hb : behA n (av :: avs) (a :: as) = behA n avs as := by
        conv => lhs; unfold behA
        split
        · rename_i e1 e2; cases e1; cases e2; exact (c1 _ _ _ _ rfl rfl).elim
        · rename_i e1 e2; cases e1; cases e2; exact (c1' _ _ _ _ _ _ _ rfl rfl).elim
        · rename_i e1 e2; cases e1; cases e2; exact (c2 _ _ _ rfl rfl).elim
        · rename_i e1 e2; cases e1; cases e2; exact (c3 _ _ _ rfl rfl).elim
        · rename_i e1 e2; cases e1; cases e2; rfl
        · rename_i hx; exact (hx _ _ _ _ rfl rfl).elim
      rw [hb] at hn ⊢
      have hks : (keysOf avs as).Sublist (keysOf (av :: avs) (a :: as)) := by simp only [keysOf]; exact List.sublist_append_right _ _
      exact behA_ok avs as n fs β φ dom g L (by simpa using H) hn hp.2 hw.2 h2 (hk.sublist hks) fun k hkk => hk0 k (hks.subset hkk)
    cases a with
    | vl x d => exact skip (fun _ _ _ _ _ e => by cases e) (fun _ _ _ _ _ _ _ _ e => by cases e) (fun _ _ _ _ e => by cases e) (fun _ _ _ _ e => by cases e) h1
    | ot ds => exact skip (fun _ _ _ _ _ e => by cases e) (fun _ _ _ _ _ _ _ _ e => by cases e) (fun _ _ _ _ e => by cases e) (fun _ _ _ _ e => by cases e) h1
    | r a => exact skip (fun _ _ _ _ _ e => by cases e) (fun _ _ _ _ _ _ _ _ e => by cases e) (fun _ _ _ _ e => by cases e) (fun _ _ _ _ e => by cases e) h1
    | rp ds => exact skip (fun _ _ _ _ _ e => by cases e) (fun _ _ _ _ _ _ _ _ e => by cases e) (fun _ _ _ _ e => by cases e) (fun _ _ _ _ e => by cases e) h1
    | fn F D => exact skip (fun _ _ _ _ _ e => by cases e) (fun _ _ _ _ _ _ _ _ e => by cases e) (fun _ _ _ _ e => by cases e) (fun _ _ _ _ e => by cases e) h1
    | ow d d' =>
      cases d' with
      | none => exact skip (fun _ _ _ _ _ e => by cases e) (fun _ _ _ _ _ _ _ _ e => by cases e) (fun _ _ _ _ e => by cases e) (fun _ _ _ _ e => by cases e) h1
      | some d' =>
        obtain ⟨⟨X, rfl⟩, hp2⟩ := hp
        have hb : behA n (.h X 0 :: avs) (.ow d (some d') :: as) = (((X, some (.own n d')) :: (behA (n + 1) avs as).1), (behA (n + 1) avs as).2) := rfl
        rw [hb] at hn ⊢
        have hle := behA_le avs as (n + 1)
        have hnn := hn n (Nat.le_refl _) hle
        have hXd : dom X := hw.1
        have hXk : X ∈ keysOf (.h X 0 :: avs) (.ow d (some d') :: as) := by simp [keysOf, keyOf]
        have ho : OwV w d' (β X 0) f1 := h1
        rw [List.append_assoc] at H
        have H2 := H.add X (.own n d') (β X) (fun i => dom i ∨ i = n) rfl (hk0 X hXk).1 (fun _ => rfl) (H.rel.one X hXd) (fun _ h => .inl h) (.inl hXd) ⟨.inr rfl, by rw [up_self, up_self]; exact ho⟩ (fun V d e => by cases e; exact hnn)
        rw [up_same] at H2
        have hXks : X ∉ keysOf avs as := by
          have : (X :: keysOf avs as).Nodup := hk
          exact (List.nodup_cons.1 this).1
        obtain ⟨β', φ', dom', k1, k2⟩ := behA_ok avs as (n + 1) _ β (up φ X f1) (fun i => dom i ∨ i = n) g L H2 (fun id h h' hd => by
          rcases hd with hd | rfl
          · exact hn id (by omega) h' hd
          · omega) (PairsOK.congr (fun _ h => ⟨.inl h, rfl⟩) hp2 hw.2) (AVs.wf_mono (fun _ h => .inl h) _ hw.2) h2 (List.nodup_cons.1 (show (X :: keysOf avs as).Nodup from hk)).2 (fun k hkk => by
          have hne : k ≠ X := fun e => hXks (e ▸ hkk)
          rw [fupd_eq, if_neg hne]
          have := hk0 k (List.mem_cons_of_mem X hkk)
          exact ⟨this.1, .inl this.2⟩)
        exact ⟨β', φ', dom', k1, ⟨by omega, fun id h => k2.old id (.inl h), fun id h => by
          rcases k2.new id h with (h | rfl) | h
          · exact .inl h
          · exact .inr ⟨Nat.le_refl _, hle⟩
          · exact .inr ⟨by omega, h.2⟩⟩⟩
    | og ds ds' =>
      obtain ⟨⟨cs, rfl⟩, hp2⟩ := hp
      have hb : behA n (.ag cs :: avs) (.og ds ds' :: as) = ((ogB n cs ds').1 ++ (behA (ogB n cs ds').2 avs as).1, (behA (ogB n cs ds').2 avs as).2) := rfl
      rw [hb] at hn ⊢
      have hle := behA_le avs as (ogB n cs ds').2
      have hle0 := ogB_le cs ds' n
      have hks : (ogK cs ++ keysOf avs as).Nodup := hk
      have hk0' : ∀ k ∈ ogK cs ++ keysOf avs as, fs k = none ∧ dom k := hk0
      obtain ⟨n1, n2, n3⟩ := List.nodup_append.1 hks
      obtain ⟨vs, e1, e2⟩ := h1
      have e1' : vals β cs = vs := by
        have : Value.agg (vals β cs).toArray = .agg vs.toArray := e1
        simpa using this
      subst e1'
      rw [List.append_assoc] at H
      obtain ⟨φ1, dom1, k1, k2⟩ := ogB_ok cs ds' n fs φ dom f1 (g ++ L) H (fun id h h' => hn id h (Nat.lt_of_lt_of_le h' hle)) hw.1 e2 n1 fun k hkk => hk0' k (List.mem_append_left _ hkk)
      obtain ⟨β', φ', dom', m1, m2⟩ := behA_ok avs as (ogB n cs ds').2 _ β φ1 dom1 g L k1 (fun id h h' hd => by
        rcases k2.new id hd with h3 | h3
        · exact hn id (Nat.le_trans hle0 h) h' h3
        · omega) (PairsOK.congr (fun i h => k2.old i h) hp2 hw.2) (AVs.wf_mono (fun i h => (k2.old i h).1) _ hw.2) h2 n2 (fun k hkk => by
        obtain ⟨hk1, hdk⟩ := hk0' k (List.mem_append_right _ hkk)
        rw [fupds_other _ _ _ fun p hp e => n3 p.1 (ogB_keys cs ds' n p hp) k hkk e]
        exact ⟨hk1, (k2.old k hdk).1⟩)
      refine ⟨β', φ', dom', ?_, k2.trans m2⟩
      rw [fupds_app]
      exact m1
    | pt T ds ds' =>
      obtain ⟨⟨X, rfl, b0, hb0⟩, hp2⟩ := hp
      have hb : behA n (.p X 0 :: avs) (.pt T ds ds' :: as) = ((cellsB n ds').2.1 ++ (X, some (.box T (cellsB n ds').1)) :: (behA (cellsB n ds').2.2 avs as).1, (behA (cellsB n ds').2.2 avs as).2) := rfl
      rw [hb] at hn ⊢
      have hle := behA_le avs as (cellsB n ds').2.2
      have hle0 := cellsB_le ds' n
      have hXd : dom X := hw.1
      have hXk : X ∈ keysOf (.p X 0 :: avs) (.pt T ds ds' :: as) := by simp [keysOf, keyOf]
      have hks : (X :: keysOf avs as).Nodup := hk
      have hXks := (List.nodup_cons.1 hks).1
      obtain ⟨b, vs, f2, e1, e2, e3, rfl⟩ := h1
      have hnd := H.loose.1
      have H1 : RL P fs β φ dom ψ IN w0 w (f2 ++ (b :: (g ++ L))) := H.re (by
        refine (List.Perm.nodup_iff ?_).1 hnd
        simp only [List.cons_append, List.append_assoc]
        exact List.perm_middle.symm) (fun x hx => by
        simp only [List.mem_append, List.mem_cons] at hx ⊢
        rcases hx with h | h | h | h
        · exact .inl (.inl (.inr h))
        · exact .inl (.inl (.inl h))
        · exact .inl (.inr h)
        · exact .inr h)
      obtain ⟨β1, φ1, dom1, k1, k2, k3, k4, k5⟩ := cellsB_ok ds' n fs β φ dom vs f2 _ H1 (fun id h h' => hn id h (Nat.lt_of_lt_of_le h' hle)) e3
      obtain ⟨hX1, hβX⟩ := k2.old X hXd
      have hptr : β1 X 0 = .pointer (some ⟨b, 0, none⟩) := by
        rw [hβX]
        have : padd (β X 0) 0 = .pointer (some ⟨b, 0, none⟩) := e1
        rw [hb0] at this ⊢
        simpa [padd] using this
      have hX0 : fupds fs (cellsB n ds').2.1 X = none := by
        rw [fupds_other _ _ _ fun p hp e => ?_]
        · exact (hk0 X hXk).1
        · have := cellsB_keys ds' n p hp
          exact hn p.1 this.1 (Nat.lt_of_lt_of_le this.2 hle) (e ▸ hXd)
      have H2 := RL.add (f := [b]) (L := g ++ L) k1 X (.box T (cellsB n ds').1) (β1 X) dom1 rfl hX0 (fun _ => rfl) (k1.rel.one X hX1) (fun _ h => h) hX1 ⟨⟨k4, k5⟩, b, by rw [up_self]; exact hptr, by rw [up_same, k3]; exact e2, up_self _ _ _⟩ (fun V d e => by cases e)
      rw [up_same] at H2
      obtain ⟨β', φ', dom', m1, m2⟩ := behA_ok avs as (cellsB n ds').2.2 _ β1 (up φ1 X [b]) dom1 g L H2 (fun id h h' hd => by
        rcases k2.new id hd with h3 | h3
        · exact hn id (Nat.le_trans hle0 h) h' h3
        · omega) (PairsOK.congr (fun i h => k2.old i h) hp2 hw.2) (AVs.wf_mono (fun i h => (k2.old i h).1) _ hw.2) (by rw [vals_congr (β := β) (dom := dom) (fun i h => (k2.old i h).2) _ hw.2]; exact h2) (List.nodup_cons.1 hks).2 (fun k hkk => by
        have hne : k ≠ X := fun e => hXks (e ▸ hkk)
        obtain ⟨hk1, hdk⟩ := hk0 k (List.mem_cons_of_mem X hkk)
        rw [fupd_eq, if_neg hne, fupds_other _ _ _ fun p hp e => ?_]
        · exact ⟨hk1, (k2.old k hdk).1⟩
        · have := cellsB_keys ds' n p hp
          exact hn p.1 this.1 (Nat.lt_of_lt_of_le this.2 hle) (e ▸ hdk))
      refine ⟨β', φ', dom', ?_, k2.trans m2⟩
      rw [fupds_app]
      exact m1
    | ptg gi T x0 d0 ds ds' =>
      obtain ⟨⟨X, rfl, ⟨b0, hb0⟩, hgd, hgx, hgo⟩, hp2⟩ := hp
      have hb : behA n (.p X 0 :: avs) (.ptg gi T x0 d0 ds ds' :: as) = ((cellsB n ds').2.1 ++ (X, some (.box T (.h gi 0 :: (cellsB n ds').1))) :: (behA (cellsB n ds').2.2 avs as).1, (behA (cellsB n ds').2.2 avs as).2) := rfl
      rw [hb] at hn ⊢
      have hle := behA_le avs as (cellsB n ds').2.2
      have hle0 := cellsB_le ds' n
      have hXd : dom X := hw.1
      have hXk : X ∈ keysOf (.p X 0 :: avs) (.ptg gi T x0 d0 ds ds' :: as) := by simp [keysOf, keyOf]
      have hks : (X :: keysOf avs as).Nodup := hk
      have hXks := (List.nodup_cons.1 hks).1
      obtain ⟨b, vs, f2, e1, e2, e3, rfl⟩ := h1
      have hnd := H.loose.1
      have H1 : RL P fs β φ dom ψ IN w0 w (f2 ++ (b :: (g ++ L))) := H.re (by
        refine (List.Perm.nodup_iff ?_).1 hnd
        simp only [List.cons_append, List.append_assoc]
        exact List.perm_middle.symm) (fun x hx => by
        simp only [List.mem_append, List.mem_cons] at hx ⊢
        rcases hx with h | h | h | h
        · exact .inl (.inl (.inr h))
        · exact .inl (.inl (.inl h))
        · exact .inl (.inr h)
        · exact .inr h)
      obtain ⟨β1, φ1, dom1, k1, k2, k3, k4, k5⟩ := cellsB_ok ds' n fs β φ dom vs f2 _ H1 (fun id h h' => hn id h (Nat.lt_of_lt_of_le h' hle)) e3
      obtain ⟨hX1, hβX⟩ := k2.old X hXd
      have hptr : β1 X 0 = .pointer (some ⟨b, 0, none⟩) := by
        rw [hβX]
        have : padd (β X 0) 0 = .pointer (some ⟨b, 0, none⟩) := e1
        rw [hb0] at this ⊢
        simpa [padd] using this
      have hX0 : fupds fs (cellsB n ds').2.1 X = none := by
        rw [fupds_other _ _ _ fun p hp e => ?_]
        · exact (hk0 X hXk).1
        · have := cellsB_keys ds' n p hp
          exact hn p.1 this.1 (Nat.lt_of_lt_of_le this.2 hle) (e ▸ hXd)
      have hgb : β1 gi 0 = x0 := by rw [(k2.old gi hgd).2]; exact hgx
      have H2 := RL.add (f := [b]) (L := g ++ L) k1 X (.box T (.h gi 0 :: (cellsB n ds').1)) (β1 X) dom1 rfl hX0 (fun _ => rfl) (k1.rel.one X hX1) (fun _ h => h) hX1 ⟨⟨⟨(k2.old gi hgd).1, k4⟩, by simp [AV.one, k5]⟩, b, by rw [up_self]; exact hptr, by rw [up_same]; simp only [vals, val, hgb, k3]; exact e2, up_self _ _ _⟩ (fun V d e => by cases e)
      rw [up_same] at H2
      obtain ⟨β', φ', dom', m1, m2⟩ := behA_ok avs as (cellsB n ds').2.2 _ β1 (up φ1 X [b]) dom1 g L H2 (fun id h h' hd => by
        rcases k2.new id hd with h3 | h3
        · exact hn id (Nat.le_trans hle0 h) h' h3
        · omega) (PairsOK.congr (fun i h => k2.old i h) hp2 hw.2) (AVs.wf_mono (fun i h => (k2.old i h).1) _ hw.2) (by rw [vals_congr (β := β) (dom := dom) (fun i h => (k2.old i h).2) _ hw.2]; exact h2) (List.nodup_cons.1 hks).2 (fun k hkk => by
        have hne : k ≠ X := fun e => hXks (e ▸ hkk)
        obtain ⟨hk1, hdk⟩ := hk0 k (List.mem_cons_of_mem X hkk)
        rw [fupd_eq, if_neg hne, fupds_other _ _ _ fun p hp e => ?_]
        · exact ⟨hk1, (k2.old k hdk).1⟩
        · have := cellsB_keys ds' n p hp
          exact hn p.1 this.1 (Nat.lt_of_lt_of_le this.2 hle) (e ▸ hdk))
      refine ⟨β', φ', dom', ?_, k2.trans m2⟩
      rw [fupds_app]
      exact m1

theorem eCall_ok (R : Rel P fsA β φ dom ψ IN w0 w) (hb : ∀ id, base ≤ id → id < base + stride → ¬ dom id) (hsub : ∀ id f, fs id = some f → fsA id = some f) {hf : Option (FnH P)} {f : FuncId} {sp : Spec} {D : Bool} (hD : D = false → w0.drawn = 0) (hsp : sp.ok P f D) {args : List AV} {r : OpR} (h : eCall P fs hf base sp args = some r) (hv : AllP r.vcs)
    {run : Result Next} (hrun : run = .ok (.enter f (vals β args).toArray) w) : Snd P fsA base r β φ dom ψ IN w0 run := by
  unfold eCall at h
  split at h
  · rename_i m hm
    cases hcc : (nodupB m.cons && m.reads.all (fun x => !(m.cons.any (Nat.beq x))) && Nat.ble (behA (resA base sp.res).2.2 args sp.args).2 (base + stride)) with
    | false => rw [hcc] at h; cases h
    | true =>
      rw [hcc] at h
      cases h
      simp only [Bool.and_eq_true] at hcc
      obtain ⟨⟨c1, c2⟩, c3⟩ := hcc
      have c1 := nodupB_ok c1
      have c3 := Nat.le_of_ble_eq_true c3
      have c2 : ∀ X ∈ m.reads, X ∉ m.cons := fun X hX hXc => by
        have := List.all_eq_true.1 c2 X hX
        have h2 : m.cons.any (Nat.beq X) = true := List.any_eq_true.2 ⟨X, hXc, by simp⟩
        rw [h2] at this; cases this
      have hC := mArgs_cons hsub R hm
      obtain ⟨fp, k1, k2, k3, k4, k5, k6⟩ := mArgs_ok R hsub hC hm hv.2 c2 c1
      have hle1 := resA_le sp.res base
      have hle2 := behA_le args sp.args (resA base sp.res).2.2
      rw [hrun]
      refine Calls.mono (hsp hv.1 (Outs φ w m.cons) w _ fp (fun b hb => ⟨hb.1, fun hbf => ?_⟩) (R.gloOuts hC) k1) fun e w' ⟨rv, fr, fb, e1, e2, e3, e4, e5, e6⟩ => ⟨rv, e1, ?_⟩
      · obtain ⟨i, hi, hbi⟩ := (k2 b).1 hbf
        exact hb.2 i hi hbi
      -- what goes into the call is gone
      have hlk : ∀ j, fupds fsA (m.cons.map fun i => (i, none)) j = if j ∈ m.cons then none else fsA j := fun j => fupds_dels fsA m.cons j
      have R1 : Rel P (fupds fsA (m.cons.map fun i => (i, none))) β φ dom ψ IN w0 w' := by
        refine R.step0 (NN := (· ∈ m.cons)) (C := (· ∈ fp)) e6.ofD (dr_le hD R.chg.drawn e6.drawn) (fun _ h => ⟨h, rfl⟩) R.all1 (fun id g hg => ?_) (fun _ _ => rfl) (fun b _ hb => ?_) (fun id g hn hg => ?_) (fun id V d hn hg => ?_) (fun id g hn hg => ?_) (fun i j g g' hi hj hg => ?_)
        · rw [hlk] at hg
          by_cases hi : id ∈ m.cons
          · exact .inl hi
          · rw [if_neg hi] at hg; exact .inr hg
        · obtain ⟨i, hi, hbi⟩ := (k2 b).1 hb
          obtain ⟨g, g1, g2⟩ := hC i hi
          exact ⟨i, g, hi, g1, g2, hbi⟩
        all_goals (rw [hlk, if_pos (by assumption)] at hg; cases hg)
      have hL : RL P (fupds fsA (m.cons.map fun i => (i, none))) β φ dom ψ IN w0 w' (fr ++ fb) := ⟨R1, e4, fun b hb => by
        obtain ⟨h1, h2⟩ := e5 b hb
        refine ⟨h1, ?_⟩
        rcases h2 with h2 | h2
        · obtain ⟨i, hi, hbi⟩ := (k2 b).1 h2
          obtain ⟨g, g1, g2⟩ := hC i hi
          obtain ⟨_, q1, q2⟩ := R.lt i g g1 g2 b hbi
          refine ⟨q1, q2, fun id g' hg' hm' hbid => ?_⟩
          rw [hlk] at hg'
          by_cases hid : id ∈ m.cons
          · rw [if_pos hid] at hg'; cases hg'
          · rw [if_neg hid] at hg'
            exact R.dis i id g g' g1 hg' g2 hm' (fun e => hid (e ▸ hi)) b hbi hbid
        · refine ⟨.inl (Nat.le_trans R.chg.size h2), fun hp => by have := R.psi b hp; omega, fun id g' hg' hm' hbid => ?_⟩
          rw [hlk] at hg'
          by_cases hid : id ∈ m.cons
          · rw [if_pos hid] at hg'; cases hg'
          · rw [if_neg hid] at hg'
            have := (R.lt id g' hg' hm' b hbid).1
            omega⟩
      obtain ⟨β1, φ1, dom1, q1, q2, q3, q4⟩ := resA_ok sp.res base _ β φ dom rv fr fb hL (fun id h h' => hb id h (by omega)) e2
      have hkdom : ∀ k ∈ keysOf args sp.args, k ∈ m.cons := fun k hk => k6.subset hk
      have hcd : ∀ k ∈ m.cons, dom k := fun k hk => by obtain ⟨g, g1, _⟩ := hC k hk; exact (R.ok k g g1).1
      have hk0 : ∀ k ∈ keysOf args sp.args, fupds (fupds fsA (m.cons.map fun i => (i, none))) (resA base sp.res).2.1 k = none := fun k hk => by
        have hne : ∀ p ∈ (resA base sp.res).2.1, p.1 ≠ k := fun p hp e => by
          have := resA_keys sp.res base p hp
          exact hb p.1 this.1 (by omega) (e ▸ hcd k (hkdom k hk))
        rw [fupds_other _ _ _ hne, hlk, if_pos (hkdom k hk)]
      obtain ⟨β2, φ2, dom2, s1, s2⟩ := behA_ok args sp.args (resA base sp.res).2.2 _ β1 φ1 dom1 fb [] (by rw [List.append_nil]; exact q1) (fun id h h' hd => by
        rcases q2.new id hd with h3 | h3
        · exact hb id (by omega) (by omega) h3
        · omega) (PairsOK.congr (fun i h => q2.old i h) k4 k3) (AVs.wf_mono (fun i h => (q2.old i h).1) _ k3) (by rw [vals_congr (β := β) (dom := dom) (fun i h => (q2.old i h).2) _ k3]; exact e3) (c1.sublist k6) (fun k hk => ⟨hk0 k hk, (q2.old k (hcd k (hkdom k hk))).1⟩)
      · refine ⟨β2, φ2, dom2, ?_, AV.wf_mono (fun i h => (s2.old i h).1) _ q4, fun id h => (q2.trans s2).old id h, fun id h => ?_, ?_⟩
        · rw [val_congr (dom := dom1) (fun i h => (s2.old i h).2) _ q4, q3]
        · rcases (q2.trans s2).new id h with h | h
          · exact .inl h
          · exact .inr ⟨h.1, by omega⟩
        · rw [fupds_app, fupds_app]
          exact s1.rel
  · cases h

end
end Go.Proofs.YtbhjkcicpobmhaaDoor
