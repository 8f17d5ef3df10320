/-
  The machine, fourth part: operations that compute, and those that make new memory.
-/
import Derived.Test.YtbhjkcicpobmhaaDoorM3
namespace Go.Proofs.YtbhjkcicpobmhaaDoor
open Go.RowKit
set_option linter.unusedVariables false
set_option linter.unusedSimpArgs false

def up {α : Type} (f : Nat → α) (i : Nat) (x : α) : Nat → α := fun j => if j = i then x else f j
theorem up_self {α : Type} (f : Nat → α) (i : Nat) (x : α) : up f i x i = x := if_pos rfl
theorem up_all1 {β : Nat → Nat → Value} (h : ∀ id j, (β id j).oneCell' = true) (i : Nat) {βn : Nat → Value} (hn : ∀ j, (βn j).oneCell' = true) : ∀ id j, (up β i βn id j).oneCell' = true := fun id j => by
  unfold up; split
  · exact hn j
  · exact h id j
theorem up_ne {α : Type} (f : Nat → α) (i : Nat) (x : α) {j : Nat} (h : j ≠ i) : up f i x j = f j := if_neg h

section
variable {P : Program} {fs fsA : Nat → Option Fact} {β : Nat → Nat → Value} {φ : Nat → List Nat} {dom ψ IN : Nat → Prop} {w0 w w' : World} {base : Nat}

/-- a new item -/
theorem Snd.new1 (R : Rel P fsA β φ dom ψ IN w0 w) (hb : ∀ id, base ≤ id → id < base + stride → ¬ dom id) (f : Fact) (βn : Nat → Value) (fpn : List Nat) (hc : Bel w.heap.size w w') (hone : ∀ j, (βn j).oneCell' = true)
    (hF : FactOK P (fupd fsA base (some f)) (up β base βn) (up φ base fpn) (fun i => dom i ∨ i = base) ψ w' base f) (hV : ∀ V d, f = .own V d → ¬ dom V) (hfp : f.mod = true → ∀ b ∈ fpn, w.heap.size ≤ b ∧ b < w'.heap.size)
    {av : AV} {vcs : List Prop} {run : Result Next} (hw : av.wf (fun i => dom i ∨ i = base)) (hrun : run = .ok (.value (val (up β base βn) av)) w') : Snd P fsA base ⟨vcs, av, [(base, some f)]⟩ β φ dom ψ IN w0 run := by
  have hnb : ¬ dom base := hb base (Nat.le_refl _) (by unfold stride; omega)
  rw [hrun]
  refine ⟨up β base βn, up φ base fpn, fun i => dom i ∨ i = base, rfl, hw, fun id h => ⟨.inl h, up_ne _ _ _ fun e => hnb (e ▸ h)⟩, fun id h => ?_, ?_⟩
  · rcases h with h | rfl
    · exact .inl h
    · exact .inr ⟨Nat.le_refl _, by unfold stride; omega⟩
  · refine R.step (NN := (· = base)) (C := fun _ => False) (Chg.of_below hc) (fun id h => ⟨.inl h, up_ne _ _ _ fun e => hnb (e ▸ h)⟩) (up_all1 R.all1 _ hone) (fun id g hg => ?_) (fun id hn => up_ne _ _ _ hn) (fun b _ h => h.elim) (fun id g hn hg => ?_) (fun id V d hn hg => ?_) (fun id g hn hg hm b hbb => ?_) (fun i j f g hi hj _ _ _ _ hne => absurd (hi.trans hj.symm) hne)
    · simp only [fupds, fupd_eq] at hg
      by_cases h : id = base
      · exact .inl h
      · rw [if_neg h] at hg; exact .inr hg
    · subst hn
      simp only [fupds, fupd_eq, if_true, Option.some.injEq] at hg
      subst hg
      exact ⟨.inr rfl, hF⟩
    · subst hn
      simp only [fupds, fupd_eq, if_true, Option.some.injEq] at hg
      exact hV V d hg
    · subst hn
      simp only [fupds, fupd_eq, if_true, Option.some.injEq] at hg
      subst hg
      rw [up_self] at hbb
      obtain ⟨h1, h2⟩ := hfp hm b hbb
      exact ⟨h2, .inl h1⟩

/-- an item in another state -/
theorem Snd.mod1 (R : Rel P fsA β φ dom ψ IN w0 w) (hb : ∀ id, base ≤ id → id < base + stride → ¬ dom id) {X : Nat} {g : Fact} (hX : fsA X = some g) (hm : g.mod = true) (f : Fact) (fpn : List Nat) (hc : Chg (· ∈ φ X) w w')
    (hF : FactOK P (fupd fsA X (some f)) β (up φ X fpn) (fun i => dom i ∨ i = base) ψ w' X f) (hV : ∀ V d, f = .own V d → ¬ dom V) (hfp : f.mod = true → ∀ b ∈ fpn, b < w'.heap.size ∧ (w.heap.size ≤ b ∨ b ∈ φ X))
    {vcs : List Prop} {run : Result Next} (hrun : run = .ok .skip w') : Snd P fsA base ⟨vcs, .v undef, [(X, some f)]⟩ β φ dom ψ IN w0 run := by
  have hnb : ¬ dom base := hb base (Nat.le_refl _) (by unfold stride; omega)
  have hdX := (R.ok X g hX).1
  rw [hrun]
  refine ⟨β, up φ X fpn, fun i => dom i ∨ i = base, rfl, trivial, fun id h => ⟨.inl h, rfl⟩, fun id h => ?_, ?_⟩
  · rcases h with h | rfl
    · exact .inl h
    · exact .inr ⟨Nat.le_refl _, by unfold stride; omega⟩
  · refine R.step (NN := (· = X)) (C := (· ∈ φ X)) hc (fun id h => ⟨.inl h, rfl⟩) R.all1 (fun id g hg => ?_) (fun id hn => up_ne _ _ _ hn) (fun b _ h => ⟨X, g, rfl, hX, hm, h⟩) (fun id g hn hg => ?_) (fun id V d hn hg => ?_) (fun id g' hn hg hm' b hbb => ?_) (fun i j f g hi hj _ _ _ _ hne => absurd (hi.trans hj.symm) hne)
    · simp only [fupds, fupd_eq] at hg
      by_cases h : id = X
      · exact .inl h
      · rw [if_neg h] at hg; exact .inr hg
    · subst hn
      simp only [fupds, fupd_eq, if_true, Option.some.injEq] at hg
      subst hg
      exact ⟨.inl hdX, hF⟩
    · subst hn
      simp only [fupds, fupd_eq, if_true, Option.some.injEq] at hg
      exact hV V d hg
    · subst hn
      simp only [fupds, fupd_eq, if_true, Option.some.injEq] at hg
      subst hg
      rw [up_self] at hbb
      obtain ⟨h1, h2⟩ := hfp hm' b hbb
      exact ⟨h1, h2.imp (fun h => h) fun h => ⟨id, g, rfl, hX, hm, h⟩⟩

/-! ### Parts of values -/

def eField (P : Program) (T : TypeId) (i : Nat) : AV → Option OpR
  | .ag cs => match tField P T i with
    | some (o, U) => (match takeT P U (cs.drop o) with | some av => some ⟨[], av, []⟩ | none => none)
    | none => none
  | _ => none

theorem tField_ok {T : TypeId} {i o : Nat} {U : TypeId} (h : tField P T i = some (o, U)) : ∃ fs f, P.underlying T = some (.struct fs) ∧ fs[i]? = some f ∧ f.offset = o ∧ f.type = U := by
  unfold tField at h
  split at h
  · rename_i fs e
    split at h
    · rename_i f hf
      simp only [Option.some.injEq, Prod.mk.injEq] at h
      exact ⟨fs, f, e, hf, h.1, h.2⟩
    · cases h
  · cases h

theorem run_part {U : TypeId} {cs : List AV} {o : Nat} {av : AV} (h : takeT P U (cs.drop o) = some av) : (part U (vals β cs).toArray o).run P w = .ok (val β av) w := by
  unfold takeT at h
  split at h
  · rename_i n h1 h2
    cases hb : Nat.beq ((cs.drop o).take n).length n with
    | false => rw [hb] at h; cases h
    | true =>
      rw [hb] at h
      simp only [cond_true, Option.some.injEq] at h
      subst h
      obtain ⟨inf, hi, hs⟩ := Option.map_eq_some_iff.1 h2
      simp only [part, Sem.run_bind, run_isAgg h1, Result.andThen_ok, if_true, sizeOf, typeInfo, run_program, hi, Sem.run_pure, hs, val]
      congr 3
      rw [vals_take, vals_drop]
      apply Array.ext'
      simp [List.extract_eq_take_drop]
  · rename_i h1 _
    split at h
    · rename_i a' as hcs'
      simp only [Option.some.injEq] at h
      subst h
      have : (vals β cs)[o]? = some (val β a') := by
        have h0 : (vals β (cs.drop o))[0]? = some (val β a') := by rw [hcs']; rfl
        rw [vals_drop, List.getElem?_drop] at h0
        simpa using h0
      simp only [part, Sem.run_bind, run_isAgg h1, Result.andThen_ok, Bool.false_eq_true, if_false, List.getElem?_toArray, this, Sem.run_pure]
    · cases h
  · cases h

theorem takeT_wf {U : TypeId} {cs : List AV} {av : AV} (h : takeT P U cs = some av) (hw : AVs.wf dom cs) : av.wf dom := by
  unfold takeT at h
  split at h
  · rename_i n h1 h2
    cases hb : Nat.beq (cs.take n).length n with
    | false => rw [hb] at h; cases h
    | true => rw [hb] at h; simp only [cond_true, Option.some.injEq] at h; subst h; exact AVs.wf_take _ hw
  · split at h
    · simp only [Option.some.injEq] at h; subst h; exact hw.1
    · cases h
  · cases h

theorem eField_ok {T : TypeId} {i : Nat} {a : AV} {r : OpR} (h : eField P T i a = some r) (hw : a.wf dom) : (Instr.field T (val β a) i).run P w = .ok (val β r.av) w ∧ r.av.wf dom ∧ r.sets = [] ∧ r.vcs = [] := by
  cases a <;> simp only [eField] at h <;> first | cases h | skip
  rename_i cs
  split at h
  · rename_i o U ho
    split at h
    · rename_i av hav
      cases h
      obtain ⟨fs, f, h1, h2, rfl, rfl⟩ := tField_ok ho
      refine ⟨?_, takeT_wf hav (AVs.wf_drop _ hw), rfl, rfl⟩
      simp only [Instr.field, Sem.run_bind, run_underlying h1, Result.andThen_ok, h2, val, asAgg, Sem.run_pure]
      exact run_part hav
    · cases h
  · cases h

def eExtract (i : Nat) : AV → Option OpR
  | .tu vs => match vs[i]? with | some a => some ⟨[], a, []⟩ | none => none
  | _ => none
theorem eExtract_ok {i : Nat} {a : AV} {r : OpR} (h : eExtract i a = some r) (hw : a.wf dom) : (Instr.extract (val β a) i).run P w = .ok (val β r.av) w ∧ r.av.wf dom ∧ r.sets = [] ∧ r.vcs = [] := by
  cases a <;> simp only [eExtract] at h <;> first | cases h | skip
  rename_i vs
  split at h
  · rename_i a' ha
    cases h
    refine ⟨?_, AVs.wf_iff.1 hw _ (List.mem_of_getElem? ha), rfl, rfl⟩
    have : (vals β vs)[i]? = some (val β a') := by rw [vals_map, List.getElem?_map, ha]; rfl
    simp [Instr.extract, val, this]
  · cases h

def eFieldAddr (P : Program) (fs : Nat → Option Fact) (T : TypeId) (i : Nat) : AV → Option OpR
  | .p id off => match cellsAt fs id, tField P T i with
    | some _, some (o, U) => (match tSize P U with | some (_ + 1) => some ⟨[], .p id (off + o), []⟩ | _ => none)
    | _, _ => none
  | _ => none
theorem eFieldAddr_ok (R : Rel P fsA β φ dom ψ IN w0 w) (hsub : ∀ id f, fs id = some f → fsA id = some f) {T : TypeId} {i : Nat} {a : AV} {r : OpR} (h : eFieldAddr P fs T i a = some r) :
    (Instr.fieldAt T (val β a) i).run P w = .ok (val β r.av) w ∧ r.av.wf dom ∧ r.sets = [] ∧ r.vcs = [] := by
  cases a <;> simp only [eFieldAddr] at h <;> first | cases h | skip
  rename_i id off
  split at h
  · rename_i cs o U hcs ho
    split at h
    · rename_i n hn
      cases h
      obtain ⟨b, q, g1, g2, g3, g4, g5⟩ := cellsAt_ok R hsub hcs
      obtain ⟨fs', f, h1, h2, rfl, rfl⟩ := tField_ok ho
      obtain ⟨inf, hi, hs⟩ := Option.map_eq_some_iff.1 hn
      refine ⟨?_, g5, rfl, rfl⟩
      have h0 : ¬ inf.size = 0 := by omega
      simp [Instr.fieldAt, run_underlying h1, h2, val, g1, padd, Instr.sureAddr, fieldPlace, sizeOf, typeInfo, hi, h0, Addr.add]
      split
      · rename_i e; rw [e]; rfl
      · rw [Nat.add_assoc]
    · cases h
  · cases h

def eNil (fs : Nat → Option Fact) : AV → Option OpR
  | .p id off => match cellsAt fs id with | some _ => some ⟨[], .p id off, []⟩ | none => none
  | _ => none

/-! ### Strings -/

def eIndexS : AV → AV → Option OpR
  | .v (.string s), .v (.int k n) => some ⟨[0 ≤ n ∧ n < s.size], .v (.int .u8 ((s.data.getD n.toNat 0).toNat : Int)), []⟩
  | _, _ => none
theorem eIndexS_ok {T : TypeId} (hT : P.underlying T = some .string) {a i : AV} {r : OpR} (h : eIndexS a i = some r) (hv : AllP r.vcs) : (Instr.index T (val β a) (val β i)).run P w = .ok (val β r.av) w ∧ r.av.wf dom ∧ r.sets = [] := by
  unfold eIndexS at h
  split at h
  · rename_i s k n
    cases h
    obtain ⟨⟨h1, h2⟩, _⟩ := hv
    refine ⟨?_, trivial, rfl⟩
    have hlt : n.toNat < s.size := by omega
    have e : s[n.toNat]? = some (s.data.getD n.toNat 0) := by
      have : s.size = s.data.size := rfl
      rw [getElem?_pos s n.toNat hlt]
      congr 1
      simp only [ByteArray.getElem_eq_getElem_data, Array.getD, dif_pos (this ▸ hlt)]
      rfl
    simp [Instr.index, val, asIntOf, run_underlying hT, h1, e]
  · cases h

def optI : Option AV → Option (Option Int)
  | none => some none
  | some (.v (.int _ n)) => some (some n)
  | _ => none

def eSliceS : AV → Option AV → Option AV → Option OpR
  | .v (.string s), lo, hi => match optI lo, optI hi with
    | some l, some h => some ⟨[0 ≤ l.getD 0 ∧ l.getD 0 ≤ h.getD s.size ∧ h.getD s.size ≤ s.size], .v (.string (s.extract (l.getD 0).toNat (h.getD s.size).toNat)), []⟩
    | _, _ => none
  | _, _, _ => none

theorem run_bounds {isS : Bool} {len cap : Nat} {lo hi : Option AV} {l h : Option Int} (hl : optI lo = some l) (hh : optI hi = some h) (h1 : 0 ≤ l.getD 0) (h2 : l.getD 0 ≤ h.getD len) (h3 : h.getD len ≤ len) (h4 : len ≤ cap) :
    (Instr.sliceBounds isS len cap (lo.map (val β)) (hi.map (val β)) none).run P w = .ok ((l.getD 0).toNat, (h.getD len).toNat, cap) w := by
  have key : ∀ (x : Option AV) (n : Option Int), optI x = some n → (x = none ∧ n = none) ∨ ∃ k m, x = some (.v (.int k m)) ∧ n = some m := by
    intro x n hx
    cases x with
    | none => simp only [optI, Option.some.injEq] at hx; exact .inl ⟨rfl, hx.symm⟩
    | some a =>
      cases a with
      | v y =>
        cases y <;> simp only [optI] at hx <;> first | cases hx | skip
        exact .inr ⟨_, _, rfl, rfl⟩
      | _ => simp [optI] at hx
  rcases key hi h hh with ⟨rfl, rfl⟩ | ⟨kh, mh, rfl, rfl⟩ <;> rcases key lo l hl with ⟨rfl, rfl⟩ | ⟨kl, ml, rfl, rfl⟩ <;>
    simp only [Option.getD_some, Option.getD_none] at h1 h2 h3
  · simp [Instr.sliceBounds]
  · have e1 : ml ≤ (len : Int) := by omega
    simp [Instr.sliceBounds, Instr.sliceBound, val, asIntOf, h1, e1]
  · have e1 : mh ≤ (cap : Int) := by omega
    have e0 : 0 ≤ mh := by omega
    simp [Instr.sliceBounds, Instr.sliceBound, val, asIntOf, e0, e1]
  · have e1 : mh ≤ (cap : Int) := by omega
    have e0 : 0 ≤ mh := by omega
    have e2 : ml ≤ max mh 0 := by omega
    simp [Instr.sliceBounds, Instr.sliceBound, val, asIntOf, e0, e1, h1, h2, e2]

theorem eSliceS_ok {T : TypeId} (hT : P.underlying T = some .string) {a : AV} {lo hi : Option AV} {r : OpR} (h : eSliceS a lo hi = some r) (hv : AllP r.vcs) :
    (Instr.sliceAt T (val β a) (lo.map (val β)) (hi.map (val β)) none).run P w = .ok (val β r.av) w ∧ r.av.wf dom ∧ r.sets = [] := by
  unfold eSliceS at h
  split at h
  · rename_i s
    split at h
    · rename_i l h' hl hh
      cases h
      obtain ⟨⟨h1, h2, h3⟩, _⟩ := hv
      refine ⟨?_, trivial, rfl⟩
      have := run_bounds (P := P) (w := w) (β := β) (isS := false) (len := s.size) (cap := s.size) hl hh h1 h2 h3 (Nat.le_refl _)
      simp [Instr.sliceAt, Instr.slice, run_underlying hT, val, this]
    · cases h
  · cases h

end
end Go.Proofs.YtbhjkcicpobmhaaDoor
