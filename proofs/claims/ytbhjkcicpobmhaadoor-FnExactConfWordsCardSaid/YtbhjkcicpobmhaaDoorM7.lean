/-
  The machine, seventh part: elements, parts of slices, make.
-/
import Derived.Test.YtbhjkcicpobmhaaDoorM6
namespace Go.Proofs.YtbhjkcicpobmhaaDoor
open Go.RowKit
set_option linter.unusedVariables false
set_option linter.unusedSimpArgs false

section
variable {P : Program} {fs fsA : Nat → Option Fact} {β : Nat → Nat → Value} {φ : Nat → List Nat} {dom ψ IN : Nat → Prop} {w0 w w' : World} {base : Nat}

def elOf (fs : Nat → Option Fact) (k : Nat) : AV → Option (Nat × Nat × Nat)
  | .h X 0 => match fs X with
    | some (.own _ _) => some (X, 0, k)
    | _ => none
  | .h X (j + 1) => match fs X with
    | some (.mem _ _ _) => some (X, j + 1, k)
    | _ => none
  | _ => none

def ixVcs (ds : List Dat) : Option (List Dat) → List Prop
  | none => []
  | some ds' => [Imps ds ds']
theorem ixVcs_ok {ds : List Dat} : ∀ {o : Option (List Dat)}, AllP (ixVcs ds o) → Imps ds (o.getD ds)
  | none, _ => Imps.refl _
  | some _, h => h.1

def eIdx (P : Program) (fs : Nat → Option Fact) (base : Nat) (T : TypeId) (x i : AV) (o : Option (List Dat)) : Option OpR :=
  match i, datOf fs x, (tElem P T).bind (tSize P) with
  | .v (.int _ k), some (@Dat.l _ _ sz enc xs, dep), some s => bif Nat.beq s sz then some ⟨(0 ≤ k ∧ k < xs.length) :: ixVcs (enc (xs.getD k.toNat default)) o, .p base 0, [(base, some (.mem dep (elOf fs k.toNat x) (o.getD (enc (xs.getD k.toNat default)))))]⟩ else none
  | _, _, _ => none

theorem eIdx_ok (R : Rel P fsA β φ dom ψ IN w0 w) (hb : ∀ id, base ≤ id → id < base + stride → ¬ dom id) (hsub : ∀ id f, fs id = some f → fsA id = some f) {T : TypeId} {x i : AV} {o : Option (List Dat)} {r : OpR} (h : eIdx P fs base T x i o = some r) (hv : AllP r.vcs) :
    Snd P fsA base r β φ dom ψ IN w0 ((do pure (Next.value (← Instr.indexAt T (val β x) (val β i))) : Sem Next).run P w) := by
  have hnb : ¬ dom base := hb base (Nat.le_refl _) (by unfold stride; omega)
  unfold eIdx at h
  split at h
  · rename_i kk k α inst sz enc xs dep s hdat hs
    cases hbq : Nat.beq s sz with
    | false => rw [hbq] at h; cases h
    | true =>
      rw [hbq] at h
      cases h
      obtain ⟨⟨h0, hlt⟩, himp⟩ := hv
      replace himp := ixVcs_ok himp
      generalize hdsn : o.getD (enc (xs.getD k.toNat default)) = dsn at himp ⊢
      have hsz := Nat.eq_of_beq_eq_true hbq
      subst hsz
      obtain ⟨U, hU, hs⟩ := Option.bind_eq_some_iff.1 hs
      obtain ⟨inf, hinf, hsize⟩ := Option.map_eq_some_iff.1 hs
      obtain ⟨hrd, hdep, hwf, hone1⟩ := datOf_ok R hsub hdat
      obtain ⟨a, c, e1, e2, e3, e4⟩ := hrd
      obtain ⟨n, hn⟩ : ∃ n : Nat, k = (n : Int) := ⟨k.toNat, by omega⟩
      subst hn
      have hn : n < xs.length := by omega
      have hgx : xs[n]? = some (xs.getD n default) := by rw [List.getD_eq_getElem?_getD, List.getElem?_eq_getElem hn]; rfl
      obtain ⟨f1, f2, cs, f3, f4, f5⟩ := e4 n _ hgx
      have f5 := Imps.rd himp f5
      have hlen : dsn.length = s := by rw [← f5.len, f3]
      have hrun : (do pure (Next.value (← Instr.indexAt T (val β x) (val β (.v (.int kk (n : Int)))))) : Sem Next).run P w = .ok (.value (.pointer (some ⟨ab a, ao a + n * s, none⟩))) w := by
        rw [e1]
        have ea : (Value.slice a xs.length c) = .slice (some ⟨ab a, ao a, none⟩) xs.length c := congrArg (fun z => Value.slice z xs.length c) f1
        rw [ea]
        simp [val, Instr.indexAt, asIntOf, run_underlying (tElem_ok hU), sizeOf, typeInfo, hinf, hsize, hn, addr_add]
      let βn : Nat → Value := fun j => match j with
        | 0 => .pointer (some ⟨ab a, ao a + n * s, none⟩)
        | j + 1 => cs.getD j (.bool false)
      have hbvn : bv (up β base βn) base dsn.length = cs := by
        refine List.ext_getElem (by simp only [bv, List.length_map, List.length_range]; rw [hlen, f3]) fun j h1 h2 => ?_
        simp [bv, up_self, βn, h2]
      have hone : ∀ j, (βn j).oneCell' = true := by
        intro j
        cases j with
        | zero => rfl
        | succ j =>
          show (cs.getD j (.bool false)).oneCell' = true
          rw [List.getD_eq_getElem?_getD]
          cases hj : cs[j]? with
          | none => rfl
          | some v => exact List.all_eq_true.1 f5.one v (List.mem_of_getElem? hj)
      refine Snd.new1 R hb _ βn [] (Bel.refl _ _) hone ?_ (fun V d e => by cases e) (fun e => by cases e) (.inr rfl) (by rw [hrun]; simp [val, up_self, padd, βn])
      cases dep with
      | none =>
        exact ⟨ab a, ao a + n * s, by rw [up_self], f2, by rw [hbvn]; exact f4, by rw [hbvn]; exact f5⟩
      | some XV =>
        obtain ⟨X, V⟩ := XV
        obtain ⟨hl, hdX, hdV⟩ := hdep X V rfl
        have hXb : X ≠ base := fun e => hnb (e ▸ hdX)
        have eφ : up φ base [] X = φ X := up_ne _ _ _ hXb
        refine ⟨.inl hdX, .inl hdV, fun _ => ⟨⟨ab a, ao a + n * s, by rw [up_self], by rw [eφ]; exact f2, by rw [hbvn]; exact f4, by rw [hbvn]; rw [eφ]; exact f5⟩, fun Y s' k hk => ?_⟩⟩
        have hx : x = .h Y s' ∧ k = n := by
          cases x with
          | h X' j =>
            cases j with
            | zero =>
              simp only [elOf] at hk
              split at hk
              · simp only [Int.toNat_natCast, Option.some.injEq, Prod.mk.injEq] at hk
                obtain ⟨rfl, rfl, rfl⟩ := hk
                exact ⟨rfl, rfl⟩
              · cases hk
            | succ j =>
              simp only [elOf] at hk
              split at hk
              · simp only [Int.toNat_natCast, Option.some.injEq, Prod.mk.injEq] at hk
                obtain ⟨rfl, rfl, rfl⟩ := hk
                exact ⟨rfl, rfl⟩
              · cases hk
          | _ => simp [elOf] at hk
        obtain ⟨rfl, rfl⟩ := hx
        have hdY : dom Y := hwf
        have hYb : Y ≠ base := fun e => hnb (e ▸ hdY)
        refine ⟨.inl hdY, ab a, ao a, xs.length, c, ?_, ?_, hn⟩
        · rw [up_ne _ _ _ hYb]
          have : β Y s' = .slice a xs.length c := e1
          rw [this]
          exact congrArg (fun z => Value.slice z xs.length c) f1
        · rw [up_self]
          show Value.pointer _ = _
          simp only [hlen]
  · cases h

/-- a load of a known value: it is the one that an item speaks of -/
def eLoadAs (P : Program) (fs : Nat → Option Fact) (T : TypeId) (a : AV) (gi : Nat) : Option OpR := match eLoad P fs T a, fs gi with
  | some ⟨_, .v x0, _⟩, some (.vl x _) => some ⟨[x0 = x], .h gi 0, []⟩
  | _, _ => none
theorem eLoadAs_ok (R : Rel P fsA β φ dom ψ IN w0 w) (hsub : ∀ id f, fs id = some f → fsA id = some f) {T : TypeId} {a : AV} {gi : Nat} {r : OpR} (h : eLoadAs P fs T a gi = some r) (hv : AllP r.vcs) :
    (Instr.loadAt T (val β a)).run P w = .ok (val β r.av) w ∧ r.av.wf dom ∧ r.sets = [] := by
  unfold eLoadAs at h
  split at h
  · rename_i vc x0 st x d h1 h2
    cases h
    obtain ⟨k1, _, _, _⟩ := eLoad_ok R hsub h1
    obtain ⟨m1, m2, _⟩ := R.ok gi _ (hsub _ _ h2)
    refine ⟨?_, m1, rfl⟩
    rw [k1]
    show Result.ok x0 w = .ok (β gi 0) w
    rw [m2, hv.1]
  · cases h

/-! ### Parts of slices -/

def cutL {α : Type} (xs : List α) : Option Int → Option Int → List α
  | none, none => xs
  | some l, none => xs.drop l.toNat
  | none, some h => xs.take h.toNat
  | some l, some h => (xs.take h.toNat).drop l.toNat

theorem cutL_ok {α : Type} (xs : List α) (l h : Option Int) (h1 : 0 ≤ l.getD 0) (h2 : l.getD 0 ≤ h.getD xs.length) (h3 : h.getD xs.length ≤ xs.length) :
    (cutL xs l h).length = (h.getD xs.length).toNat - (l.getD 0).toNat ∧ ∀ (i : Nat) (x : α), (cutL xs l h)[i]? = some x → xs[(l.getD 0).toNat + i]? = some x ∧ (l.getD 0).toNat + i < (h.getD xs.length).toNat := by
  cases l <;> cases h <;> simp only [cutL, Option.getD_none, Option.getD_some] at *
  · refine ⟨by simp, fun i x hx => ?_⟩
    have := (List.getElem?_eq_some_iff.1 hx).1
    exact ⟨by simpa using hx, by simp; omega⟩
  · rename_i h
    refine ⟨by simp; omega, fun i x hx => ?_⟩
    rw [List.getElem?_take] at hx
    split at hx
    · exact ⟨by simpa using hx, by simp; omega⟩
    · cases hx
  · rename_i l
    refine ⟨by simp, fun i x hx => ?_⟩
    rw [List.getElem?_drop] at hx
    have := (List.getElem?_eq_some_iff.1 hx).1
    exact ⟨hx, by simp; omega⟩
  · rename_i l h
    refine ⟨by simp; omega, fun i x hx => ?_⟩
    rw [List.getElem?_drop, List.getElem?_take] at hx
    split at hx
    · exact ⟨hx, by omega⟩
    · cases hx

theorem sub_flatten {l l' : List (List Nat)} (h : l.Sublist l') : l.flatten.Sublist l'.flatten := by
  induction h with
  | slnil => exact List.Sublist.refl _
  | cons a _ ih => exact ih.trans (by simp)
  | cons_cons a _ ih => simpa using List.Sublist.append (List.Sublist.refl a) ih

/-- a slice's part: 'own': the slice goes into it -/
def eSlc (P : Program) (fs : Nat → Option Fact) (base : Nat) (T : TypeId) (x : AV) (lo hi : Option AV) (own : Bool) : Option OpR :=
  match datOf fs x, (tElem P T).bind (tSize P), optI lo, optI hi with
  | some (@Dat.l _ _ sz enc xs, dep), some s, some l, some h => bif Nat.beq s sz then
      (let vc := 0 ≤ l.getD 0 ∧ l.getD 0 ≤ h.getD xs.length ∧ h.getD xs.length ≤ xs.length
       bif own then (match x with
         | .h X 0 => (match fs X with | some (.own _ (@Dat.l _ _ _ _ _)) => some ⟨[vc], .h base 0, [(base, some (.own base (.l sz enc (cutL xs l h)))), (X, none)]⟩ | _ => none)
         | _ => none)
       else some ⟨[vc], .h base 0, [(base, some (.shr dep (.l sz enc (cutL xs l h))))]⟩)
    else none
  | _, _, _, _ => none

theorem eSlc_ok (R : Rel P fsA β φ dom ψ IN w0 w) (hb : ∀ id, base ≤ id → id < base + stride → ¬ dom id) (hsub : ∀ id f, fs id = some f → fsA id = some f) {T : TypeId} {x : AV} {lo hi : Option AV} {own : Bool} {r : OpR} (h : eSlc P fs base T x lo hi own = some r) (hv : AllP r.vcs)
    (hT : tElem P T ≠ none) :
    Snd P fsA base r β φ dom ψ IN w0 ((do pure (Next.value (← Instr.sliceAt T (val β x) (lo.map (val β)) (hi.map (val β)) none)) : Sem Next).run P w) := by
  have hnb : ¬ dom base := hb base (Nat.le_refl _) (by unfold stride; omega)
  unfold eSlc at h
  split at h
  · rename_i α inst sz enc xs dep s l hh hdat hs hl hh'
    cases hbq : Nat.beq s sz with
    | false => rw [hbq] at h; cases h
    | true =>
      rw [hbq] at h
      simp only [cond_true] at h
      have hsz := Nat.eq_of_beq_eq_true hbq
      subst hsz
      obtain ⟨U, hU, hs⟩ := Option.bind_eq_some_iff.1 hs
      obtain ⟨inf, hinf, hsize⟩ := Option.map_eq_some_iff.1 hs
      obtain ⟨hrd, hdep, hwf, hone1⟩ := datOf_ok R hsub hdat
      obtain ⟨a, c, e1, e2, e3, e4⟩ := hrd
      have hvc : 0 ≤ l.getD 0 ∧ l.getD 0 ≤ hh.getD xs.length ∧ hh.getD xs.length ≤ xs.length := by
        cases own with
        | false => simp only [cond_false, Option.some.injEq] at h; subst h; exact hv.1
        | true =>
          simp only [cond_true] at h
          split at h
          · split at h
            · simp only [Option.some.injEq] at h; subst h; exact hv.1
            · cases h
          · cases h
      obtain ⟨v1, v2, v3⟩ := hvc
      obtain ⟨q1, q2⟩ := cutL_ok xs l hh v1 v2 v3
      have hrun : (do pure (Next.value (← Instr.sliceAt T (val β x) (lo.map (val β)) (hi.map (val β)) none)) : Sem Next).run P w =
          .ok (.value (.slice (if c = (l.getD 0).toNat then a else a.map (·.add ((l.getD 0).toNat * s))) (cutL xs l hh).length (c - (l.getD 0).toNat))) w := by
        have := run_bounds (P := P) (w := w) (β := β) (isS := true) (len := xs.length) (cap := c) hl hh' v1 v2 v3 e2
        rw [q1, e1]
        simp [Instr.sliceAt, Instr.slice, run_underlying (tElem_ok hU), this, sizeOf, typeInfo, hinf, hsize]
      generalize hL : (l.getD 0).toNat = L at *
      generalize hH : (hh.getD (xs.length : Int)).toNat = H at *
      have hLH : L ≤ H := by omega
      have hHx : H ≤ xs.length := by omega
      -- where its elements lie
      have hadr : ∀ (i : Nat) (y : α), (cutL xs l hh)[i]? = some y → (if c = L then a else a.map (·.add (L * s))) = some ⟨ab a, ao a + L * s, none⟩ := by
        intro i y hy
        obtain ⟨k1, k2⟩ := q2 i y hy
        obtain ⟨f1, _⟩ := e4 _ _ k1
        have hcL : ¬ c = L := by omega
        rw [if_neg hcL]
        rw [f1]
        simp [Addr.add_lit, ab, ao]
      cases own with
      | false =>
        simp only [cond_false, Option.some.injEq] at h
        subst h
        have hread : ∀ S : Nat → Prop, (∀ (i : Nat) (y : α), xs[i]? = some y → a = some ⟨ab a, ao a, none⟩ ∧ S (ab a) ∧ ∃ cs : List Value, cs.length = s ∧ Has w (ab a) (ao a + i * s) cs ∧ RdVs S w (enc y) cs) →
            RdV S w (.l s enc (cutL xs l hh)) (.slice (if c = L then a else a.map (·.add (L * s))) (cutL xs l hh).length (c - L)) := by
          intro S h4
          refine ⟨_, _, rfl, by omega, by omega, fun i y hy => ?_⟩
          obtain ⟨k1, k2⟩ := q2 i y hy
          obtain ⟨f1, f2, cs, f3, f4, f5⟩ := h4 _ _ k1
          have ha := hadr i y hy
          rw [ha]
          refine ⟨rfl, f2, cs, f3, ?_, f5⟩
          simp only [ab, ao, Option.getD_some] at f4 ⊢
          rw [Nat.add_assoc, ← Nat.add_mul]
          exact f4
        refine Snd.new1 R hb _ (fun _ => .slice (if c = L then a else a.map (·.add (L * s))) (cutL xs l hh).length (c - L)) [] (Bel.refl _ _) (fun _ => rfl) ?_ (fun V d e => by cases e) (fun e => by cases e) (.inr rfl) (by rw [hrun]; simp only [val, up_self])
        cases dep with
        | none =>
          show RdV ψ w _ _
          rw [up_self]
          exact hread ψ e4
        | some XV =>
          obtain ⟨X, V⟩ := XV
          obtain ⟨hl, hdX, hdV⟩ := hdep X V rfl
          refine ⟨.inl hdX, .inl hdV, fun _ => ?_⟩
          rw [up_self, up_ne _ _ _ (fun e : X = base => hnb (e ▸ hdX))]
          exact hread _ e4
      | true =>
        simp only [cond_true] at h
        split at h
        · rename_i X
          split at h
          · rename_i V _ _ _ _ _ hX
            simp only [Option.some.injEq] at h
            subst h
            simp only [datOf, hX, Dat.view] at hdat
            cases hdat
            obtain ⟨hdX, hdV, how⟩ := R.ok X _ (hsub _ _ hX)
            have e1' : β X 0 = .slice a xs.length c := e1
            rw [e1'] at how
            obtain ⟨a', c', g1, g2, g3, g4⟩ := how
            simp only [Value.slice.injEq] at g1
            obtain ⟨rfl, _, rfl⟩ := g1
            obtain ⟨fp', ho, hsubfp⟩ : ∃ fp', OwV w (.l s enc (cutL xs l hh)) (.slice (if c = L then a else a.map (·.add (L * s))) (cutL xs l hh).length (c - L)) fp' ∧ ∀ b ∈ fp', b ∈ φ X := by
              rcases g4 with ⟨rfl, rfl, hf⟩ | ⟨b, o, T', cells, fps, rfl, k2, k3, k4, k5, k6, k7⟩
              · have hz : cutL ([] : List α) l hh = [] := by
                  have : (cutL ([] : List α) l hh).length = 0 := by simp at hHx; omega
                  exact List.eq_nil_of_length_eq_zero this
                rw [hz]
                exact ⟨[], ⟨_, _, rfl, by simp, by simp, .inl ⟨by omega, rfl, rfl⟩⟩, fun b hb => by cases hb⟩
              · by_cases hcL : c = L
                · have hz : cutL xs l hh = [] := List.eq_nil_of_length_eq_zero (by omega)
                  rw [hz, if_pos hcL]
                  exact ⟨[], ⟨_, _, rfl, by simp, by simp, .inl ⟨by omega, rfl, rfl⟩⟩, fun b hb => by cases hb⟩
                · rw [if_neg hcL]
                  have hsubl : ((fps.take H).drop L).flatten.Sublist fps.flatten := sub_flatten ((List.drop_sublist _ _).trans (List.take_sublist _ _))
                  refine ⟨b :: ((fps.take H).drop L).flatten, ⟨_, _, rfl, by omega, by omega, .inr ⟨b, o + L * s, T', cells, (fps.take H).drop L, by simp [Addr.add_lit], k2, ?_, by simp; omega, fun i y f hy hf => ?_, rfl, ?_⟩⟩, ?_⟩
                  · rw [k3, Nat.add_assoc, ← Nat.add_mul]; congr 2; omega
                  · obtain ⟨m1, m2⟩ := q2 i y hy
                    rw [List.getElem?_drop, List.getElem?_take, if_pos (by omega)] at hf
                    have := k5 (L + i) y f m1 hf
                    rwa [show o + L * s + i * s = o + (L + i) * s from by rw [Nat.add_mul, Nat.add_assoc]]
                  · rw [k6] at k7
                    exact List.Nodup.sublist (List.Sublist.cons_cons b hsubl) k7
                  · intro b' hb'
                    rw [k6]
                    rcases List.mem_cons.1 hb' with rfl | hb'
                    · exact List.mem_cons_self
                    · exact List.mem_cons_of_mem _ (hsubl.subset hb')
            refine Snd.newC (ids := [X]) R hb (.own base (.l s enc (cutL xs l hh))) (fun _ => .slice (if c = L then a else a.map (·.add (L * s))) (cutL xs l hh).length (c - L)) fp' (fun id hid => ?_) (Chg.of_below (Bel.refl _ _)) (fun _ => rfl) ⟨.inr rfl, ?_⟩ (fun V d e => ?_) (fun _ b hbb => ?_) (.inr rfl) (by rw [hrun]; simp only [val, up_self])
            · simp only [List.mem_singleton] at hid
              subst hid
              exact ⟨_, hsub _ _ hX, rfl⟩
            · rw [up_self, up_self]; exact ho
            · cases e; exact hnb
            · exact ⟨OwV.lt _ _ _ ho b hbb, .inr ⟨X, List.mem_cons_self, hsubfp b hbb⟩⟩
          · cases h
        · cases h
  · cases h

/-- a part of a value that is known to read: it is known too -/
def cutVal (sz L n : Nat) : Value → Value
  | .slice a _ c => .slice (if c = L then a else a.map (·.add (L * sz))) n (c - L)
  | v => v
def eSlcV (P : Program) (fs : Nat → Option Fact) (base : Nat) (T : TypeId) (x : AV) (lo hi : Option AV) : Option OpR :=
  match x with
  | .h X 0 => (match fs X, (tElem P T).bind (tSize P), optI lo, optI hi with
    | some (.vl x0 (@Dat.l _ _ sz enc xs)), some s, some l, some h => bif Nat.beq s sz then
        some ⟨[0 ≤ l.getD 0 ∧ l.getD 0 ≤ h.getD xs.length ∧ h.getD xs.length ≤ xs.length], .h base 0, [(base, some (.vl (cutVal sz (l.getD 0).toNat (cutL xs l h).length x0) (.l sz enc (cutL xs l h))))]⟩
      else none
    | _, _, _, _ => none)
  | _ => none

theorem eSlcV_ok (R : Rel P fsA β φ dom ψ IN w0 w) (hb : ∀ id, base ≤ id → id < base + stride → ¬ dom id) (hsub : ∀ id f, fs id = some f → fsA id = some f) {T : TypeId} {x : AV} {lo hi : Option AV} {r : OpR} (h : eSlcV P fs base T x lo hi = some r) (hv : AllP r.vcs)
    (hT : tElem P T ≠ none) :
    Snd P fsA base r β φ dom ψ IN w0 ((do pure (Next.value (← Instr.sliceAt T (val β x) (lo.map (val β)) (hi.map (val β)) none)) : Sem Next).run P w) := by
  have hnb : ¬ dom base := hb base (Nat.le_refl _) (by unfold stride; omega)
  unfold eSlcV at h
  split at h
  · rename_i X
    split at h
    · rename_i x0 α inst sz enc xs s l hh hX hs hl hh'
      cases hbq : Nat.beq s sz with
      | false => rw [hbq] at h; cases h
      | true =>
        rw [hbq] at h
        simp only [cond_true, Option.some.injEq] at h
        subst h
        have hsz := Nat.eq_of_beq_eq_true hbq
        subst hsz
        obtain ⟨U, hU, hs⟩ := Option.bind_eq_some_iff.1 hs
        obtain ⟨inf, hinf, hsize⟩ := Option.map_eq_some_iff.1 hs
        obtain ⟨hd0, ex0, hrd⟩ := R.ok X _ (hsub _ _ hX)
        obtain ⟨a, c, e1, e2, e3, e4⟩ := hrd
        obtain ⟨v1, v2, v3⟩ := hv.1
        obtain ⟨q1, q2⟩ := cutL_ok xs l hh v1 v2 v3
        have e1' : val β (.h X 0) = .slice a xs.length c := ex0.trans e1
        have hrun : (do pure (Next.value (← Instr.sliceAt T (val β (.h X 0)) (lo.map (val β)) (hi.map (val β)) none)) : Sem Next).run P w =
            .ok (.value (.slice (if c = (l.getD 0).toNat then a else a.map (·.add ((l.getD 0).toNat * s))) (cutL xs l hh).length (c - (l.getD 0).toNat))) w := by
          have := run_bounds (P := P) (w := w) (β := β) (isS := true) (len := xs.length) (cap := c) hl hh' v1 v2 v3 e2
          rw [q1, e1']
          simp [Instr.sliceAt, Instr.slice, run_underlying (tElem_ok hU), this, sizeOf, typeInfo, hinf, hsize]
        rw [e1]
        generalize hL : (l.getD 0).toNat = L at *
        generalize hH : (hh.getD (xs.length : Int)).toNat = H at *
        have hread : RdV ψ w (.l s enc (cutL xs l hh)) (.slice (if c = L then a else a.map (·.add (L * s))) (cutL xs l hh).length (c - L)) := by
          refine ⟨_, _, rfl, by omega, by omega, fun i y hy => ?_⟩
          obtain ⟨k1, k2⟩ := q2 i y hy
          obtain ⟨f1, f2, cs, f3, f4, f5⟩ := e4 _ _ k1
          have hcL : ¬ c = L := by omega
          have ha : (if c = L then a else a.map (·.add (L * s))) = some ⟨ab a, ao a + L * s, none⟩ := by rw [if_neg hcL, f1]; simp [Addr.add_lit, ab, ao]
          rw [ha]
          refine ⟨rfl, f2, cs, f3, ?_, f5⟩
          simp only [ab, ao, Option.getD_some] at f4 ⊢
          rw [Nat.add_assoc, ← Nat.add_mul]
          exact f4
        refine Snd.new1 R hb _ (fun _ => .slice (if c = L then a else a.map (·.add (L * s))) (cutL xs l hh).length (c - L)) [] (Bel.refl _ _) (fun _ => rfl) ?_ (fun V d e => by cases e) (fun e => by cases e) (.inr rfl) (by rw [hrun]; simp only [val, up_self])
        show up β base _ base 0 = _ ∧ RdV ψ w _ _
        rw [up_self]
        exact ⟨rfl, hread⟩
    · cases h
  · cases h

/-- a slice's part, and where it lies in it -/
def ePart (P : Program) (fs : Nat → Option Fact) (base : Nat) (T : TypeId) (x : AV) (lo hi : Option AV) : Option OpR :=
  match datOf fs x, (tElem P T).bind (tSize P), optI lo, optI hi with
  | some (@Dat.l _ _ sz enc xs, dep), some s, some l, some h => bif Nat.beq s sz then
      (match x with
        | .h X 0 => (match fs X with | some (.own V (@Dat.l _ _ _ _ _)) => some ⟨[0 ≤ l.getD 0 ∧ l.getD 0 ≤ h.getD xs.length ∧ h.getD xs.length ≤ xs.length], .h base 0, [(base, some (.part X V (l.getD 0).toNat sz (.l sz enc (cutL xs l h))))]⟩ | _ => none)
        | _ => none)
    else none
  | _, _, _, _ => none

theorem ePart_ok (R : Rel P fsA β φ dom ψ IN w0 w) (hb : ∀ id, base ≤ id → id < base + stride → ¬ dom id) (hsub : ∀ id f, fs id = some f → fsA id = some f) {T : TypeId} {x : AV} {lo hi : Option AV} {r : OpR} (h : ePart P fs base T x lo hi = some r) (hv : AllP r.vcs)
    (hT : tElem P T ≠ none) :
    Snd P fsA base r β φ dom ψ IN w0 ((do pure (Next.value (← Instr.sliceAt T (val β x) (lo.map (val β)) (hi.map (val β)) none)) : Sem Next).run P w) := by
  have hnb : ¬ dom base := hb base (Nat.le_refl _) (by unfold stride; omega)
  unfold ePart at h
  split at h
  · rename_i α inst sz enc xs dep s l hh hdat hs hl hh'
    cases hbq : Nat.beq s sz with
    | false => rw [hbq] at h; cases h
    | true =>
      rw [hbq] at h
      simp only [cond_true] at h
      have hsz := Nat.eq_of_beq_eq_true hbq
      subst hsz
      obtain ⟨U, hU, hs⟩ := Option.bind_eq_some_iff.1 hs
      obtain ⟨inf, hinf, hsize⟩ := Option.map_eq_some_iff.1 hs
      obtain ⟨hrd, hdep, hwf, hone1⟩ := datOf_ok R hsub hdat
      obtain ⟨a, c, e1, e2, e3, e4⟩ := hrd
      split at h
      case h_2 => cases h
      rename_i X
      split at h
      case h_2 => cases h
      rename_i V _ _ _ _ _ hX
      simp only [Option.some.injEq] at h
      subst h
      have hvc : 0 ≤ l.getD 0 ∧ l.getD 0 ≤ hh.getD xs.length ∧ hh.getD xs.length ≤ xs.length := hv.1
      obtain ⟨v1, v2, v3⟩ := hvc
      obtain ⟨q1, q2⟩ := cutL_ok xs l hh v1 v2 v3
      have hrun : (do pure (Next.value (← Instr.sliceAt T (val β (.h X 0)) (lo.map (val β)) (hi.map (val β)) none)) : Sem Next).run P w =
          .ok (.value (.slice (if c = (l.getD 0).toNat then a else a.map (·.add ((l.getD 0).toNat * s))) (cutL xs l hh).length (c - (l.getD 0).toNat))) w := by
        have := run_bounds (P := P) (w := w) (β := β) (isS := true) (len := xs.length) (cap := c) hl hh' v1 v2 v3 e2
        rw [q1, e1]
        simp [Instr.sliceAt, Instr.slice, run_underlying (tElem_ok hU), this, sizeOf, typeInfo, hinf, hsize]
      generalize hL : (l.getD 0).toNat = L at *
      generalize hH : (hh.getD (xs.length : Int)).toNat = H at *
      have hLH : L ≤ H := by omega
      have hHx : H ≤ xs.length := by omega
      -- where its elements lie
      have hadr : ∀ (i : Nat) (y : α), (cutL xs l hh)[i]? = some y → (if c = L then a else a.map (·.add (L * s))) = some ⟨ab a, ao a + L * s, none⟩ := by
        intro i y hy
        obtain ⟨k1, k2⟩ := q2 i y hy
        obtain ⟨f1, _⟩ := e4 _ _ k1
        have hcL : ¬ c = L := by omega
        rw [if_neg hcL]
        rw [f1]
        simp [Addr.add_lit, ab, ao]
      have hread : ∀ S : Nat → Prop, (∀ (i : Nat) (y : α), xs[i]? = some y → a = some ⟨ab a, ao a, none⟩ ∧ S (ab a) ∧ ∃ cs : List Value, cs.length = s ∧ Has w (ab a) (ao a + i * s) cs ∧ RdVs S w (enc y) cs) →
          RdV S w (.l s enc (cutL xs l hh)) (.slice (if c = L then a else a.map (·.add (L * s))) (cutL xs l hh).length (c - L)) := by
        intro S h4
        refine ⟨_, _, rfl, by omega, by omega, fun i y hy => ?_⟩
        obtain ⟨k1, k2⟩ := q2 i y hy
        obtain ⟨f1, f2, cs, f3, f4, f5⟩ := h4 _ _ k1
        have ha := hadr i y hy
        rw [ha]
        refine ⟨rfl, f2, cs, f3, ?_, f5⟩
        simp only [ab, ao, Option.getD_some] at f4 ⊢
        rw [Nat.add_assoc, ← Nat.add_mul]
        exact f4
      simp only [datOf, hX, Dat.view] at hdat
      cases hdat
      obtain ⟨hl, hdX, hdV⟩ := hdep X V rfl
      have hXb : X ≠ base := fun e => hnb (e ▸ hdX)
      refine Snd.new1 R hb _ (fun _ => .slice (if c = L then a else a.map (·.add (L * s))) (cutL xs l hh).length (c - L)) [] (Bel.refl _ _) (fun _ => rfl) ?_ (fun V d e => by cases e) (fun e => by cases e) (.inr rfl) (by rw [hrun]; simp only [val, up_self])
      refine ⟨.inl hdX, .inl hdV, fun _ => ⟨?_, a, xs.length, c, (cutL xs l hh).length, ?_, by omega, e2, ?_⟩⟩
      · rw [up_self, up_ne _ _ _ hXb]
        exact hread _ e4
      · rw [up_ne _ _ _ hXb]; exact e1
      · rw [up_self]
  · cases h

/-! ### make -/

/-- zero cells are an element -/
def MakeOK (sz : Nat) (zs : List Dat) (n : Nat) (d : Dat) : Prop :=
  ∃ (α : Type) (_ : Inhabited α) (enc : α → List Dat) (z : α), d = .l sz enc (List.replicate n z) ∧ Imps zs (enc z)
theorem MakeOK.mk {α : Type} [Inhabited α] {sz n : Nat} {zs : List Dat} (enc : α → List Dat) (z : α) (h : Imps zs (enc z)) : MakeOK sz zs n (.l sz enc (List.replicate n z)) := ⟨α, inferInstance, enc, z, rfl, h⟩

def eMake (P : Program) (base : Nat) (T : TypeId) (l c : AV) (d : Dat) : Option OpR :=
  match l, c, (tElem P T).bind P.info? with
  | .v (.int .i64 n), .v (.int .i64 m), some inf => (match inf.zero with
    | some z => bif Nat.ble 1 inf.size && Nat.ble 1 inf.bytes && Nat.beq z.cells.size inf.size && z.cells.toList.all (fun v => v.oneCell') then
        some ⟨[0 ≤ n ∧ n ≤ m ∧ (inf.bytes : Int) * m ≤ 281474976710656, MakeOK inf.size (z.cells.toList.map .v) n.toNat d], .h base 0, [(base, some (.own base d))]⟩ else none
    | none => none)
  | _, _, _ => none

theorem OwVs.flat {vs : List Value} (h : (vs.all fun v => v.oneCell') = true) : OwVs w (vs.map .v) vs [] := by
  induction vs with
  | nil => exact ⟨rfl, rfl⟩
  | cons v vs ih =>
    simp only [List.all_cons, Bool.and_eq_true] at h
    exact ⟨v, vs, [], [], rfl, ⟨rfl, h.1, rfl⟩, ih h.2, rfl, List.nodup_nil⟩

theorem eMake_ok (R : Rel P fsA β φ dom ψ IN w0 w) (hb : ∀ id, base ≤ id → id < base + stride → ¬ dom id) {T : TypeId} {l c : AV} {d : Dat} {r : OpR} (h : eMake P base T l c d = some r) (hv : AllP r.vcs) :
    Snd P fsA base r β φ dom ψ IN w0 ((do pure (Next.value (← Instr.makeSlice T (val β l) (val β c))) : Sem Next).run P w) := by
  have hnb : ¬ dom base := hb base (Nat.le_refl _) (by unfold stride; omega)
  unfold eMake at h
  split at h
  · rename_i n m inf hinf
    split at h
    · rename_i z hz
      cases hbb : (Nat.ble 1 inf.size && Nat.ble 1 inf.bytes && Nat.beq z.cells.size inf.size && z.cells.toList.all (fun v => v.oneCell')) with
      | false => rw [hbb] at h; cases h
      | true =>
        rw [hbb] at h
        cases h
        simp only [Bool.and_eq_true] at hbb
        obtain ⟨⟨⟨b1, b2⟩, b3⟩, b4⟩ := hbb
        have b1 := Nat.le_of_ble_eq_true b1
        have b2 := Nat.le_of_ble_eq_true b2
        have b3 := Nat.eq_of_beq_eq_true b3
        obtain ⟨⟨h0, hnm, hby⟩, ⟨α, inst, enc, zz, rfl, hzz⟩, _⟩ := hv
        obtain ⟨U, hU, hinf⟩ := Option.bind_eq_some_iff.1 hinf
        obtain ⟨n, rfl⟩ : ∃ n' : Nat, n = (n' : Int) := ⟨n.toNat, by omega⟩
        obtain ⟨m, rfl⟩ : ∃ m' : Nat, m = (m' : Int) := ⟨m.toNat, by omega⟩
        have hm48 : m ≤ 281474976710656 := by
          have h1 : (m : Int) ≤ (inf.bytes : Int) * (m : Int) := by
            have : (1 : Int) * (m : Int) ≤ (inf.bytes : Int) * (m : Int) := Int.mul_le_mul_of_nonneg_right (by omega) (by omega)
            omega
          omega
        have hnm' : n ≤ m := by omega
        have hwn : IntKind.i64.wrap (n : Int) = (n : Int) := wrap_in (by omega) (by omega)
        have hwm : IntKind.i64.wrap (m : Int) = (m : Int) := wrap_in (by omega) (by omega)
        have hb1 : ¬ ((m : Int) < 0) := by omega
        have hb2 : ¬ ((inf.bytes : Int) * (m : Int) > 281474976710656) := by omega
        have hb3 : ¬ ((n : Int) < 0) := by omega
        have hb4 : ¬ ((n : Int) > (m : Int)) := by omega
        have hr : (do pure (Next.value (← Instr.makeSlice T (val β (.v (.int .i64 (n : Int)))) (val β (.v (.int .i64 (m : Int)))))) : Sem Next).run P w = .ok (.value (.slice (some ⟨w.heap.size, 0, none⟩) n m)) { w with heap := w.heap.push (.cells (zeros z.cells.toList m).toArray U) } := by
          have hmc := madeCells_eq z.cells m (by omega)
          rw [b3] at hmc
          by_cases hm0 : m = 0
          · subst hm0
            obtain rfl : n = 0 := by omega
            have h00 : IntKind.i64.wrap 0 = 0 := rfl
            simp [val, Instr.makeSlice, asInt, asIntOf, run_underlying (tElem_ok hU), typeInfo, hinf, h00, sizeOf, newRow, zeros]
            have hr0 : Array.range 0 = #[] := by simp
            rw [hr0]; simp
          · have hns : ¬ (m * inf.size = 0) := by
              intro h; rcases Nat.mul_eq_zero.1 h with h | h <;> omega
            simp [val, Instr.makeSlice, asInt, asIntOf, run_underlying (tElem_ok hU), typeInfo, hinf, hwn, hwm, hb1, hb2, hb3, hb4, sizeOf, zeroValue, hz, newRow, b3]
            rw [if_neg (by omega), hmc]
        have hbelow := bpush w (.cells (zeros z.cells.toList m).toArray U)
        have hzl : z.cells.toList.length = inf.size := by simpa using b3
        refine Snd.new1 R hb (.own base (.l inf.size enc (List.replicate n zz))) (fun _ => .slice (some ⟨w.heap.size, 0, none⟩) n m) [w.heap.size] hbelow (fun _ => rfl) ⟨.inr rfl, ?_⟩ (fun V d e => by cases e; exact hnb) (fun _ b hbb => ?_) (.inr rfl) (by rw [hr]; simp only [val, up_self])
        · rw [up_self, up_self]
          refine ⟨some ⟨w.heap.size, 0, none⟩, m, by simp, by simp; omega, by simp; omega, .inr ⟨w.heap.size, 0, U, zeros z.cells.toList m, List.replicate n [], rfl, by simp [Box], ?_, by simp, ?_, by simp, by simp⟩⟩
          · rw [zeros_len, hzl]; omega
          · intro i y f hy hf
            have hi : i < n := by have := (List.getElem?_eq_some_iff.1 hy).1; simpa using this
            have e1 : y = zz := by have := (List.getElem?_eq_some_iff.1 hy).2; simpa using this.symm
            have e2 : f = [] := by have := (List.getElem?_eq_some_iff.1 hf).2; simpa using this.symm
            subst e1; subst e2
            have := flat_chunk (sz := inf.size) (List.replicate m z.cells.toList) i z.cells.toList (by intro q hq; rw [List.eq_of_mem_replicate hq]; exact hzl) (by rw [List.getElem?_replicate, if_pos (by omega)])
            rw [Nat.zero_add]
            show (((List.replicate m z.cells.toList).flatten.drop (i * inf.size)).take inf.size).length = _ ∧ _
            have e3 : ((zeros z.cells.toList m).drop (i * inf.size)).take inf.size = z.cells.toList := this
            rw [e3, this]
            exact ⟨hzl, hzz.ow (OwVs.flat b4)⟩
        · simp only [List.mem_singleton] at hbb
          subst hbb
          simp
    · cases h
  · cases h

end
end Go.Proofs.YtbhjkcicpobmhaaDoor
