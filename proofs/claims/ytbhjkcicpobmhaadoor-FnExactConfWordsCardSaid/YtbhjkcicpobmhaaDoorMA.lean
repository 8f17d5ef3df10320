/-
  The machine, tenth part: what functions do.
-/
import Derived.Test.YtbhjkcicpobmhaaDoorM9
namespace Go.Proofs.YtbhjkcicpobmhaaDoor
open Go.RowKit
set_option linter.unusedVariables false
set_option linter.unusedSimpArgs false

/-- an argument: only read; a pointer to a variable that is changed (its data before and behind); a pointer to what is only read; a slice that is taken (and left as another one); a function value -/
inductive Arg : Type 1 where
  | r (a : RA)
  | pt (T : TypeId) (ds ds' : List Dat)
  | rp (ds : List Dat)
  | ow (d : Dat) (d' : Option Dat)
  | og (ds ds' : List Dat)
  | ot (ds : List Dat)
  | vl (x : Value) (d : Dat)
  | ptg (gi : Nat) (T : TypeId) (x : Value) (d : Dat) (ds ds' : List Dat)
  | fn (F : FnSpec) (D : Bool := false)

/-- a result -/
inductive RT : Type 1 where
  | v (x : Value)
  | ow (d : Dat)
  | ag (l : List RT)
  | tu (l : List RT)
  | cl (f : FuncId) (l : List RT)
  | pt (T : TypeId) (ds : List Dat)

def ArgOK (P : Program) (S : Nat → Prop) (w : World) : Arg → Value → List Nat → Prop
  | .r a, v, fp => RdArg S w a v ∧ fp = []
  | .pt T ds _, v, fp => ∃ b vs f, v = .pointer (some ⟨b, 0, none⟩) ∧ Box w b T vs ∧ OwVs w ds vs f ∧ fp = b :: f ∧ fp.Nodup
  | .rp ds, v, fp => (∃ b o vs, v = .pointer (some ⟨b, o, none⟩) ∧ S b ∧ Has w b o vs ∧ RdVs S w ds vs) ∧ fp = []
  | .ow d _, v, fp => OwV w d v fp
  | .og ds _, v, fp => ∃ vs, v = .agg vs.toArray ∧ OwVs w ds vs fp
  | .ot ds, v, fp => ∃ vs, v = .agg vs.toArray ∧ OwVs w ds vs fp
  | .vl x d, v, fp => (v = x ∧ RdV S w d x) ∧ fp = []
  | .ptg _ T x d ds _, v, fp => (∃ b vs f, v = .pointer (some ⟨b, 0, none⟩) ∧ Box w b T (x :: vs) ∧ OwVs w ds vs f ∧ fp = b :: f ∧ fp.Nodup) ∧ RdV S w d x
  | .fn F D, v, fp => FnOK D P S w F v ∧ fp = []
def ArgsOK (P : Program) (S : Nat → Prop) (w : World) : List Arg → List Value → List Nat → Prop
  | [], vs, fp => vs = [] ∧ fp = []
  | a :: as, vs, fp => ∃ u us f g, vs = u :: us ∧ ArgOK P S w a u f ∧ ArgsOK P S w as us g ∧ fp = f ++ g ∧ fp.Nodup

/-- what an argument is behind the call -/
def BehOK (w : World) : Arg → Value → List Nat → Prop
  | .pt T _ ds', v, fp => ∃ b vs f, v = .pointer (some ⟨b, 0, none⟩) ∧ Box w b T vs ∧ OwVs w ds' vs f ∧ fp = b :: f
  | .ptg _ T x _ _ ds', v, fp => ∃ b vs f, v = .pointer (some ⟨b, 0, none⟩) ∧ Box w b T (x :: vs) ∧ OwVs w ds' vs f ∧ fp = b :: f
  | .ow _ (some d'), v, fp => OwV w d' v fp
  | .og _ ds', v, fp => ∃ vs, v = .agg vs.toArray ∧ OwVs w ds' vs fp
  | _, _, fp => fp = []
def BehsOK (w : World) : List Arg → List Value → List Nat → Prop
  | [], _, fp => fp = []
  | a :: as, vs, fp => ∃ u us f g, vs = u :: us ∧ BehOK w a u f ∧ BehsOK w as us g ∧ fp = f ++ g

mutual
def RTOK (w : World) : RT → Value → List Nat → Prop
  | .v x, v, fp => v = x ∧ x.oneCell' = true ∧ fp = []
  | .ow d, v, fp => OwV w d v fp
  | .ag l, v, fp => ∃ vs, v = .agg vs.toArray ∧ (vs.all fun v => v.oneCell') = true ∧ RTsOK w l vs fp
  | .tu l, v, fp => ∃ vs, v = .tuple vs.toArray ∧ RTsOK w l vs fp
  | .cl f l, v, fp => ∃ vs, v = .func (.func f) #[] vs.toArray ∧ RTsOK w l vs fp
  | .pt T ds, v, fp => ∃ b vs f, v = .pointer (some ⟨b, 0, none⟩) ∧ Box w b T vs ∧ OwVs w ds vs f ∧ fp = b :: f ∧ fp.Nodup
def RTsOK (w : World) : List RT → List Value → List Nat → Prop
  | [], vs, fp => vs = [] ∧ fp = []
  | r :: rs, vs, fp => ∃ u us f g, vs = u :: us ∧ RTOK w r u f ∧ RTsOK w rs us g ∧ fp = f ++ g
end

/-- a call -/
structure Spec : Type 1 where
  args : List Arg
  res : RT
  pre : Prop

def Spec.ok (P : Program) (f : FuncId) (sp : Spec) (D : Bool := true) : Prop :=
  sp.pre → ∀ (S : Nat → Prop) (w : World) (vs : List Value) (fp : List Nat), (∀ b, S b → b < w.heap.size ∧ b ∉ fp) → GOK S w → ArgsOK P S w sp.args vs fp →
    Calls P f vs.toArray w fun e w' => ∃ rv fr fb, e = .returned rv ∧ RTOK w' sp.res rv fr ∧ BehsOK w' sp.args vs fb ∧ (fr ++ fb).Nodup ∧ (∀ b ∈ fr ++ fb, b < w'.heap.size ∧ (b ∈ fp ∨ w.heap.size ≤ b)) ∧ Chg (· ∈ fp) (atD D w) w'
theorem Spec.ok.to {P : Program} {f : FuncId} {sp : Spec} (D : Bool) (h : sp.ok P f) : sp.ok P f D := fun hp S w vs fp h1 h2 h3 => (h hp S w vs fp h1 h2 h3).mono fun e w' ⟨rv, fr, fb, e1, e2, e3, e4, e5, e6⟩ => ⟨rv, fr, fb, e1, e2, e3, e4, e5, Chg.toD D e6⟩

/-- a function value that is made of a function: what it is made of is only read -/
structure FnH (P : Program) : Type 1 where
  D : Bool := true
  f : FuncId
  F : FnSpec
  cap : List Arg
  ro : (cap.all fun a => match a with | .r _ => true | .rp _ => true | _ => false) = true
  pre : Prop
  ok : ∀ i, Spec.ok P f ⟨(F.arg i).map .r ++ cap, .v (F.res i), pre⟩ D


/-! ### What comes back -/

def cellsB : Nat → List Dat → List AV × List (Nat × Option Fact) × Nat
  | n, [] => ([], [], n)
  | n, .v x :: ds => let b := cellsB n ds; (.v x :: b.1, b.2)
  | n, d :: ds => let b := cellsB (n + 1) ds; (.h n 0 :: b.1, (n, some (.own n d)) :: b.2.1, b.2.2)
mutual
def resA : Nat → RT → AV × List (Nat × Option Fact) × Nat
  | n, .v x => (.v x, [], n)
  | n, .ow d => (.h n 0, [(n, some (.own n d))], n + 1)
  | n, .ag l => let r := resAs n l; (.ag r.1, r.2)
  | n, .tu l => let r := resAs n l; (.tu r.1, r.2)
  | n, .cl f l => let r := resAs n l; (.cl f r.1, r.2)
  | n, .pt T ds => let c := cellsB n ds; (.p c.2.2 0, c.2.1 ++ [(c.2.2, some (.box T c.1))], c.2.2 + 1)
def resAs : Nat → List RT → List AV × List (Nat × Option Fact) × Nat
  | n, [] => ([], [], n)
  | n, r :: rs => let a := resA n r; let b := resAs a.2.2 rs; (a.1 :: b.1, a.2.1 ++ b.2.1, b.2.2)
end
theorem fupds_app (fs : Nat → Option Fact) (l l' : List (Nat × Option Fact)) : fupds fs (l ++ l') = fupds (fupds fs l) l' := by
  induction l generalizing fs with
  | nil => rfl
  | cons a l ih => exact ih _

section
variable {P : Program} {fs fsA : Nat → Option Fact} {β : Nat → Nat → Value} {φ : Nat → List Nat} {dom ψ IN : Nat → Prop} {w0 w w' : World} {base : Nat}

/-- blocks that belong to nobody yet -/
def Loose (fs : Nat → Option Fact) (φ : Nat → List Nat) (ψ IN : Nat → Prop) (w0 w : World) (L : List Nat) : Prop :=
  L.Nodup ∧ ∀ b ∈ L, b < w.heap.size ∧ (w0.heap.size ≤ b ∨ IN b) ∧ ¬ ψ b ∧ ∀ id f, fs id = some f → f.mod = true → b ∉ φ id

/-- the machine's knowledge with some loose blocks -/
structure RL (P : Program) (fs : Nat → Option Fact) (β : Nat → Nat → Value) (φ : Nat → List Nat) (dom ψ IN : Nat → Prop) (w0 w : World) (L : List Nat) : Prop where
  rel : Rel P fs β φ dom ψ IN w0 w
  loose : Loose fs φ ψ IN w0 w L

/-- a fact about loose blocks: item X, in state V -/
theorem RL.add {L f : List Nat} (H : RL P fs β φ dom ψ IN w0 w (f ++ L)) (X : Nat) (g : Fact) (βn : Nat → Value) (dn : Nat → Prop) (hm : g.mod = true) (hX : fs X = none) (hβ : dom X → βn = β X) (hone : ∀ j, (βn j).oneCell' = true) (hdn : ∀ i, dom i → dn i) (hdX : dn X)
    (hF : FactOK P (fupd fs X (some g)) (up β X βn) (up φ X f) dn ψ w X g) (hV : ∀ V d, g = .own V d → ¬ dom V) : RL P (fupd fs X (some g)) (up β X βn) (up φ X f) dn ψ IN w0 w L := by
  obtain ⟨R, hnd, hL⟩ := H
  obtain ⟨nd1, nd2, nd3⟩ := List.nodup_append.1 hnd
  have hpres : ∀ id, dom id → dn id ∧ up β X βn id = β id := by
    intro id h
    refine ⟨hdn id h, ?_⟩
    by_cases e : id = X
    · subst e; rw [up_self]; exact hβ h
    · exact up_ne _ _ _ e
  have hlk : ∀ id g', fupd fs X (some g) id = some g' → (id = X ∧ g' = g) ∨ (id ≠ X ∧ fs id = some g') := by
    intro id g' h
    rw [fupd_eq] at h
    by_cases e : id = X
    · rw [if_pos e] at h; exact .inl ⟨e, (Option.some.inj h).symm⟩
    · rw [if_neg e] at h; exact .inr ⟨e, h⟩
  have hold : ∀ id g', id ≠ X → fs id = some g' → dn id ∧ FactOK P (fupd fs X (some g)) (up β X βn) (up φ X f) dn ψ w id g' := by
    -- by the step's law, at an item that is new and empty
    have R2 := R.step (NN := (· = X)) (C := fun _ => False) (fs' := fun i => if i = X then none else fs i) (β' := up β X βn) (φ' := up φ X f) (dom' := dn) (w' := w) (Chg.of_below (Bel.refl _ _)) hpres (up_all1 R.all1 _ hone) (fun id g' h => ?_) (fun id hn => up_ne _ _ _ hn) (fun b _ h => h.elim) (fun id g' hn h => ?_) (fun id V d hn h => ?_) (fun id g' hn h => ?_) (fun i j g' g'' hi hj h => ?_)
    · intro id g' hne hf
      obtain ⟨h1, h2⟩ := R2.ok id g' (by simp only [if_neg hne]; exact hf)
      refine ⟨h1, ?_⟩
      have hlive : ∀ Y V, dom V → Live (fupd fs X (some g)) Y V → Live (fun i => if i = X then none else fs i) Y V := by
        rintro Y V hdV ⟨d, hd⟩
        rcases hlk Y _ hd with ⟨rfl, e⟩ | ⟨hne', h⟩
        · exact absurd hdV (hV V d e.symm)
        · exact ⟨d, by simp only [if_neg hne']; exact h⟩
      have hold := (R.ok id g' hf).2
      cases g' with
      | shr dep d =>
        cases dep with
        | none => exact h2
        | some YV => exact ⟨h2.1, h2.2.1, fun hl => h2.2.2 (hlive _ _ hold.2.1 hl)⟩
      | mem dep el ds =>
        cases dep with
        | none => exact h2
        | some YV => exact ⟨h2.1, h2.2.1, fun hl => h2.2.2 (hlive _ _ hold.2.1 hl)⟩
      | box T cs => exact h2
      | own V d => exact h2
      | arr n cs => exact h2
      | fn F => exact h2
      | vl x d => exact h2
      | part Y V lo sz d => exact ⟨h2.1, h2.2.1, fun hl => h2.2.2 (hlive _ _ hold.2.1 hl)⟩
    · by_cases e : id = X
      · exact .inl e
      · simp only [if_neg e] at h; exact .inr h
    · simp only [if_pos hn] at h; cases h
    · simp only [if_pos hn] at h; cases h
    · simp only [if_pos hn] at h; cases h
    · simp only [if_pos hi] at h; cases h
  refine ⟨⟨fun id g' h => ?_, fun i j g1 g2 h1 h2 m1 m2 hne b hb1 hb2 => ?_, fun id g' h hm' b hb => ?_, R.psi, up_all1 R.all1 _ hone, R.chg, R.glo⟩, nd2, fun b hb => ?_⟩
  · rcases hlk id g' h with ⟨rfl, rfl⟩ | ⟨hne, h⟩
    · exact ⟨hdX, hF⟩
    · exact hold id g' hne h
  · rcases hlk i g1 h1 with ⟨rfl, rfl⟩ | ⟨hi, h1'⟩ <;> rcases hlk j g2 h2 with ⟨rfl, rfl⟩ | ⟨hj, h2'⟩
    · exact hne rfl
    · rw [up_self] at hb1; rw [up_ne _ _ _ hj] at hb2
      exact (hL b (List.mem_append_left _ hb1)).2.2.2 j g2 h2' m2 hb2
    · rw [up_self] at hb2; rw [up_ne _ _ _ hi] at hb1
      exact (hL b (List.mem_append_left _ hb2)).2.2.2 i g1 h1' m1 hb1
    · rw [up_ne _ _ _ hi] at hb1; rw [up_ne _ _ _ hj] at hb2
      exact R.dis i j g1 g2 h1' h2' m1 m2 hne b hb1 hb2
  · rcases hlk id g' h with ⟨rfl, rfl⟩ | ⟨hne, h⟩
    · rw [up_self] at hb
      obtain ⟨k1, k2, k3, _⟩ := hL b (List.mem_append_left _ hb)
      exact ⟨k1, k2, k3⟩
    · rw [up_ne _ _ _ hne] at hb
      exact R.lt id g' h hm' b hb
  · obtain ⟨k1, k2, k3, k4⟩ := hL b (List.mem_append_right _ hb)
    refine ⟨k1, k2, k3, fun id g' h hm' hbi => ?_⟩
    rcases hlk id g' h with ⟨rfl, rfl⟩ | ⟨hne, h⟩
    · rw [up_self] at hbi
      exact nd3 b hbi b hb rfl
    · rw [up_ne _ _ _ hne] at hbi
      exact k4 id g' h hm' hbi

/-- numbers from n to n' have become items -/
structure Ext (β β' : Nat → Nat → Value) (dom dom' : Nat → Prop) (n n' : Nat) : Prop where
  le : n ≤ n'
  old : ∀ id, dom id → dom' id ∧ β' id = β id
  new : ∀ id, dom' id → dom id ∨ (n ≤ id ∧ id < n')
theorem Ext.refl (β : Nat → Nat → Value) (dom : Nat → Prop) (n : Nat) : Ext β β dom dom n n := ⟨Nat.le_refl _, fun _ h => ⟨h, rfl⟩, fun _ h => .inl h⟩
theorem Ext.trans {β β' β'' : Nat → Nat → Value} {dom dom' dom'' : Nat → Prop} {n m k : Nat} (h : Ext β β' dom dom' n m) (h' : Ext β' β'' dom' dom'' m k) : Ext β β'' dom dom'' n k :=
  ⟨Nat.le_trans h.le h'.le, fun id hid => ⟨(h'.old id (h.old id hid).1).1, (h'.old id (h.old id hid).1).2.trans (h.old id hid).2⟩, fun id hid => by
    rcases h'.new id hid with h1 | h1
    · rcases h.new id h1 with h2 | h2
      · exact .inl h2
      · exact .inr ⟨h2.1, Nat.lt_of_lt_of_le h2.2 h'.le⟩
    · exact .inr ⟨Nat.le_trans h.le h1.1, h1.2⟩⟩

/-- a slice of its own, as item n -/
theorem RL.own {L f : List Nat} (H : RL P fs β φ dom ψ IN w0 w (f ++ L)) (n : Nat) (hn : ¬ dom n) {d : Dat} {v : Value} (ho : OwV w d v f) :
    ∃ β' φ' dom', RL P (fupd fs n (some (.own n d))) β' φ' dom' ψ IN w0 w L ∧ Ext β β' dom dom' n (n + 1) ∧ β' n 0 = v ∧ dom' n := by
  have hfn : fs n = none := by
    cases h : fs n with
    | none => rfl
    | some g => exact absurd (H.rel.ok n g h).1 hn
  refine ⟨up β n (fun _ => v), up φ n f, fun i => dom i ∨ i = n, H.add n _ (fun _ => v) (fun i => dom i ∨ i = n) rfl hfn (fun h => absurd h hn) (fun _ => (OwV.rd _ _ _ ho).one) (fun _ h => .inl h) (.inr rfl) ⟨.inr rfl, by rw [up_self, up_self]; exact ho⟩ (fun V d e => by cases e; exact hn), ⟨Nat.le_succ _, fun id h => ⟨.inl h, up_ne _ _ _ fun e => hn (e ▸ h)⟩, fun id h => ?_⟩, by rw [up_self], .inr rfl⟩
  · rcases h with h | rfl
    · exact .inl h
    · exact .inr ⟨Nat.le_refl _, Nat.lt_succ_self _⟩

theorem cellsB_ok : ∀ (ds : List Dat) (n : Nat) (fs : Nat → Option Fact) (β : Nat → Nat → Value) (φ : Nat → List Nat) (dom : Nat → Prop) (vs : List Value) (f L : List Nat), RL P fs β φ dom ψ IN w0 w (f ++ L) → (∀ id, n ≤ id → id < (cellsB n ds).2.2 → ¬ dom id) → OwVs w ds vs f →
    ∃ β' φ' dom', RL P (fupds fs (cellsB n ds).2.1) β' φ' dom' ψ IN w0 w L ∧ Ext β β' dom dom' n (cellsB n ds).2.2 ∧ vals β' (cellsB n ds).1 = vs ∧ AVs.wf dom' (cellsB n ds).1 ∧ (cellsB n ds).1.all AV.one = true
  | [], n, fs, β, φ, dom, vs, f, L, H, hn, ho => by
    obtain ⟨rfl, rfl⟩ := ho
    exact ⟨β, φ, dom, H, Ext.refl _ _ _, rfl, trivial, rfl⟩
  | .v x :: ds, n, fs, β, φ, dom, vs, f, L, H, hn, ho => by
    obtain ⟨u, us, f1, g, rfl, h1, h2, rfl, h3⟩ := ho
    obtain ⟨rfl, hx, rfl⟩ := h1
    obtain ⟨β', φ', dom', k1, k2, k3, k4, k5⟩ := cellsB_ok ds n fs β φ dom us g L H hn h2
    exact ⟨β', φ', dom', k1, k2, by simp only [cellsB, vals, val, k3], ⟨trivial, k4⟩, by simp only [cellsB, List.all_cons, AV.one, hx, k5, Bool.and_self]⟩
  | @Dat.l α _ sz enc xs :: ds, n, fs, β, φ, dom, vs, f, L, H, hn, ho => by
    obtain ⟨u, us, f1, g, rfl, h1, h2, rfl, h3⟩ := ho
    have hle : ∀ (ds : List Dat) (m : Nat), m ≤ (cellsB m ds).2.2 := by
      intro ds
      induction ds with
      | nil => intro m; exact Nat.le_refl _
      | cons d ds ih =>
        intro m
        cases d with
        | v x => exact ih m
        | l sz enc xs => exact Nat.le_trans (Nat.le_succ m) (ih (m + 1))
        | any => exact Nat.le_trans (Nat.le_succ m) (ih (m + 1))
        | x XX => exact Nat.le_trans (Nat.le_succ m) (ih (m + 1))
        | b DD => exact Nat.le_trans (Nat.le_succ m) (ih (m + 1))
    have hlt : n < (cellsB n (Dat.l sz enc xs :: ds)).2.2 := hle ds (n + 1)
    rw [List.append_assoc] at H
    obtain ⟨β1, φ1, dom1, k1, k2, k3, k3'⟩ := H.own n (hn n (Nat.le_refl _) hlt) h1
    obtain ⟨β', φ', dom', m1, m2, m3, m4, m5⟩ := cellsB_ok ds (n + 1) _ β1 φ1 dom1 us g L k1 (fun id h1 h2 hd => by
      rcases k2.new id hd with h | h
      · exact hn id (by omega) h2 h
      · omega) h2
    exact ⟨β', φ', dom', m1, k2.trans m2, by simp only [cellsB, vals, val, m3]; rw [(m2.old n k3').2, k3], ⟨(m2.old n k3').1, m4⟩, by simp only [cellsB, List.all_cons, AV.one, m5, Bool.and_self]⟩
  | .any :: ds, n, fs, β, φ, dom, vs, f, L, H, hn, ho => by
    obtain ⟨u, us, f1, g, rfl, h1, h2, rfl, h3⟩ := ho
    have hle : ∀ (ds : List Dat) (m : Nat), m ≤ (cellsB m ds).2.2 := by
      intro ds
      induction ds with
      | nil => intro m; exact Nat.le_refl _
      | cons d ds ih =>
        intro m
        cases d with
        | v x => exact ih m
        | l sz enc xs => exact Nat.le_trans (Nat.le_succ m) (ih (m + 1))
        | any => exact Nat.le_trans (Nat.le_succ m) (ih (m + 1))
        | x XX => exact Nat.le_trans (Nat.le_succ m) (ih (m + 1))
        | b DD => exact Nat.le_trans (Nat.le_succ m) (ih (m + 1))
    have hlt : n < (cellsB n (Dat.any :: ds)).2.2 := hle ds (n + 1)
    rw [List.append_assoc] at H
    obtain ⟨β1, φ1, dom1, k1, k2, k3, k3'⟩ := H.own n (hn n (Nat.le_refl _) hlt) h1
    obtain ⟨β', φ', dom', m1, m2, m3, m4, m5⟩ := cellsB_ok ds (n + 1) _ β1 φ1 dom1 us g L k1 (fun id h1 h2 hd => by
      rcases k2.new id hd with h | h
      · exact hn id (by omega) h2 h
      · omega) h2
    exact ⟨β', φ', dom', m1, k2.trans m2, by simp only [cellsB, vals, val, m3]; rw [(m2.old n k3').2, k3], ⟨(m2.old n k3').1, m4⟩, by simp only [cellsB, List.all_cons, AV.one, m5, Bool.and_self]⟩
  | .x XX :: ds, n, fs, β, φ, dom, vs, f, L, H, hn, ho => by
    obtain ⟨u, us, f1, g, rfl, h1, h2, rfl, h3⟩ := ho
    have hle : ∀ (ds : List Dat) (m : Nat), m ≤ (cellsB m ds).2.2 := by
      intro ds
      induction ds with
      | nil => intro m; exact Nat.le_refl _
      | cons d ds ih =>
        intro m
        cases d with
        | v x => exact ih m
        | l sz enc xs => exact Nat.le_trans (Nat.le_succ m) (ih (m + 1))
        | any => exact Nat.le_trans (Nat.le_succ m) (ih (m + 1))
        | x XX => exact Nat.le_trans (Nat.le_succ m) (ih (m + 1))
        | b DD => exact Nat.le_trans (Nat.le_succ m) (ih (m + 1))
    have hlt : n < (cellsB n ((Dat.x XX) :: ds)).2.2 := hle ds (n + 1)
    rw [List.append_assoc] at H
    obtain ⟨β1, φ1, dom1, k1, k2, k3, k3'⟩ := H.own n (hn n (Nat.le_refl _) hlt) h1
    obtain ⟨β', φ', dom', m1, m2, m3, m4, m5⟩ := cellsB_ok ds (n + 1) _ β1 φ1 dom1 us g L k1 (fun id h1 h2 hd => by
      rcases k2.new id hd with h | h
      · exact hn id (by omega) h2 h
      · omega) h2
    exact ⟨β', φ', dom', m1, k2.trans m2, by simp only [cellsB, vals, val, m3]; rw [(m2.old n k3').2, k3], ⟨(m2.old n k3').1, m4⟩, by simp only [cellsB, List.all_cons, AV.one, m5, Bool.and_self]⟩
  | .b DD :: ds, n, fs, β, φ, dom, vs, f, L, H, hn, ho => by
    obtain ⟨u, us, f1, g, rfl, h1, h2, rfl, h3⟩ := ho
    have hle : ∀ (ds : List Dat) (m : Nat), m ≤ (cellsB m ds).2.2 := by
      intro ds
      induction ds with
      | nil => intro m; exact Nat.le_refl _
      | cons d ds ih =>
        intro m
        cases d with
        | v x => exact ih m
        | l sz enc xs => exact Nat.le_trans (Nat.le_succ m) (ih (m + 1))
        | any => exact Nat.le_trans (Nat.le_succ m) (ih (m + 1))
        | x XX => exact Nat.le_trans (Nat.le_succ m) (ih (m + 1))
        | b DD => exact Nat.le_trans (Nat.le_succ m) (ih (m + 1))
    have hlt : n < (cellsB n ((Dat.b DD) :: ds)).2.2 := hle ds (n + 1)
    rw [List.append_assoc] at H
    obtain ⟨β1, φ1, dom1, k1, k2, k3, k3'⟩ := H.own n (hn n (Nat.le_refl _) hlt) h1
    obtain ⟨β', φ', dom', m1, m2, m3, m4, m5⟩ := cellsB_ok ds (n + 1) _ β1 φ1 dom1 us g L k1 (fun id h1 h2 hd => by
      rcases k2.new id hd with h | h
      · exact hn id (by omega) h2 h
      · omega) h2
    exact ⟨β', φ', dom', m1, k2.trans m2, by simp only [cellsB, vals, val, m3]; rw [(m2.old n k3').2, k3], ⟨(m2.old n k3').1, m4⟩, by simp only [cellsB, List.all_cons, AV.one, m5, Bool.and_self]⟩

theorem cellsB_le : ∀ (ds : List Dat) (m : Nat), m ≤ (cellsB m ds).2.2
  | [], m => Nat.le_refl _
  | .v x :: ds, m => cellsB_le ds m
  | @Dat.l _ _ sz enc xs :: ds, m => Nat.le_trans (Nat.le_succ m) (cellsB_le ds (m + 1))
  | .any :: ds, m => Nat.le_trans (Nat.le_succ m) (cellsB_le ds (m + 1))
  | .x XX :: ds, m => Nat.le_trans (Nat.le_succ m) (cellsB_le ds (m + 1))
  | .b DD :: ds, m => Nat.le_trans (Nat.le_succ m) (cellsB_le ds (m + 1))

/-- a block of cells, of its own: items of its slices, and one of itself -/
theorem RL.box {b : Nat} {T : TypeId} {ds : List Dat} {vs : List Value} {f2 L : List Nat} (H : RL P fs β φ dom ψ IN w0 w ((b :: f2) ++ L)) (pre : List AV) (hpw : AVs.wf dom pre) (hpo : pre.all AV.one = true) (n : Nat) (hn : ∀ id, n ≤ id → id < (cellsB n ds).2.2 + 1 → ¬ dom id) (e2 : Box w b T (vals β pre ++ vs)) (e3 : OwVs w ds vs f2) :
    ∃ β' φ' dom', RL P (fupds fs ((cellsB n ds).2.1 ++ [((cellsB n ds).2.2, some (.box T (pre ++ (cellsB n ds).1)))])) β' φ' dom' ψ IN w0 w L ∧ Ext β β' dom dom' n ((cellsB n ds).2.2 + 1) ∧ β' (cellsB n ds).2.2 0 = .pointer (some ⟨b, 0, none⟩) ∧ dom' (cellsB n ds).2.2 := by
  have hnd := H.loose.1
  have H1 : RL P fs β φ dom ψ IN w0 w (f2 ++ (b :: L)) := ⟨H.rel, (by
    refine (List.Perm.nodup_iff ?_).1 hnd
    simp only [List.cons_append]
    exact List.perm_middle.symm), fun x hx => H.loose.2 x (by
    simp only [List.mem_append, List.mem_cons] at hx ⊢
    rcases hx with h | h | h
    · exact .inl (.inr h)
    · exact .inl (.inl h)
    · exact .inr h)⟩
  have hle := cellsB_le ds n
  obtain ⟨β1, φ1, dom1, k1, k2, k3, k4, k5⟩ := cellsB_ok ds n fs β φ dom vs f2 _ H1 (fun id h h' => hn id h (by omega)) e3
  have hnn : ¬ dom1 (cellsB n ds).2.2 := fun hd => by
    rcases k2.new _ hd with h | h
    · exact hn _ hle (by omega) h
    · omega
  have hX0 : fupds fs (cellsB n ds).2.1 (cellsB n ds).2.2 = none := by
    cases hh : fupds fs (cellsB n ds).2.1 (cellsB n ds).2.2 with
    | none => rfl
    | some g => exact absurd (k1.rel.ok _ g hh).1 hnn
  have hpw1 : AVs.wf dom1 pre := AVs.wf_mono (fun id h => (k2.old id h).1) _ hpw
  have hall : AVs.wf dom1 (pre ++ (cellsB n ds).1) := AVs.wf_app hpw1 k4
  have hvs : vals (up β1 (cellsB n ds).2.2 fun _ => .pointer (some ⟨b, 0, none⟩)) (pre ++ (cellsB n ds).1) = vals β1 (pre ++ (cellsB n ds).1) := vals_congr (β := β1) (dom := dom1) (fun id hid => up_ne _ _ _ (fun e : id = (cellsB n ds).2.2 => hnn (e ▸ hid))) _ hall
  have hpv : vals β1 pre = vals β pre := vals_congr (β := β) (dom := dom) (fun id h => (k2.old id h).2) _ hpw
  have H2 := RL.add (f := [b]) (L := L) k1 (cellsB n ds).2.2 (.box T (pre ++ (cellsB n ds).1)) (fun _ => .pointer (some ⟨b, 0, none⟩)) (fun i => dom1 i ∨ i = (cellsB n ds).2.2) rfl hX0 (fun h => absurd h hnn) (fun _ => rfl) (fun _ h => .inl h) (.inr rfl) ⟨⟨AVs.wf_mono (fun _ h => .inl h) _ hall, by rw [List.all_append, hpo, k5]; rfl⟩, b, by rw [up_self], by rw [hvs, vals_app, hpv, k3]; exact e2, up_self _ _ _⟩ (fun V d e => by cases e)
  refine ⟨_, _, (fun i => dom1 i ∨ i = (cellsB n ds).2.2), by rw [fupds_app]; exact H2, ⟨by omega, fun id h => ?_, fun id h => ?_⟩, by rw [up_self], .inr rfl⟩
  · refine ⟨.inl (k2.old id h).1, ?_⟩
    rw [up_ne _ _ _ (fun e : id = (cellsB n ds).2.2 => hnn (e ▸ (k2.old id h).1))]
    exact (k2.old id h).2
  · rcases h with h | rfl
    · rcases k2.new id h with h | h
      · exact .inl h
      · exact .inr ⟨h.1, by omega⟩
    · exact .inr ⟨hle, by omega⟩

mutual
theorem resA_le : ∀ (r : RT) (n : Nat), n ≤ (resA n r).2.2
  | .v x, n => Nat.le_refl _
  | .ow d, n => Nat.le_succ _
  | .ag l, n => resAs_le l n
  | .tu l, n => resAs_le l n
  | .cl _ l, n => resAs_le l n
  | .pt T ds, n => Nat.le_succ_of_le (cellsB_le ds n)
theorem resAs_le : ∀ (l : List RT) (n : Nat), n ≤ (resAs n l).2.2
  | [], n => Nat.le_refl _
  | r :: rs, n => Nat.le_trans (resA_le r n) (resAs_le rs _)
end

mutual
theorem resA_ok : ∀ (r : RT) (n : Nat) (fs : Nat → Option Fact) (β : Nat → Nat → Value) (φ : Nat → List Nat) (dom : Nat → Prop) (v : Value) (f L : List Nat), RL P fs β φ dom ψ IN w0 w (f ++ L) → (∀ id, n ≤ id → id < (resA n r).2.2 → ¬ dom id) → RTOK w r v f →
    ∃ β' φ' dom', RL P (fupds fs (resA n r).2.1) β' φ' dom' ψ IN w0 w L ∧ Ext β β' dom dom' n (resA n r).2.2 ∧ val β' (resA n r).1 = v ∧ (resA n r).1.wf dom'
  | .v x, n, fs, β, φ, dom, v, f, L, H, hn, ho => by
    obtain ⟨rfl, hx, rfl⟩ := ho
    exact ⟨β, φ, dom, H, Ext.refl _ _ _, rfl, trivial⟩
  | .ow d, n, fs, β, φ, dom, v, f, L, H, hn, ho => by
    obtain ⟨β1, φ1, dom1, k1, k2, k3, k4⟩ := H.own n (hn n (Nat.le_refl _) (Nat.lt_succ_self _)) ho
    exact ⟨β1, φ1, dom1, k1, k2, k3, k4⟩
  | .ag l, n, fs, β, φ, dom, v, f, L, H, hn, ho => by
    obtain ⟨vs, rfl, _, h1⟩ := ho
    obtain ⟨β', φ', dom', k1, k2, k3, k4⟩ := resAs_ok l n fs β φ dom vs f L H hn h1
    exact ⟨β', φ', dom', k1, k2, by simp only [resA, val, k3], k4⟩
  | .tu l, n, fs, β, φ, dom, v, f, L, H, hn, ho => by
    obtain ⟨vs, rfl, h1⟩ := ho
    obtain ⟨β', φ', dom', k1, k2, k3, k4⟩ := resAs_ok l n fs β φ dom vs f L H hn h1
    exact ⟨β', φ', dom', k1, k2, by simp only [resA, val, k3], k4⟩
  | .cl g l, n, fs, β, φ, dom, v, f, L, H, hn, ho => by
    obtain ⟨vs, rfl, h1⟩ := ho
    obtain ⟨β', φ', dom', k1, k2, k3, k4⟩ := resAs_ok l n fs β φ dom vs f L H hn h1
    exact ⟨β', φ', dom', k1, k2, by simp only [resA, val, k3], k4⟩
  | .pt T ds, n, fs, β, φ, dom, v, f, L, H, hn, ho => by
    obtain ⟨b, vs, f2, rfl, e2, e3, rfl, _⟩ := ho
    obtain ⟨β1, φ1, dom1, k1, k2, k3, k4⟩ := RL.box (L := L) H [] trivial rfl n (fun id h h' => hn id h h') e2 e3
    exact ⟨β1, φ1, dom1, k1, k2, by simp only [resA, val, k3, padd, Nat.zero_add], k4⟩
theorem resAs_ok : ∀ (l : List RT) (n : Nat) (fs : Nat → Option Fact) (β : Nat → Nat → Value) (φ : Nat → List Nat) (dom : Nat → Prop) (vs : List Value) (f L : List Nat), RL P fs β φ dom ψ IN w0 w (f ++ L) → (∀ id, n ≤ id → id < (resAs n l).2.2 → ¬ dom id) → RTsOK w l vs f →
    ∃ β' φ' dom', RL P (fupds fs (resAs n l).2.1) β' φ' dom' ψ IN w0 w L ∧ Ext β β' dom dom' n (resAs n l).2.2 ∧ vals β' (resAs n l).1 = vs ∧ AVs.wf dom' (resAs n l).1
  | [], n, fs, β, φ, dom, vs, f, L, H, hn, ho => by
    obtain ⟨rfl, rfl⟩ := ho
    exact ⟨β, φ, dom, H, Ext.refl _ _ _, rfl, trivial⟩
  | r :: rs, n, fs, β, φ, dom, vs, f, L, H, hn, ho => by
    obtain ⟨u, us, f1, g, rfl, h1, h2, rfl⟩ := ho
    rw [List.append_assoc] at H
    have e1 := resA_le r n
    have e2 := resAs_le rs (resA n r).2.2
    obtain ⟨β1, φ1, dom1, k1, k2, k3, k4⟩ := resA_ok r n fs β φ dom u f1 (g ++ L) H (fun id h h' => hn id h (Nat.lt_of_lt_of_le h' e2)) h1
    obtain ⟨β', φ', dom', m1, m2, m3, m4⟩ := resAs_ok rs (resA n r).2.2 _ β1 φ1 dom1 us g L k1 (fun id h h' hd => by
      rcases k2.new id hd with h3 | h3
      · exact hn id (Nat.le_trans e1 h) h' h3
      · omega) h2
    refine ⟨β', φ', dom', by simp only [resAs]; rw [fupds_app]; exact m1, k2.trans m2, ?_, ⟨AV.wf_mono (fun id h => (m2.old id h).1) _ k4, m4⟩⟩
    simp only [resAs, vals, m3]
    rw [val_congr (dom := dom1) (fun id h => (m2.old id h).2) _ k4, k3]
end

end
end Go.Proofs.YtbhjkcicpobmhaaDoor
