/-
  The machine, eleventh part: calls.
-/
import Derived.Test.YtbhjkcicpobmhaaDoorMA
namespace Go.Proofs.YtbhjkcicpobmhaaDoor
open Go.RowKit
set_option linter.unusedVariables false
set_option linter.unusedSimpArgs false

/-- what a match of an argument says: what is to be shown, the items that go into the call, the items that it reads -/
structure MA : Type 1 where
  vcs : List Prop
  cons : List Nat
  reads : List Nat

def depIds : Option (Nat × Nat) → List Nat
  | none => []
  | some (X, _) => [X]

def datsOf (fs : Nat → Option Fact) : List AV → Option (List Dat × List Nat)
  | [] => some ([], [])
  | a :: as => match datOf fs a, datsOf fs as with
    | some (d, dep), some (ds, ids) => some (d :: ds, depIds dep ++ ids)
    | _, _ => none

def aggCells : AV → Option (List AV)
  | .ag cs => some cs
  | .v (.agg cs) => some (cs.toList.map .v)
  | _ => none

/-- a row that was just made reads as a list -/
def ArrRd (n : Nat) (ds : List Dat) (d : Dat) : Prop :=
  ∃ (α : Type) (_ : Inhabited α) (sz : Nat) (enc : α → List Dat) (ys : List α), d = .l sz enc ys ∧ ys.length = n ∧ n ≤ 9223372036854775807 ∧ Imps ds (ys.map enc).flatten ∧ ∀ y ∈ ys, (enc y).length = sz
theorem ArrRd.mk {α : Type} [Inhabited α] {n sz : Nat} {ds : List Dat} (enc : α → List Dat) (ys : List α) (hn : ys.length = n) (hm : n ≤ 9223372036854775807) (hc : Imps ds (ys.map enc).flatten) (hl : ∀ y, (enc y).length = sz) : ArrRd n ds (.l sz enc ys) :=
  ⟨α, inferInstance, sz, enc, ys, rfl, hn, hm, hc, fun y _ => hl y⟩
theorem RdVs.split {S : Nat → Prop} {w : World} {α : Type} {enc : α → List Dat} {sz : Nat} : ∀ {ys : List α} {vs : List Value}, RdVs S w (ys.map enc).flatten vs → (∀ y ∈ ys, (enc y).length = sz) →
    vs.length = ys.length * sz ∧ ∀ (i : Nat) (y : α), ys[i]? = some y → ((vs.drop (i * sz)).take sz).length = sz ∧ RdVs S w (enc y) ((vs.drop (i * sz)).take sz)
  | [], vs, h, _ => ⟨by simp [show vs = [] from h], fun i y hy => by simp at hy⟩
  | y :: ys, vs, h, hl => by
    have app : ∀ (ds : List Dat) {es : List Dat} {vs : List Value}, RdVs S w (ds ++ es) vs → ∃ us ws, vs = us ++ ws ∧ us.length = ds.length ∧ RdVs S w ds us ∧ RdVs S w es ws := by
      intro ds
      induction ds with
      | nil => intro es vs h; exact ⟨[], vs, rfl, rfl, rfl, h⟩
      | cons d ds ih =>
        intro es vs h
        obtain ⟨u, us, rfl, h1, h2⟩ := h
        obtain ⟨us', ws, rfl, h3, h4, h5⟩ := ih h2
        exact ⟨u :: us', ws, rfl, by simp [h3], ⟨u, us', rfl, h1, h4⟩, h5⟩
    simp only [List.map_cons, List.flatten_cons] at h
    obtain ⟨us, ws, rfl, h1, h2, h3⟩ := app _ h
    have hus : us.length = sz := h1.trans (hl y List.mem_cons_self)
    obtain ⟨g1, g2⟩ := RdVs.split h3 fun z hz => hl z (List.mem_cons_of_mem _ hz)
    refine ⟨by simp [hus, g1, Nat.succ_mul, Nat.add_comm], fun i z hz => ?_⟩
    cases i with
    | zero =>
      simp only [List.getElem?_cons_zero, Option.some.injEq] at hz
      subst hz
      have e : ((us ++ ws).drop (0 * sz)).take sz = us := by simp [← hus]
      rw [e]; exact ⟨hus, h2⟩
    | succ i =>
      have e : ((us ++ ws).drop ((i + 1) * sz)).take sz = (ws.drop (i * sz)).take sz := by
        rw [List.drop_append, List.drop_of_length_le (by rw [hus, Nat.succ_mul]; omega), hus, Nat.succ_mul, Nat.add_sub_cancel]
        rfl
      rw [e]; exact g2 i z (by simpa using hz)

/-- arguments that are only read -/
def mRoC (fs : Nat → Option Fact) (av : AV) (d : Dat) : Option MA := match datOf fs av with
  | some (d0, dep) => some ⟨[Imp d0 d], [], depIds dep⟩
  | none => match av with
    | .h id 0 => (match fs id with
      | some (.arr n cs) => (match datsOf fs cs with
        | some (d0s, ids) => some ⟨[ArrRd n d0s d], [], id :: ids⟩
        | none => none)
      | _ => none)
    | _ => none
def mRoG (fs : Nat → Option Fact) (av : AV) (ds : List Dat) : Option MA := match (aggCells av).bind (datsOf fs) with
  | some (d0s, ids) => some ⟨[Imps d0s ds], [], ids⟩
  | none => none
def mRoP (fs : Nat → Option Fact) (id off : Nat) (ds : List Dat) : Option MA := match fs id, (cellsAt fs id).bind (fun cs => datsOf fs ((cs.drop off).take ds.length)) with
  | some (.box _ _), some (d0s, ids) => some ⟨[Imps d0s ds], [], id :: ids⟩
  | some (.mem dep _ _), some (d0s, ids) => some ⟨[Imps d0s ds], [], depIds dep ++ ids⟩
  | _, _ => none
def mRo (fs : Nat → Option Fact) (av : AV) : Arg → Option MA
  | .r (.c d) => mRoC fs av d
  | .r (.g ds) => mRoG fs av ds
  | .rp ds => (match av with | .p id off => mRoP fs id off ds | _ => none)
  | _ => none
def mRos (fs : Nat → Option Fact) : List AV → List Arg → Option MA
  | [], [] => some ⟨[], [], []⟩
  | av :: avs, a :: as => match mRo fs av a, mRos fs avs as with
    | some m, some n => some ⟨m.vcs ++ n.vcs, [], m.reads ++ n.reads⟩
    | _, _ => none
  | _, _ => none

def mPt (fs : Nat → Option Fact) (id : Nat) (T : TypeId) (ds : List Dat) : Option MA := match fs id with
  | some (.box T0 cs) => bif Nat.beq T T0 then (match ownDats fs cs with
    | some (d0s, ids) => some ⟨[Imps d0s ds], id :: ids, []⟩
    | none => none) else none
  | _ => none
/-- a slice's value -/
structure SV where
  a : Option Addr
  n : Nat
  c : Nat
  deriving Inhabited
def sv (s : SV) : Value := .slice s.a s.n s.c
def cutSV (sz L n : Nat) (s : SV) : SV := ⟨if s.c = L then s.a else s.a.map (·.add (L * sz)), n, s.c - L⟩
/-- what is known of a value, out of what is known of another one -/
def GD (x1 : Value) (d1 : Dat) (x : Value) (d : Dat) : Prop := ∀ (S : Nat → Prop) (w : World), RdV S w d1 x1 → RdV S w d x
def mPtg (fs : Nat → Option Fact) (gi id : Nat) (T : TypeId) (x : Value) (d : Dat) (ds : List Dat) : Option MA := match fs id, fs gi with
  | some (.box T0 (.h g 0 :: cs)), some (.vl x1 d1) => bif Nat.beq T T0 && Nat.beq g gi then (match ownDats fs cs with
    | some (d0s, ids) => some ⟨[x1 = x, Imp d1 d, Imps d0s ds], id :: ids, []⟩
    | none => none) else none
  | _, _ => none
def mVl (fs : Nat → Option Fact) (id : Nat) (x : Value) (d : Dat) : Option MA := match fs id with
  | some (.vl x0 d0) => some ⟨[x0 = x, Imp d0 d], [], []⟩
  | _ => none
def mOw (fs : Nat → Option Fact) (av : AV) (d : Dat) : Option MA := match dstOf fs av with
  | some (d0, xid) => some ⟨[Imp d0 d], xid, []⟩
  | none => none
def mFn (P : Program) (fs : Nat → Option Fact) (hf : Option (FnH P)) (f : FuncId) (cap : List AV) (F : FnSpec) (D : Bool) : Option MA := match hf with
  | some h => bif Nat.beq h.f f && callable P h.f && (!D || h.D) then (match mRos fs cap h.cap with
    | some m => some ⟨(h.F = F) :: h.pre :: m.vcs, [], m.reads⟩
    | none => none) else none
  | none => none
def mFv (fs : Nat → Option Fact) (id : Nat) (F : FnSpec) (D : Bool) : Option MA := match fs id with
  | some (.fn F0) => bif D then none else some ⟨[F0 = F], [], []⟩
  | _ => none
def mOg (fs : Nat → Option Fact) (cs : List AV) (ds : List Dat) : Option MA := match ownDats fs cs with
  | some (d0s, ids) => some ⟨[Imps d0s ds], ids, []⟩
  | none => none
def mArg (P : Program) (fs : Nat → Option Fact) (hf : Option (FnH P)) (av : AV) : Arg → Option MA
  | .pt T ds _ => (match av with | .p id 0 => mPt fs id T ds | _ => none)
  | .ow d none => mOw fs av d
  | .ow d (some _) => (match av with | .h X 0 => mOw fs (.h X 0) d | _ => none)
  | .og ds _ => (match av with | .ag cs => mOg fs cs ds | _ => none)
  | .ot ds => (match av with | .ag cs => mOg fs cs ds | _ => none)
  | .vl x d => (match av with | .h id 0 => mVl fs id x d | _ => none)
  | .ptg gi T x d ds _ => (match av with | .p id 0 => mPtg fs gi id T x d ds | _ => none)
  | .fn F D => (match av with | .cl f cap => mFn P fs hf f cap F D | .h id 0 => mFv fs id F D | _ => none)
  | .r a => mRo fs av (.r a)
  | .rp ds => mRo fs av (.rp ds)

def mArgs (P : Program) (fs : Nat → Option Fact) (hf : Option (FnH P)) : List AV → List Arg → Option MA
  | [], [] => some ⟨[], [], []⟩
  | av :: avs, a :: as => match mArg P fs hf av a, mArgs P fs hf avs as with
    | some m, some n => some ⟨m.vcs ++ n.vcs, m.cons ++ n.cons, m.reads ++ n.reads⟩
    | _, _ => none
  | _, _ => none

/-- the slices of its own that a struct has -/
def ogK : List AV → List Nat
  | .h X 0 :: cs => X :: ogK cs
  | _ :: cs => ogK cs
  | [] => []
def ogB : Nat → List AV → List Dat → List (Nat × Option Fact) × Nat
  | n, .h X 0 :: cs, d' :: ds' => let b := ogB (n + 1) cs ds'; ((X, some (.own n d')) :: b.1, b.2)
  | n, _ :: cs, _ :: ds' => ogB n cs ds'
  | n, _, _ => ([], n)
/-- the items that come back -/
def behA : Nat → List AV → List Arg → List (Nat × Option Fact) × Nat
  | n, .p id 0 :: avs, .pt T _ ds' :: as => let c := cellsB n ds'; let b := behA c.2.2 avs as; (c.2.1 ++ (id, some (.box T c.1)) :: b.1, b.2)
  | n, .p id 0 :: avs, .ptg gi T _ _ _ ds' :: as => let c := cellsB n ds'; let b := behA c.2.2 avs as; (c.2.1 ++ (id, some (.box T (.h gi 0 :: c.1))) :: b.1, b.2)
  | n, .h X 0 :: avs, .ow _ (some d') :: as => let b := behA (n + 1) avs as; ((X, some (.own n d')) :: b.1, b.2)
  | n, .ag cs :: avs, .og _ ds' :: as => let c := ogB n cs ds'; let b := behA c.2 avs as; (c.1 ++ b.1, b.2)
  | n, _ :: avs, _ :: as => behA n avs as
  | n, _, _ => ([], n)

section
variable {P : Program} {fs fsA : Nat → Option Fact} {β : Nat → Nat → Value} {φ : Nat → List Nat} {dom ψ IN : Nat → Prop} {w0 w w' : World} {base : Nat}

/-- what a call may read: all but what goes into it -/
def Outs (φ : Nat → List Nat) (w : World) (CONS : List Nat) (b : Nat) : Prop := b < w.heap.size ∧ ∀ id ∈ CONS, b ∉ φ id

theorem Rel.gloOuts (R : Rel P fsA β φ dom ψ IN w0 w) {CONS : List Nat} (hC : ∀ id ∈ CONS, ∃ g, fsA id = some g ∧ g.mod = true) : GOK (Outs φ w CONS) w := R.glo.mono fun b hb => ⟨R.psi b hb, fun id hid hbf => by
  obtain ⟨g, h1, h2⟩ := hC id hid
  exact (R.lt id g h1 h2 b hbf).2.2 hb⟩

theorem outs_dep (R : Rel P fsA β φ dom ψ IN w0 w) {CONS : List Nat} (hC : ∀ id ∈ CONS, ∃ g, fsA id = some g ∧ g.mod = true) {dep : Option (Nat × Nat)} (hl : ∀ X V, dep = some (X, V) → Live fsA X V ∧ dom X ∧ dom V) (hn : ∀ X ∈ depIds dep, X ∉ CONS) : ∀ b, depS φ ψ dep b → Outs φ w CONS b := by
  intro b hb
  cases dep with
  | none =>
    refine ⟨R.psi b hb, fun id hid hbi => ?_⟩
    obtain ⟨g, h1, h2⟩ := hC id hid
    exact (R.lt id g h1 h2 b hbi).2.2 hb
  | some XV =>
    obtain ⟨X, V⟩ := XV
    obtain ⟨⟨d, hd⟩, _, _⟩ := hl X V rfl
    refine ⟨(R.lt X _ hd rfl b hb).1, fun id hid hbi => ?_⟩
    obtain ⟨g, h1, h2⟩ := hC id hid
    exact R.dis X id _ g hd h1 rfl h2 (fun e => hn X (by simp [depIds]) (e ▸ hid)) b hb hbi

theorem datsOf_ok (R : Rel P fsA β φ dom ψ IN w0 w) (hsub : ∀ id f, fs id = some f → fsA id = some f) {CONS : List Nat} (hC : ∀ id ∈ CONS, ∃ g, fsA id = some g ∧ g.mod = true) : ∀ {as : List AV} {ds : List Dat} {ids : List Nat}, datsOf fs as = some (ds, ids) → (∀ X ∈ ids, X ∉ CONS) →
    RdVs (Outs φ w CONS) w ds (vals β as) ∧ AVs.wf dom as
  | [], ds, ids, h, _ => by
    simp only [datsOf, Option.some.injEq, Prod.mk.injEq] at h
    obtain ⟨rfl, rfl⟩ := h
    exact ⟨rfl, trivial⟩
  | a :: as, ds, ids, h, hn => by
    simp only [datsOf] at h
    split at h
    · rename_i d dep ds' ids' h1 h2
      simp only [Option.some.injEq, Prod.mk.injEq] at h
      obtain ⟨rfl, rfl⟩ := h
      obtain ⟨g1, g2⟩ := datsOf_ok R hsub hC h2 fun X hX => hn X (List.mem_append_right _ hX)
      obtain ⟨k1, k2, k3, _⟩ := datOf_ok R hsub h1
      exact ⟨⟨_, _, rfl, RdV.mono (fun b hb => ⟨outs_dep R hC k2 (fun X hX => hn X (List.mem_append_left _ hX)) b hb, rfl⟩) _ _ k1, g1⟩, k3, g2⟩
    · cases h

theorem aggCells_ok {av : AV} {cs : List AV} (h : aggCells av = some cs) : val β av = .agg (vals β cs).toArray ∧ (AVs.wf dom cs → av.wf dom) := by
  cases av with
  | ag cs' => simp only [aggCells, Option.some.injEq] at h; subst h; exact ⟨rfl, fun h => h⟩
  | v x =>
    cases x <;> simp only [aggCells, Option.some.injEq] at h <;> first | cases h | skip
    all_goals exact ⟨by simp [val, vals_v], fun _ => trivial⟩
  | _ => simp [aggCells] at h

theorem mRo_ok (R : Rel P fsA β φ dom ψ IN w0 w) (hsub : ∀ id f, fs id = some f → fsA id = some f) {CONS : List Nat} (hC : ∀ id ∈ CONS, ∃ g, fsA id = some g ∧ g.mod = true) {av : AV} {a : Arg} {m : MA} (h : mRo fs av a = some m) (hv : AllP m.vcs) (hn : ∀ X ∈ m.reads, X ∉ CONS) :
    ArgOK P (Outs φ w CONS) w a (val β av) [] ∧ av.wf dom ∧ m.cons = [] := by
  cases a with
  | r ra =>
   cases ra with
   | c d =>
    simp only [mRo, mRoC] at h
    split at h
    · rename_i d0 dep h1
      cases h
      obtain ⟨k1, k2, k3, _⟩ := datOf_ok R hsub h1
      exact ⟨⟨hv.1.rd _ _ _ (RdV.mono (fun b hb => ⟨outs_dep R hC k2 hn b hb, rfl⟩) _ _ k1), rfl⟩, k3, rfl⟩
    · split at h
      case h_2 => cases h
      rename_i id _
      split at h
      case h_2 => cases h
      rename_i n cs hf
      split at h
      case h_2 => cases h
      rename_i d0s ids hds
      cases h
      obtain ⟨⟨α, inst, sz, enc, ys, rfl, rfl, hm, hi, hl⟩, _⟩ := hv
      obtain ⟨hdi, _, b, T, g1, g2, g3⟩ := R.ok id _ (hsub _ _ hf)
      obtain ⟨k1, _⟩ := datsOf_ok R hsub hC hds fun X hX => hn X (List.mem_cons_of_mem _ hX)
      obtain ⟨s1, s2⟩ := RdVs.split (hi.rd k1) hl
      have hbo : Outs φ w CONS b := ⟨g2.lt, fun i hi hbi => by
        obtain ⟨g, h1, h2⟩ := hC i hi
        exact R.dis id i _ g (hsub _ _ hf) h1 rfl h2 (fun e => hn id List.mem_cons_self (e ▸ hi)) b (by rw [g3]; exact List.mem_cons_self) hbi⟩
      refine ⟨⟨⟨some ⟨b, 0, none⟩, _, g1, Nat.le_refl _, hm, fun i y hy => ?_⟩, rfl⟩, hdi, rfl⟩
      obtain ⟨c1, c2⟩ := s2 i y hy
      refine ⟨rfl, hbo, _, c1, ?_, c2⟩
      have := g2.has (i * sz) ((List.drop (i * sz) (vals β cs)).take sz) (by rw [c1])
      simpa [ab, ao] using this
   | g ds =>
    simp only [mRo, mRoG] at h
    split at h
    · rename_i d0s ids h1
      cases h
      obtain ⟨cs, h2, h3⟩ := Option.bind_eq_some_iff.1 h1
      obtain ⟨k1, k2⟩ := datsOf_ok R hsub hC h3 hn
      obtain ⟨e1, e2⟩ := aggCells_ok (β := β) (dom := dom) h2
      exact ⟨⟨⟨_, e1, hv.1.rd k1⟩, rfl⟩, e2 k2, rfl⟩
    · cases h
  | rp ds =>
    simp only [mRo] at h
    split at h
    case h_2 => cases h
    rename_i id off
    simp only [mRoP] at h
    split at h
    · rename_i T cs' d0s ids hf h1
      cases h
      obtain ⟨cs, h2, h3⟩ := Option.bind_eq_some_iff.1 h1
      obtain ⟨k1, k2⟩ := datsOf_ok R hsub hC h3 fun X hX => hn X (List.mem_cons_of_mem _ hX)
      obtain ⟨b, o, g1, g2, g3, g4, g5⟩ := cellsAt_ok R hsub h2
      obtain ⟨_, _, b', q1, q2, q3⟩ := R.ok id _ (hsub _ _ hf)
      rw [g1] at q1
      simp only [Value.pointer.injEq, Option.some.injEq, Addr.mk.injEq, and_true] at q1
      obtain ⟨rfl, rfl⟩ := q1
      have hbφ : b ∈ φ id := by rw [q3]; exact List.mem_cons_self
      have hh := g2.sub' off ds.length
      rw [← vals_drop, ← vals_take] at hh
      refine ⟨⟨⟨b, 0 + off, _, by simp [val, g1, padd], ⟨(R.lt id _ (hsub _ _ hf) rfl b hbφ).1, fun i hi hbi => ?_⟩, hh, hv.1.rd k1⟩, rfl⟩, g5, rfl⟩
      obtain ⟨g, e1, e2⟩ := hC i hi
      exact R.dis id i _ g (hsub _ _ hf) e1 rfl e2 (fun e => hn id List.mem_cons_self (e ▸ hi)) b hbφ hbi
    · rename_i dep el ds' d0s ids hf h1
      cases h
      obtain ⟨cs, h2, h3⟩ := Option.bind_eq_some_iff.1 h1
      obtain ⟨k1, k2⟩ := datsOf_ok R hsub hC h3 fun X hX => hn X (List.mem_append_right _ hX)
      obtain ⟨b, o, g1, g2, g3, g4, g5⟩ := cellsAt_ok R hsub h2
      have hh := g2.sub' off ds.length
      rw [← vals_drop, ← vals_take] at hh
      have hlv : liveB fs dep = true := by
        unfold cellsAt at h2
        rw [hf] at h2
        simp only at h2
        cases hl : liveB fs dep with
        | true => rfl
        | false => rw [hl] at h2; cases h2
      have hS : depS φ ψ dep b := by
        obtain ⟨_, hfo⟩ := R.ok id _ (hsub _ _ hf)
        cases dep with
        | none =>
          obtain ⟨b', o', q1, q2, _⟩ := hfo
          rw [g1] at q1
          simp only [Value.pointer.injEq, Option.some.injEq, Addr.mk.injEq, and_true] at q1
          obtain ⟨rfl, rfl⟩ := q1
          exact q2
        | some XV =>
          obtain ⟨X, V⟩ := XV
          obtain ⟨d, hd⟩ := liveB_ok hlv
          obtain ⟨⟨b', o', q1, q2, _⟩, _⟩ := hfo.2.2 ⟨d, hsub _ _ hd⟩
          rw [g1] at q1
          simp only [Value.pointer.injEq, Option.some.injEq, Addr.mk.injEq, and_true] at q1
          obtain ⟨rfl, rfl⟩ := q1
          exact q2
      have hl : ∀ X V, dep = some (X, V) → Live fsA X V ∧ dom X ∧ dom V := by
        intro X V e
        subst e
        obtain ⟨d, hd⟩ := liveB_ok hlv
        obtain ⟨h1, h2, _⟩ := R.ok X _ (hsub _ _ hd)
        exact ⟨⟨d, hsub _ _ hd⟩, h1, h2⟩
      exact ⟨⟨⟨b, o + off, _, by simp [val, g1, padd], outs_dep R hC hl (fun X hX => hn X (List.mem_append_left _ hX)) b hS, hh, hv.1.rd k1⟩, rfl⟩, g5, rfl⟩
    · cases h
  | _ => simp [mRo] at h

theorem mRos_ok (R : Rel P fsA β φ dom ψ IN w0 w) (hsub : ∀ id f, fs id = some f → fsA id = some f) {CONS : List Nat} (hC : ∀ id ∈ CONS, ∃ g, fsA id = some g ∧ g.mod = true) : ∀ {avs : List AV} {as : List Arg} {m : MA}, mRos fs avs as = some m → AllP m.vcs → (∀ X ∈ m.reads, X ∉ CONS) →
    ArgsOK P (Outs φ w CONS) w as (vals β avs) [] ∧ AVs.wf dom avs
  | [], [], m, h, hv, hn => ⟨⟨rfl, rfl⟩, trivial⟩
  | av :: avs, a :: as, m, h, hv, hn => by
    simp only [mRos] at h
    split at h
    · rename_i m1 m2 h1 h2
      cases h
      obtain ⟨v1, v2⟩ := AllP.app hv
      obtain ⟨k1, k2, _⟩ := mRo_ok R hsub hC h1 v1 fun X hX => hn X (List.mem_append_left _ hX)
      obtain ⟨g1, g2⟩ := mRos_ok R hsub hC h2 v2 fun X hX => hn X (List.mem_append_right _ hX)
      exact ⟨⟨_, _, [], [], rfl, k1, g1, rfl, List.nodup_nil⟩, k2, g2⟩
    · cases h
  | [], _ :: _, m, h, _, _ => by simp [mRos] at h
  | _ :: _, [], m, h, _, _ => by simp [mRos] at h

theorem RdArgs.mono {S S' : Nat → Prop} (hs : ∀ b, S b → S' b ∧ w'.heap[b]? = w.heap[b]?) : ∀ {as : List RA} {vs : List Value}, RdArgs S w as vs → RdArgs S' w' as vs
  | [], _, h => h
  | a :: as, vs, h => by
    obtain ⟨u, us, rfl, h1, h2⟩ := h
    refine ⟨u, us, rfl, ?_, RdArgs.mono hs h2⟩
    cases a with
    | c d => exact RdV.mono hs _ _ h1
    | g ds => obtain ⟨vs, e, h⟩ := h1; exact ⟨vs, e, RdVs.mono hs _ _ h⟩

theorem args_ro {S S' : Nat → Prop} (hs : ∀ b, S b → S' b ∧ w'.heap[b]? = w.heap[b]?) : ∀ {as : List Arg} {vs : List Value} {fp : List Nat}, (as.all fun a => match a with | .r _ => true | .rp _ => true | _ => false) = true → ArgsOK P S w as vs fp → ArgsOK P S' w' as vs [] 
  | [], vs, fp, _, h => ⟨h.1, rfl⟩
  | a :: as, vs, fp, hro, h => by
    simp only [List.all_cons, Bool.and_eq_true] at hro
    obtain ⟨u, us, f, g, rfl, h1, h2, rfl, h3⟩ := h
    refine ⟨u, us, [], [], rfl, ?_, args_ro hs hro.2 h2, rfl, List.nodup_nil⟩
    cases a with
    | r a =>
      refine ⟨?_, rfl⟩
      cases a with
      | c d => exact RdV.mono hs _ _ h1.1
      | g ds => obtain ⟨⟨vs, e, h⟩, _⟩ := h1; exact ⟨vs, e, RdVs.mono hs _ _ h⟩
    | rp ds =>
      obtain ⟨⟨b, o, vs, e1, e2, e3, e4⟩, _⟩ := h1
      exact ⟨⟨b, o, vs, e1, (hs b e2).1, e3.congr (hs b e2).2, RdVs.mono hs _ _ e4⟩, rfl⟩
    | _ => simp at hro

theorem args_app {S : Nat → Prop} : ∀ {as bs : List Arg} {us vs : List Value}, ArgsOK P S w as us [] → ArgsOK P S w bs vs [] → ArgsOK P S w (as ++ bs) (us ++ vs) []
  | [], bs, us, vs, h, h' => by rw [h.1]; exact h'
  | a :: as, bs, us, vs, h, h' => by
    obtain ⟨u, us', f, g, rfl, h1, h2, e, h3⟩ := h
    have e' := e.symm
    rw [List.append_eq_nil_iff] at e'
    obtain ⟨rfl, rfl⟩ := e'
    exact ⟨u, us' ++ vs, [], [], rfl, h1, args_app h2 h', rfl, List.nodup_nil⟩

theorem args_of_rd {S : Nat → Prop} : ∀ {as : List RA} {vs : List Value}, RdArgs S w as vs → ArgsOK P S w (as.map .r) vs []
  | [], _, h => ⟨h, rfl⟩
  | a :: as, vs, h => by
    obtain ⟨u, us, rfl, h1, h2⟩ := h
    exact ⟨u, us, [], [], rfl, ⟨h1, rfl⟩, args_of_rd h2, rfl, List.nodup_nil⟩

/-- a function value made of a function -/
theorem FnH.fnOK {P : Program} (h : FnH P) (hpre : h.pre) {S : Nat → Prop} {w : World} {cap : List Value} (hS : ∀ b, S b → b < w.heap.size) (hc : ArgsOK P S w h.cap cap []) (hcl : callable P h.f = true) : FnOK h.D P S w h.F (.func (.func h.f) #[] cap.toArray) := by
  refine ⟨h.f, cap.toArray, rfl, hcl, fun i w1 S1 vs e1 e2 e3 hr => ?_⟩
  have hargs : ArgsOK P (fun b => S b ∨ S1 b) w1 ((h.F.arg i).map .r ++ h.cap) (vs ++ cap) [] :=
    args_app (args_of_rd (hr.mono fun b hb => ⟨.inr hb, rfl⟩)) (args_ro (fun b hb => ⟨.inl hb, e1 b hb⟩) h.ro hc)
  have := h.ok i hpre (fun b => S b ∨ S1 b) w1 (vs ++ cap) [] (fun b hb => ⟨by
    rcases hb with hb | hb
    · have h1 := hS b hb; have h2 := e1 b hb
      rw [Array.getElem?_eq_getElem h1] at h2
      exact (Array.getElem?_eq_some_iff.1 h2).1
    · exact e3 b hb, fun h => by cases h⟩) (e2.mono fun b hb => .inr hb) hargs
  have e : (vs ++ cap).toArray = vs.toArray ++ cap.toArray := by simp
  rw [e] at this
  refine Calls.mono this fun ed w2 ⟨rv, fr, fb, h1, h2, h3, h4, h5, h6⟩ => ?_
  obtain ⟨rfl, _, _⟩ := h2
  exact ⟨h1, h6.below (Nat.le_refl _) fun k _ hk => by cases hk⟩

/-- a function without captured values, as data -/
theorem Imp.fn {P : Program} (h : FnH P) (hcap : h.cap = []) (hpre : h.pre) (hcl : callable P h.f = true) : Imp (.v (.func (.func h.f) #[] #[])) (.x (FnX P h.F)) := by
  have key : ∀ (S : Nat → Prop) (w : World), FnOK false P S w h.F (.func (.func h.f) #[] #[]) := fun S w => by
    obtain ⟨f, cap, e1, e2, e3⟩ := FnOK.weak (h.fnOK hpre (S := fun _ => False) (w := w) (cap := []) (fun _ h => h.elim) (by rw [hcap]; exact ⟨rfl, rfl⟩) hcl)
    exact ⟨f, cap, e1, e2, fun i w1 S1 vs _ => e3 i w1 S1 vs (fun _ h => h.elim)⟩
  exact ⟨fun S w y hy => by obtain ⟨rfl, _⟩ := hy; exact key S w, fun w y fp hy => by obtain ⟨rfl, _, rfl⟩ := hy; exact ⟨key _ w, List.nodup_nil, fun b hb => by cases hb⟩⟩

/-! ### The call -/

/-- an argument's form, by what comes back of it -/
def PairOK (dom : Nat → Prop) (β : Nat → Nat → Value) (av : AV) : Arg → Prop
  | .pt _ _ _ => ∃ id, av = .p id 0 ∧ ∃ b, β id 0 = .pointer (some ⟨b, 0, none⟩)
  | .ptg gi _ x _ _ _ => ∃ id, av = .p id 0 ∧ (∃ b, β id 0 = .pointer (some ⟨b, 0, none⟩)) ∧ dom gi ∧ β gi 0 = x ∧ x.oneCell' = true
  | .ow _ (some _) => ∃ X, av = .h X 0
  | .og _ _ => ∃ cs, av = .ag cs
  | _ => True

theorem mPt_ok (R : Rel P fsA β φ dom ψ IN w0 w) (hsub : ∀ id f, fs id = some f → fsA id = some f) {id : Nat} {T : TypeId} {ds : List Dat} {m : MA} (h : mPt fs id T ds = some m) (hv : AllP m.vcs) (hnd : m.cons.Nodup) :
    ∃ fp, (∃ b vs f, val β (.p id 0) = .pointer (some ⟨b, 0, none⟩) ∧ Box w b T vs ∧ OwVs w ds vs f ∧ fp = b :: f ∧ fp.Nodup) ∧ (∀ b, b ∈ fp ↔ ∃ id ∈ m.cons, b ∈ φ id) ∧ dom id ∧ (∃ b, β id 0 = .pointer (some ⟨b, 0, none⟩)) ∧ fp.Nodup := by
  simp only [mPt] at h
  split at h
  · rename_i T0 cs hid
    cases hT : Nat.beq T T0 with
    | false => rw [hT] at h; cases h
    | true =>
      rw [hT] at h
      simp only [cond_true] at h
      have hT' := Nat.eq_of_beq_eq_true hT
      subst hT'
      split at h
      · rename_i d0s ids hds
        cases h
        obtain ⟨k1, ⟨g0, g0'⟩, b, g1, g2, g3⟩ := R.ok id _ (hsub _ _ hid)
        obtain ⟨fp, q1, q2, q3, q4, q5, q6, q7⟩ := ownDats_ok R hsub hds
        obtain ⟨n1, n2⟩ := List.nodup_cons.1 hnd
        have hbid : b ∈ φ id := by rw [g3]; exact List.mem_cons_self
        have hbf : b ∉ fp := fun hb => by
          obtain ⟨i, h1, h2⟩ := q2 b hb
          obtain ⟨V, d, hd⟩ := q5 i h1
          exact R.dis id i _ _ (hsub _ _ hid) hd rfl rfl (fun e => n1 (e ▸ h1)) b hbid h2
        -- the footprint is just that of the items
        have hfp : ∀ b', (∃ i ∈ ids, b' ∈ φ i) → b' ∈ fp := fun b' ⟨i, h1, h2⟩ => q7 i h1 b' h2
        refine ⟨b :: fp, ⟨b, _, fp, by simp [val, g1, padd], g2, hv.1.ow q1, rfl, List.nodup_cons.2 ⟨hbf, q1.nd⟩⟩, fun b' => ⟨fun hb' => ?_, fun ⟨i, h1, h2⟩ => ?_⟩, k1, ⟨b, g1⟩, List.nodup_cons.2 ⟨hbf, q1.nd⟩⟩
        · rcases List.mem_cons.1 hb' with rfl | hb'
          · exact ⟨id, List.mem_cons_self, hbid⟩
          · obtain ⟨i, h1, h2⟩ := q2 b' hb'
            exact ⟨i, List.mem_cons_of_mem _ h1, h2⟩
        · rcases List.mem_cons.1 h1 with rfl | h1
          · rw [g3] at h2
            simp only [List.mem_singleton] at h2
            subst h2
            exact List.mem_cons_self
          · exact List.mem_cons_of_mem _ (hfp b' ⟨i, h1, h2⟩)
      · cases h
  · cases h
theorem mPtg_ok (R : Rel P fsA β φ dom ψ IN w0 w) (hsub : ∀ id f, fs id = some f → fsA id = some f) {gi id : Nat} {T : TypeId} {x : Value} {d : Dat} {ds : List Dat} {m : MA} (h : mPtg fs gi id T x d ds = some m) (hv : AllP m.vcs) (hnd : m.cons.Nodup) :
    ∃ fp, (∃ b vs f, val β (.p id 0) = .pointer (some ⟨b, 0, none⟩) ∧ Box w b T (x :: vs) ∧ OwVs w ds vs f ∧ fp = b :: f ∧ fp.Nodup) ∧ (∀ b, b ∈ fp ↔ ∃ id ∈ m.cons, b ∈ φ id) ∧ dom id ∧ (∃ b, β id 0 = .pointer (some ⟨b, 0, none⟩)) ∧ fp.Nodup ∧ dom gi ∧ β gi 0 = x ∧ True ∧ RdV ψ w d x := by
  simp only [mPtg] at h
  split at h
  · rename_i T0 g cs x1 d1 hid hgi
    cases hT : (Nat.beq T T0 && Nat.beq g gi) with
    | false => rw [hT] at h; cases h
    | true =>
      rw [hT] at h
      simp only [cond_true] at h
      simp only [Bool.and_eq_true] at hT
      have hT' := Nat.eq_of_beq_eq_true hT.1
      have hg' := Nat.eq_of_beq_eq_true hT.2
      subst hT' hg'
      split at h
      · rename_i d0s ids hds
        cases h
        obtain ⟨k1, ⟨g0, g0'⟩, b, g1, g2, g3⟩ := R.ok id _ (hsub _ _ hid)
        obtain ⟨m1, m2, m3⟩ := R.ok g _ (hsub _ _ hgi)
        obtain ⟨v1, v2, v3, _⟩ := hv
        subst v1
        simp only [vals, val] at g2
        rw [m2] at g2
        obtain ⟨fp, q1, q2, q3, q4, q5, q6, q7⟩ := ownDats_ok R hsub hds
        obtain ⟨n1, n2⟩ := List.nodup_cons.1 hnd
        have hbid : b ∈ φ id := by rw [g3]; exact List.mem_cons_self
        have hbf : b ∉ fp := fun hb => by
          obtain ⟨i, h1, h2⟩ := q2 b hb
          obtain ⟨V, d, hd⟩ := q5 i h1
          exact R.dis id i _ _ (hsub _ _ hid) hd rfl rfl (fun e => n1 (e ▸ h1)) b hbid h2
        -- the footprint is just that of the items
        have hfp : ∀ b', (∃ i ∈ ids, b' ∈ φ i) → b' ∈ fp := fun b' ⟨i, h1, h2⟩ => q7 i h1 b' h2
        refine ⟨b :: fp, ⟨b, _, fp, by simp [val, g1, padd], g2, v3.ow q1, rfl, List.nodup_cons.2 ⟨hbf, q1.nd⟩⟩, fun b' => ⟨fun hb' => ?_, fun ⟨i, h1, h2⟩ => ?_⟩, k1, ⟨b, g1⟩, List.nodup_cons.2 ⟨hbf, q1.nd⟩, m1, m2, trivial, v2.rd _ _ _ m3⟩
        · rcases List.mem_cons.1 hb' with rfl | hb'
          · exact ⟨id, List.mem_cons_self, hbid⟩
          · obtain ⟨i, h1, h2⟩ := q2 b' hb'
            exact ⟨i, List.mem_cons_of_mem _ h1, h2⟩
        · rcases List.mem_cons.1 h1 with rfl | h1
          · rw [g3] at h2
            simp only [List.mem_singleton] at h2
            subst h2
            exact List.mem_cons_self
          · exact List.mem_cons_of_mem _ (hfp b' ⟨i, h1, h2⟩)
      · cases h
  · cases h
theorem mArg_ok (R : Rel P fsA β φ dom ψ IN w0 w) (hsub : ∀ id f, fs id = some f → fsA id = some f) {hf : Option (FnH P)} {CONS : List Nat} (hC : ∀ id ∈ CONS, ∃ g, fsA id = some g ∧ g.mod = true) {av : AV} {a : Arg} {m : MA} (h : mArg P fs hf av a = some m) (hv : AllP m.vcs) (hn : ∀ X ∈ m.reads, X ∉ CONS) (hnd : m.cons.Nodup) :
    ∃ fp, ArgOK P (Outs φ w CONS) w a (val β av) fp ∧ (∀ b, b ∈ fp ↔ ∃ id ∈ m.cons, b ∈ φ id) ∧ av.wf dom ∧ PairOK dom β av a ∧ fp.Nodup := by
  have hno : ∀ b : Nat, b ∈ ([] : List Nat) ↔ ∃ id ∈ ([] : List Nat), b ∈ φ id := fun b => ⟨fun h => by (cases h), fun ⟨i, h, _⟩ => by (cases h)⟩
  have how : ∀ {av : AV} {d : Dat} {m : MA}, mOw fs av d = some m → AllP m.vcs → ∃ fp, OwV w d (val β av) fp ∧ (∀ b, b ∈ fp ↔ ∃ id ∈ m.cons, b ∈ φ id) ∧ av.wf dom := by
    intro av d m h hv
    simp only [mOw] at h
    split at h
    · rename_i d0 xid hx
      cases h
      cases av with
      | v x =>
        simp only [dstOf] at hx
        cases hxo : x.oneCell' with
        | false => rw [hxo] at hx; cases hx
        | true =>
          simp only [hxo, cond_true, Option.some.injEq, Prod.mk.injEq] at hx
          obtain ⟨rfl, rfl⟩ := hx
          exact ⟨[], hv.1.ow _ _ _ ⟨rfl, hxo, rfl⟩, hno, trivial⟩
      | h X j =>
        cases j with
        | succ j => simp [dstOf] at hx
        | zero =>
          simp only [dstOf] at hx
          split at hx
          · rename_i V d1 hX
            simp only [Option.some.injEq, Prod.mk.injEq] at hx
            obtain ⟨rfl, rfl⟩ := hx
            obtain ⟨k1, _, k2⟩ := R.ok X _ (hsub _ _ hX)
            exact ⟨φ X, hv.1.ow _ _ _ k2, fun b => ⟨fun h => ⟨X, List.mem_cons_self, h⟩, fun ⟨i, h1, h2⟩ => by
              simp only [List.mem_singleton] at h1; exact h1 ▸ h2⟩, k1⟩
          · cases hx
      | _ => simp [dstOf] at hx
    · cases h
  cases a with
  | r a =>
    obtain ⟨k1, k2, k3⟩ := mRo_ok R hsub hC (a := .r a) (by simpa [mArg] using h) hv hn
    exact ⟨[], k1, by rw [k3]; exact hno, k2, trivial, List.nodup_nil⟩
  | rp ds =>
    obtain ⟨k1, k2, k3⟩ := mRo_ok R hsub hC (a := .rp ds) (by simpa [mArg] using h) hv hn
    exact ⟨[], k1, by rw [k3]; exact hno, k2, trivial, List.nodup_nil⟩
  | pt T ds ds' =>
    simp only [mArg] at h
    split at h
    · rename_i id
      obtain ⟨fp, k1, k2, k3, k4, k5⟩ := mPt_ok R hsub h hv hnd
      exact ⟨fp, k1, k2, k3, ⟨id, rfl, k4⟩, k5⟩
    · cases h
  | ptg gi T x d ds ds' =>
    simp only [mArg] at h
    split at h
    · rename_i id
      obtain ⟨fp, k1, k2, k3, k4, k5, k6, k7, k8, k9⟩ := mPtg_ok R hsub h hv hnd
      refine ⟨fp, ⟨k1, ?_⟩, k2, k3, ⟨id, rfl, k4, k6, k7, k9.one⟩, k5⟩
      exact RdV.mono (fun b hb => ⟨outs_dep R hC (dep := none) (fun _ _ e => by cases e) (fun X hX => by cases hX) b hb, rfl⟩) _ _ k9
    · cases h
  | vl x d =>
    simp only [mArg] at h
    split at h
    · rename_i id
      simp only [mVl] at h
      split at h
      · rename_i x0 d0 h2
        cases h
        obtain ⟨rfl, hi, _⟩ := hv
        obtain ⟨e0, e1, e2⟩ := R.ok id _ (hsub _ _ h2)
        refine ⟨[], ⟨⟨e1, ?_⟩, rfl⟩, hno, e0, trivial, List.nodup_nil⟩
        exact hi.rd _ _ _ (RdV.mono (fun b hb => ⟨outs_dep R hC (dep := none) (fun _ _ e => by cases e) (fun X hX => by cases hX) b hb, rfl⟩) _ _ e2)
      · cases h
    · cases h
  | ow d d' =>
    cases d' with
    | none =>
      obtain ⟨fp, k1, k2, k3⟩ := how (by simpa [mArg] using h) hv
      exact ⟨fp, k1, k2, k3, trivial, k1.nd⟩
    | some d' =>
      simp only [mArg] at h
      split at h
      · rename_i X
        obtain ⟨fp, k1, k2, k3⟩ := how h hv
        exact ⟨fp, k1, k2, k3, ⟨X, rfl⟩, k1.nd⟩
      · cases h
  | og ds ds' =>
    simp only [mArg] at h
    split at h
    · rename_i cs
      simp only [mOg] at h
      split at h
      · rename_i d0s ids hds
        cases h
        obtain ⟨fp, q1, q2, q3, q4, q5, q6, q7⟩ := ownDats_ok R hsub hds
        exact ⟨fp, ⟨_, rfl, hv.1.ow q1⟩, fun b' => ⟨q2 b', fun ⟨i, h1, h2⟩ => q7 i h1 b' h2⟩, q3, ⟨cs, rfl⟩, q1.nd⟩
      · cases h
    · cases h
  | ot ds =>
    simp only [mArg] at h
    split at h
    · rename_i cs
      simp only [mOg] at h
      split at h
      · rename_i d0s ids hds
        cases h
        obtain ⟨fp, q1, q2, q3, q4, q5, q6, q7⟩ := ownDats_ok R hsub hds
        exact ⟨fp, ⟨_, rfl, hv.1.ow q1⟩, fun b' => ⟨q2 b', fun ⟨i, h1, h2⟩ => q7 i h1 b' h2⟩, q3, trivial, q1.nd⟩
      · cases h
    · cases h
  | fn F D =>
    simp only [mArg] at h
    split at h
    · rename_i f cap
      simp only [mFn] at h
      split at h
      · rename_i hh
        cases hb : (Nat.beq hh.f f && callable P hh.f && (!D || hh.D)) with
        | false => rw [hb] at h; cases h
        | true =>
          rw [hb] at h
          simp only [cond_true] at h
          split at h
          · rename_i m' hm'
            cases h
            obtain ⟨rfl, hpre, hv'⟩ := hv
            obtain ⟨k1, k2⟩ := mRos_ok R hsub hC hm' hv' hn
            simp only [Bool.and_eq_true] at hb
            have hb' := Nat.eq_of_beq_eq_true hb.1.1
            refine ⟨[], ⟨?_, rfl⟩, hno, k2, trivial, List.nodup_nil⟩
            have := hh.fnOK hpre (w := w) (fun b hb => hb.1) k1 hb.1.2
            rw [← hb']
            cases D with
            | false => exact this.weak
            | true =>
              have hD : hh.D = true := by simpa using hb.2
              rw [hD] at this
              exact this
          · cases h
      · cases h
    · rename_i id
      simp only [mFv] at h
      split at h
      · rename_i F0 hF
        cases D with
        | true => cases h
        | false =>
        cases h
        obtain ⟨rfl, _⟩ := hv
        obtain ⟨k1, k2⟩ := R.ok id _ (hsub _ _ hF)
        refine ⟨[], ⟨?_, rfl⟩, hno, k1, trivial, List.nodup_nil⟩
        obtain ⟨f, cap, e1, ec, e2⟩ := k2
        exact ⟨f, cap, e1, ec, fun i w1 S1 vs h1 h2 => e2 i w1 S1 vs (fun b hb => h1 b ⟨R.psi b hb, fun i hi hbi => by
          obtain ⟨g, h3, h4⟩ := hC i hi
          exact (R.lt i g h3 h4 b hbi).2.2 hb⟩) h2⟩
      · cases h
    · cases h

end
end Go.Proofs.YtbhjkcicpobmhaaDoor
