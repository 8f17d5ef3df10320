/-
  The machine, thirteenth part: one operation.
-/
import Derived.Test.YtbhjkcicpobmhaaDoorMW
import Derived.Laws.BytesArg
import Derived.Laws.IdiomStrings
namespace Go.Proofs.YtbhjkcicpobmhaaDoor
open Go.RowKit
set_option linter.unusedVariables false
set_option linter.unusedSimpArgs false

/-- what an operation is told: arithmetic in range; the data that it makes; a slice that goes into its part; a call; a call of a function value; a binary operation of known result -/
inductive Hint (D : Bool) (P : Program) : Type 1 where
  | no
  | bnd
  | dat (d : Dat)
  | dat2 (d e : Dat)
  | own
  | ix (ds : List Dat)
  | take (d : Dat)
  | part
  | as (gi : Nat)
  | sv
  | str (s : ByteArray)
  | call (f : FuncId) (sp : Spec) (ok : sp.ok P f D) (fh : Option (FnH P))
  | fnv (F : FnSpec) (i : F.ι)
  | calle (f : FuncId) (sp : Spec) (ok : sp.ok P f D) (d : Dat)
  | bin (o : BinOp) (T : TypeId) (a b v : Value) (one : v.oneCell' = true) (ok : ∀ (x y : Operand) (w : World), (do eqGuard o T x y a b; binOp o T a b).run P w = .ok v w)

def Hint.datO {D : Bool} {P : Program} : Hint D P → Option Dat
  | .dat d => some d
  | _ => none
def Hint.dat2O {D : Bool} {P : Program} : Hint D P → Option (Dat × Dat)
  | .dat2 d e => some (d, e)
  | _ => none
def Hint.ixO {D : Bool} {P : Program} : Hint D P → Option (List Dat)
  | .ix ds => some ds
  | _ => none
def Hint.isPart {D : Bool} {P : Program} : Hint D P → Bool
  | .part => true
  | _ => false
def Hint.asO {D : Bool} {P : Program} : Hint D P → Option Nat
  | .as gi => some gi
  | _ => none
def Hint.strO {D : Bool} {P : Program} : Hint D P → Option ByteArray
  | .str s => some s
  | _ => none
def Hint.isSv {D : Bool} {P : Program} : Hint D P → Bool
  | .sv => true
  | _ => false
def Hint.takeO {D : Bool} {P : Program} : Hint D P → Option Dat
  | .take d => some d
  | _ => none
def Hint.isBnd {D : Bool} {P : Program} : Hint D P → Bool
  | .bnd => true
  | _ => false
def Hint.isOwn {D : Bool} {P : Program} : Hint D P → Bool
  | .own => true
  | _ => false

def opA (sl : Nat → Option AV) : Operand → Option AV
  | .tmp t => sl t
  | .const v => some (.v v)
  | .func f => some (.cl f [])
  | .global _ => none

def opAs (sl : Nat → Option AV) : List Operand → Option (List AV)
  | [] => some []
  | x :: xs => match opA sl x, opAs sl xs with
    | some a, some as => some (a :: as)
    | _, _ => none

def opPs (sl : Nat → Option AV) : List (Nat × Operand) → Option (List (Nat × AV))
  | [] => some []
  | (i, x) :: xs => match opA sl x, opPs sl xs with
    | some a, some as => some ((i, a) :: as)
    | _, _ => none

def opO (sl : Nat → Option AV) : Option Operand → Option (Option AV)
  | none => some none
  | some x => match opA sl x with
    | some a => some (some a)
    | none => none

/-- a value all of which is known -/
def valsOf : List AV → Option (List Value)
  | [] => some []
  | .v x :: as => (match valsOf as with | some vs => some (x :: vs) | none => none)
  | _ :: _ => none
def valOf : AV → Option Value
  | .v x => some x
  | .ag cs => (match valsOf cs with | some vs => some (.agg vs.toArray) | none => none)
  | _ => none
def AV.isCl : AV → Bool
  | .cl _ _ => true
  | _ => false

def eBin {D : Bool} (P : Program) (h : Hint D P) (o : BinOp) (T : TypeId) (x y : AV) : Option OpR :=
  match h with
  | .bin o' T' a b v one ok => (match valOf x, valOf y with
    | some x', some y' => if o' = o ∧ T' = T then some ⟨[x' = a, y' = b], .v v, []⟩ else none
    | _, _ => none)
  | _ => (match x, y with
    | .v (.bool a), .v (.bool b) => (match o, P.underlying T with
      | .eql, some .bool => some ⟨[], .v (.bool (a == b)), []⟩
      | .neq, some .bool => some ⟨[], .v (.bool (!(a == b))), []⟩
      | _, _ => none)
    | .v a, .v b => (match binV h.isBnd o a b with
      | some (vcs, v) => bif v.oneCell' then some ⟨vcs, .v v, []⟩ else none
      | none => none)
    | _, _ => none)

def eLen (P : Program) (fs : Nat → Option Fact) (t : TypeId) (x : AV) : Option OpR :=
  match x with
  | .v (.string s) => (match P.underlying t with | some .string => some ⟨[], .v (.int .i64 (s.size : Int)), []⟩ | _ => none)
  | .v (.slice none 0 0) => (match P.underlying t with | some (.slice _) => some ⟨[], .v (.int .i64 0), []⟩ | _ => none)
  | x => (match datOf fs x, P.underlying t with
    | some (@Dat.l _ _ _ _ xs, _), some (.slice _) => some ⟨[], .v (.int .i64 (xs.length : Int)), []⟩
    | _, _ => none)

def minmax (mx : Bool) (x y : AV) : Option OpR := match x, y with
  | .v (.int k a), .v (.int _ b) => some ⟨[], .v (.int k (bif mx then (if b > a then b else a) else (if b < a then b else a))), []⟩
  | _, _ => none

def eConv (P : Program) (src dst : TypeId) : AV → Option OpR
  | .v (.int _ n) => (match P.underlying src, P.underlying dst with | some _, some (.int k) => some ⟨[], .v (.int k (k.wrap n)), []⟩ | _, _ => none)
  | .v (.string s) => (match P.underlying src, P.underlying dst with | some _, some .string => some ⟨[], .v (.string s), []⟩ | _, _ => none)
  | _ => none

/-- bytes that are a string -/
def ConvOK (d : Dat) (s : ByteArray) : Prop := ∃ (α : Type) (_ : Inhabited α) (enc : α → List Dat) (xs : List α) (f : α → Int), d = .l 1 enc xs ∧ (∀ x, enc x = [.v (.int .u8 (f x))]) ∧ s = strOfNums (xs.map f)
theorem ConvOK.mk {α : Type} [Inhabited α] (enc : α → List Dat) (xs : List α) (f : α → Int) (h : ∀ x, enc x = [.v (.int .u8 (f x))]) : ConvOK (.l 1 enc xs) (strOfNums (xs.map f)) := ⟨α, inferInstance, enc, xs, f, rfl, h, rfl⟩
def eConvS (P : Program) (fs : Nat → Option Fact) (src dst : TypeId) (x : AV) (s : ByteArray) : Option OpR :=
  match datOf fs x, P.underlying src, P.underlying dst with
  | some (d, _), some (.slice e), some .string => (match P.underlying e with | some (.int .u8) => some ⟨[ConvOK d s], .v (.string s), []⟩ | _ => none)
  | _, _, _ => none
/-- a function value that is known -/
def fnFact (P : Program) (fs : Nat → Option Fact) (av : AV) (F : FnSpec) : Option Prop := match av with
  | .h id j => (match fs id, j with
    | some (.fn F0), 0 => some (F0 = F)
    | _, _ => (match datOf fs (.h id j) with | some (.x X, _) => some (X = FnX P F) | _ => none))
  | _ => none

def eCallV {D : Bool} (P : Program) (fs : Nat → Option Fact) (base : Nat) (h : Hint D P) (fv : AV) (args : List AV) : Option OpR :=
  match fv, h with
  | .cl f cap, .call f' sp ok fh => bif Nat.beq f f' && callable P f then eCall P fs fh base sp (args ++ cap) else none
  | .cl f cap, .calle f' sp ok d => bif Nat.beq f f' && callable P f then eCallE fs base sp (args ++ cap) d else none
  | fv, .fnv F i => (match D, fnFact P fs fv F, mRos fs args ((F.arg i).map .r) with
    | false, some p, some m => some ⟨p :: m.vcs, .v (F.res i), []⟩
    | _, _, _ => none)
  | _, _ => none

def callEv {D : Bool} (P : Program) (fs : Nat → Option Fact) (sl : Nat → Option AV) (base : Nat) (h : Hint D P) (c : Call) : Option OpR :=
  match c.callee with
  | .builtin b => (match b, c.args.toList, c.argTypes.toList with
    | .len, [x], [t] => (opA sl x).bind fun a => eLen P fs t a
    | .append, [x, y], [t, t'] => (opA sl x).bind fun x => (opA sl y).bind fun y => h.datO.bind fun d => bif Nat.beq t t' then eApp P fs base t x y d else none
    | .min, [x, y], _ => (opA sl x).bind fun x => (opA sl y).bind fun y => minmax false x y
    | .max, [x, y], _ => (opA sl x).bind fun x => (opA sl y).bind fun y => minmax true x y
    | .clear, [x], [t] => (opA sl x).bind fun a => eClear P fs base t a h.datO
    | _, _, _ => none)
  | .value f => (opA sl f).bind fun f => (opAs sl c.args.toList).bind fun as => eCallV P fs base h f as
  | _ => none

/-- one operation -/
def opEv {D : Bool} (P : Program) (fs : Nat → Option Fact) (sl : Nat → Option AV) (base : Nat) (h : Hint D P) (op : Op) : Option OpR :=
  match op with
  | .move x => (opA sl x).map fun a => ⟨[], a, []⟩
  | .assign x => (opA sl x).map fun a => ⟨[], a, []⟩
  | .alloc T => eAlloc P base T
  | .box T x => (opA sl x).bind fun a => eBox base T a
  | .build T ps => (opPs sl ps.toList).bind fun ps => eBuild P T ps
  | .buildSlice T n ps => (opPs sl ps.toList).bind fun ps => eBuildS P fs base T n ps h.datO
  | .load T a => (opA sl a).bind fun a => (match h.takeO with | some d => eTake P fs base T a d | none => (match h.asO with | some gi => eLoadAs P fs T a gi | none => eLoad P fs T a))
  | .store T a v => (opA sl a).bind fun a => (opA sl v).bind fun v => (match h.dat2O with | some (d, e) => eStoreN P fs base T a v d e | none => eStore P fs base T a v h.datO)
  | .nilCheck x => (opA sl x).bind fun a => eNil fs a
  | .binOp o T x y _ => (opA sl x).bind fun x => (opA sl y).bind fun y => eBin P h o T x y
  | .unOp o _ x => (opA sl x).bind fun a => match a with | .v a => (unV o a).map fun v => ⟨[], .v v, []⟩ | _ => none
  | .convert s d x => (opA sl x).bind fun a => (match h.strO with | some st => eConvS P fs s d a st | none => eConv P s d a)
  | .makeFunc fn first cap => (match fn, first.toList with
    | .func f, [] => (opAs sl cap.toList).map fun cs => ⟨[], .cl f cs, []⟩
    | _, _ => none)
  | .makeSlice T l c => (opA sl l).bind fun l => (opA sl c).bind fun c => h.datO.bind fun d => eMake P base T l c d
  | .slice T x lo hi mx => (match mx with
    | none => (opA sl x).bind fun x => (opO sl lo).bind fun lo => (opO sl hi).bind fun hi => (match P.underlying T with
      | some .string => eSliceS x lo hi
      | some (.slice _) => bif h.isPart then ePart P fs base T x lo hi else bif h.isSv then eSlcV P fs base T x lo hi else eSlc P fs base T x lo hi h.isOwn
      | _ => none)
    | some _ => none)
  | .fieldAddr T x i => (opA sl x).bind fun a => eFieldAddr P fs T i a
  | .field T x i => (opA sl x).bind fun a => eField P T i a
  | .indexAddr T x i => (opA sl x).bind fun a => (opA sl i).bind fun i => eIdx P fs base T a i h.ixO
  | .index T x i => (opA sl x).bind fun a => (opA sl i).bind fun i => match P.underlying T with
    | some .string => eIndexS a i
    | _ => none
  | .extract x i => (opA sl x).bind fun a => eExtract i a
  | .call c => callEv P fs sl base h c
  | _ => none

section
variable {D : Bool} {P : Program} {fs fsA : Nat → Option Fact} {β : Nat → Nat → Value} {φ : Nat → List Nat} {dom ψ IN : Nat → Prop} {w0 w w' : World} {base : Nat} {sl : Nat → Option AV} {ρ : Operand → Value}

/-- the operands are as the machine knows them -/
def SlOK (sl : Nat → Option AV) (β : Nat → Nat → Value) (dom : Nat → Prop) (ρ : Operand → Value) : Prop := ∀ x a, opA sl x = some a → ρ x = val β a ∧ a.wf dom

theorem opAs_ok (H : SlOK sl β dom ρ) : ∀ {xs : List Operand} {as : List AV}, opAs sl xs = some as → xs.map ρ = vals β as ∧ AVs.wf dom as
  | [], as, h => by simp only [opAs, Option.some.injEq] at h; subst h; exact ⟨rfl, trivial⟩
  | x :: xs, as, h => by
    simp only [opAs] at h
    split at h
    · rename_i a as' h1 h2
      cases h
      obtain ⟨g1, g2⟩ := opAs_ok H h2
      obtain ⟨k1, k2⟩ := H x a h1
      exact ⟨by simp [vals, g1, k1], k2, g2⟩
    · cases h
theorem opPs_ok (H : SlOK sl β dom ρ) : ∀ {xs : List (Nat × Operand)} {as : List (Nat × AV)}, opPs sl xs = some as → xs.map (fun p => (p.1, ρ p.2)) = as.map (fun p => (p.1, val β p.2)) ∧ ∀ p ∈ as, p.2.wf dom
  | [], as, h => by simp only [opPs, Option.some.injEq] at h; subst h; exact ⟨rfl, fun p hp => by cases hp⟩
  | (i, x) :: xs, as, h => by
    simp only [opPs] at h
    split at h
    · rename_i a as' h1 h2
      cases h
      obtain ⟨g1, g2⟩ := opPs_ok H h2
      obtain ⟨k1, k2⟩ := H x a h1
      refine ⟨by simp [g1, k1], fun p hp => ?_⟩
      rcases List.mem_cons.1 hp with rfl | hp
      · exact k2
      · exact g2 p hp
    · cases h
theorem opO_ok (H : SlOK sl β dom ρ) {x : Option Operand} {a : Option AV} (h : opO sl x = some a) : x.map ρ = a.map (val β) := by
  cases x with
  | none => simp only [opO, Option.some.injEq] at h; subst h; rfl
  | some x =>
    simp only [opO] at h
    split at h
    · rename_i a' h1
      cases h
      simp [(H x a' h1).1]
    · cases h

theorem snd_of (R : Rel P fsA β φ dom ψ IN w0 w) {r : OpR} {s : Sem Value} (h : s.run P w = .ok (val β r.av) w ∧ r.av.wf dom ∧ r.sets = []) : Snd P fsA base r β φ dom ψ IN w0 ((do pure (Next.value (← s)) : Sem Next).run P w) := by
  obtain ⟨h1, h2, h3⟩ := h
  obtain ⟨vcs, av, sets⟩ := r
  simp only at h3
  subst h3
  exact Snd.pure R h2 (by simp [h1])

theorem valsOf_ok : ∀ {cs : List AV} {vs : List Value}, valsOf cs = some vs → vals β cs = vs
  | [], vs, h => by simp only [valsOf, Option.some.injEq] at h; subst h; rfl
  | c :: cs, vs, h => by
    cases c with
    | v x =>
      simp only [valsOf] at h
      split at h
      · rename_i us hr
        cases h
        simp only [vals, val, valsOf_ok hr]
      · cases h
    | _ => simp [valsOf] at h
theorem valOf_ok {a : AV} {v : Value} (h : valOf a = some v) : val β a = v := by
  cases a with
  | v x => simp only [valOf, Option.some.injEq] at h; exact h
  | ag cs =>
    simp only [valOf] at h
    split at h
    · rename_i vs hr
      cases h
      simp only [val, valsOf_ok hr]
    · cases h
  | _ => simp [valOf] at h

theorem equalIn_bool {T : TypeId} (hT : P.underlying T = some .bool) (p q : Bool) : ∀ d, (Op.equalIn (d + 1) T (.bool p) (.bool q)).run P w = .ok (p == q) w := by
  intro d
  simp [Op.equalIn, run_underlying hT]
theorem equal_bool {T : TypeId} (hT : P.underlying T = some .bool) (p q : Bool) : (Op.equal T (.bool p) (.bool q)).run P w = .ok (p == q) w := equalIn_bool hT p q 9999

theorem eBin_ok (R : Rel P fsA β φ dom ψ IN w0 w) {h : Hint D P} {o : BinOp} {T : TypeId} {a b : AV} {r : OpR} (he : eBin P h o T a b = some r) (hv : AllP r.vcs) (x y : Operand) :
    (do eqGuard o T x y (val β a) (val β b); binOp o T (val β a) (val β b)).run P w = .ok (val β r.av) w ∧ r.av.wf dom ∧ r.sets = [] := by
  unfold eBin at he
  split at he
  · rename_i o' T' a' b' v one ok
    split at he
    · rename_i x' y' hx hy
      split at he
      · rename_i hot
        obtain ⟨rfl, rfl⟩ := hot
        cases he
        obtain ⟨rfl, rfl, _⟩ := hv
        refine ⟨?_, trivial, rfl⟩
        rw [valOf_ok hx, valOf_ok hy]
        exact ok x y w
      · cases he
    · cases he
  · split at he
    · rename_i p q
      split at he
      · rename_i hT
        cases he
        refine ⟨?_, trivial, rfl⟩
        simp [eqGuard, binOp, val, equal_bool hT]
      · rename_i hT
        cases he
        refine ⟨?_, trivial, rfl⟩
        simp [eqGuard, binOp, val, equal_bool hT]
      · cases he
    · rename_i p q _
      split at he
      · rename_i vcs v hb
        cases hone : v.oneCell' with
        | false => rw [hone] at he; cases he
        | true =>
          rw [hone] at he
          cases he
          exact ⟨binV_ok hb hv T x y w, trivial, rfl⟩
      · cases he
    · cases he

theorem eLen_ok (R : Rel P fsA β φ dom ψ IN w0 w) (hsub : ∀ id f, fs id = some f → fsA id = some f) {t ty : TypeId} {x : AV} {r : OpR} (h : eLen P fs t x = some r) :
    (Builtin.len_ #[t] ty #[val β x]).run P w = .ok (val β r.av) w ∧ r.av.wf dom ∧ r.sets = [] := by
  unfold eLen at h
  split at h
  · split at h
    · rename_i s ht; cases h; exact ⟨by simp [Builtin.len_, val, run_underlying ht, goInt], trivial, rfl⟩
    · cases h
  · split at h
    · rename_i e ht; cases h; exact ⟨by simp [Builtin.len_, val, run_underlying ht, goInt], trivial, rfl⟩
    · cases h
  · split at h
    · rename_i α inst sz enc xs dep e hd ht
      cases h
      obtain ⟨⟨a, c, e1, _⟩, _⟩ := datOf_ok R hsub hd
      exact ⟨by rw [e1]; simp [Builtin.len_, val, run_underlying ht, goInt], trivial, rfl⟩
    · cases h

theorem callable_ok {f : FuncId} (h : callable P f = true) (args : Array Value) : (callFunc f args).run P w = .ok (.enter f args) w := by
  unfold callable at h
  split at h
  · rename_i fn hf
    simp only [Bool.and_eq_true, Bool.not_eq_true', beq_eq_false_iff_ne] at h
    cases hb : fn.body with
    | none => rw [hb] at h; simp at h
    | some c => simp [callFunc, hf, h.2, hb]
  · cases h

theorem args_of_mro (R : Rel P fsA β φ dom ψ IN w0 w) (hsub : ∀ id f, fs id = some f → fsA id = some f) : ∀ {as : List AV} {ras : List RA} {m : MA}, mRos fs as (ras.map .r) = some m → AllP m.vcs → RdArgs (Outs φ w []) w ras (vals β as)
  | as, [], m, h, hv => by
    cases as with
    | nil => rfl
    | cons a as => simp [mRos] at h
  | as, ra :: ras, m, h, hv => by
    cases as with
    | nil => simp [mRos] at h
    | cons a as =>
      simp only [List.map_cons, mRos] at h
      split at h
      · rename_i m1 m2 h1 h2
        cases h
        obtain ⟨v1, v2⟩ := AllP.app hv
        obtain ⟨⟨k1, _⟩, _⟩ := mRo_ok (CONS := []) R hsub (fun id h => by cases h) h1 v1 fun X hX h => by cases h
        exact ⟨_, _, rfl, k1, args_of_mro R hsub h2 v2⟩
      · cases h

theorem execOp_enter (ρ : Operand → Value) {x : Operand} {args : Array Operand} {ats : Array TypeId} {d : Option Tmp} {ty : TypeId} {pos : String} {af : Array Edge} {g : Option (Nat × Bool)} {f : FuncId} {cap : Array Value} (hx : ρ x = .func (.func f) #[] cap) (hc : callable P f = true) :
    (execOp ρ ⟨d, .call { callee := .value x, args := args, argTypes := ats }, ty, pos, af, g⟩).run P w = .ok (.enter f (args.map ρ ++ cap)) w := by
  have := callable_ok (w := w) hc (args.map ρ ++ cap)
  simp [execOp, resolve, hx, Deferred.ofValue, invoke, this]

theorem fnFact_ok (R : Rel P fsA β φ dom ψ IN w0 w) (hsub : ∀ id f, fs id = some f → fsA id = some f) {av : AV} {F : FnSpec} {p : Prop} (h : fnFact P fs av F = some p) (hp : p) : ∃ S : Nat → Prop, FnOK false P S w F (val β av) := by
  unfold fnFact at h
  split at h
  · rename_i id j
    split at h
    · rename_i F0 hF
      cases h
      subst hp
      exact ⟨ψ, (R.ok id _ (hsub _ _ hF)).2⟩
    · split at h
      · rename_i X dep hd
        cases h
        subst hp
        exact ⟨_, (datOf_ok R hsub hd).1⟩
      · cases h
  · cases h
theorem eConvS_ok (R : Rel P fsA β φ dom ψ IN w0 w) (hsub : ∀ id f, fs id = some f → fsA id = some f) {src dst : TypeId} {x : AV} {s : ByteArray} {r : OpR} (h : eConvS P fs src dst x s = some r) (hv : AllP r.vcs) :
    (convert src dst (val β x)).run P w = .ok (val β r.av) w ∧ r.av.wf dom ∧ r.sets = [] := by
  unfold eConvS at h
  split at h
  · rename_i d dep e hd hs hdst
    split at h
    · rename_i he
      cases h
      obtain ⟨⟨α, _, enc, xs, f, rfl, henc, rfl⟩, _⟩ := hv
      refine ⟨?_, trivial, rfl⟩
      obtain ⟨⟨a, c, e1, h2, h3, h4⟩, _⟩ := datOf_ok R hsub hd
      rw [e1]
      simp only [val]
      cases xs with
      | nil =>
        cases a with
        | none => exact run_convert_bytes_nil _ src e hs he _ _ dst hdst
        | some ad =>
          exact run_convert_bytes_back w src dst e ad c [] hs he hdst (fun j hj => by cases hj)
      | cons y ys =>
        obtain ⟨k1, _⟩ := h4 0 y rfl
        rw [k1]
        rw [run_convert_bytes_arg w src e hs he (ab a) (ao a) _ c ((y :: ys).map f) (by simp) (fun i hi => ?_) dst hdst]
        have hg : (y :: ys)[i]? = some ((y :: ys)[i]'hi) := List.getElem?_eq_getElem hi
        obtain ⟨_, _, cs, g1, g2, g3⟩ := h4 i _ hg
        rw [henc] at g3
        obtain ⟨u, us, rfl, ⟨rfl, _⟩, rfl⟩ := g3
        have := g2 0 _ rfl
        rw [Nat.mul_one, Nat.add_zero] at this
        rw [this, List.getD_eq_getElem?_getD, List.getElem?_map, hg]
        rfl
    · cases h
  · cases h

theorem eCallV_ok (hD : D = false → w0.drawn = 0) (R : Rel P fsA β φ dom ψ IN w0 w) (hb : ∀ id, base ≤ id → id < base + stride → ¬ dom id) (hsub : ∀ id f, fs id = some f → fsA id = some f) {h : Hint D P} {fv : AV} {as : List AV} {r : OpR} (he : eCallV P fs base h fv as = some r) (hv : AllP r.vcs) {x : Operand} {args : Array Operand} {ats : Array TypeId} {d : Option Tmp} {ty : TypeId} {pos : String} {af : Array Edge} {g : Option (Nat × Bool)}
    (hx : ρ x = val β fv) (hargs : args.toList.map ρ = vals β as) :
    Snd P fsA base r β φ dom ψ IN w0 ((execOp ρ ⟨d, .call { callee := .value x, args := args, argTypes := ats }, ty, pos, af, g⟩).run P w) := by
  have hargs2 : args.map ρ = (vals β as).toArray := by apply Array.ext'; rw [Array.toList_map, hargs]
  unfold eCallV at he
  split at he
  · rename_i f cap f' sp ok fh
    cases hcc : (Nat.beq f f' && callable P f) with
    | false => rw [hcc] at he; cases he
    | true =>
      rw [hcc] at he
      simp only [cond_true] at he
      simp only [Bool.and_eq_true] at hcc
      have hff := Nat.eq_of_beq_eq_true hcc.1
      subst hff
      have hrun := execOp_enter (P := P) (w := w) (d := d) (ty := ty) (pos := pos) (af := af) (g := g) (ats := ats) (args := args) ρ hx hcc.2
      rw [hargs2] at hrun
      refine eCall_ok R hb hsub hD ok he hv (hrun.trans ?_)
      rw [vals_app]
      simp
  · rename_i f cap f' sp ok dX
    cases hcc : (Nat.beq f f' && callable P f) with
    | false => rw [hcc] at he; cases he
    | true =>
      rw [hcc] at he
      simp only [cond_true] at he
      simp only [Bool.and_eq_true] at hcc
      have hff := Nat.eq_of_beq_eq_true hcc.1
      subst hff
      have hrun := execOp_enter (P := P) (w := w) (d := d) (ty := ty) (pos := pos) (af := af) (g := g) (ats := ats) (args := args) ρ hx hcc.2
      rw [hargs2] at hrun
      refine eCallE_ok R hb hsub hD ok he hv (hrun.trans ?_)
      rw [vals_app]
      simp
  · rename_i id F i
    split at he
    · rename_i p m hF hm
      cases he
      obtain ⟨hv0, hv'⟩ := hv
      have hrd := args_of_mro R hsub hm hv'
      obtain ⟨S0, f, cap, e1, hc, e2⟩ := fnFact_ok R hsub hF hv0
      have hrun := execOp_enter (P := P) (w := w) (d := d) (ty := ty) (pos := pos) (af := af) (g := g) (ats := ats) (args := args) ρ (hx.trans e1) hc
      rw [hargs2] at hrun
      rw [hrun]
      refine Calls.mono (e2 i w (Outs φ w []) _ (fun _ _ => rfl) (R.gloOuts (CONS := []) (fun _ h => by cases h)) (fun b hb => hb.1) hrd) fun e w2 ⟨h1, h2⟩ => ⟨_, h1, ?_⟩
      refine ⟨β, φ, dom, rfl, trivial, fun id h => ⟨h, rfl⟩, fun id h => .inl h, ?_⟩
      exact R.step0 (NN := fun _ => False) (C := fun _ => False) (Chg.of_below h2).ofD (by rw [hD rfl]; exact Nat.zero_le _) (fun _ h => ⟨h, rfl⟩) R.all1 (fun _ _ h => .inr h) (fun _ _ => rfl) (fun _ _ h => h.elim) (fun _ _ h => h.elim) (fun _ _ _ h => h.elim) (fun _ _ h => h.elim) (fun _ _ _ _ h => h.elim)
    · cases he
  · cases he

theorem execOp_app (ρ : Operand → Value) {x y : Operand} {t : TypeId} {d : Option Tmp} {ty : TypeId} {pos : String} {af : Array Edge} {g : Option (Nat × Bool)} :
    (execOp ρ ⟨d, .call { callee := .builtin .append, args := #[x, y], argTypes := #[t, t] }, ty, pos, af, g⟩).run P w = (do pure (Next.value (← Builtin.append_ #[t, t] ty #[ρ x, ρ y])) : Sem Next).run P w := by
  simp [execOp, resolve, invoke, builtin]
theorem execOp_len (ρ : Operand → Value) {x : Operand} {t : TypeId} {d : Option Tmp} {ty : TypeId} {pos : String} {af : Array Edge} {g : Option (Nat × Bool)} :
    (execOp ρ ⟨d, .call { callee := .builtin .len, args := #[x], argTypes := #[t] }, ty, pos, af, g⟩).run P w = (do pure (Next.value (← Builtin.len_ #[t] ty #[ρ x])) : Sem Next).run P w := by
  simp [execOp, resolve, invoke, builtin]
theorem execOp_min (ρ : Operand → Value) {x y : Operand} {ts : Array TypeId} {d : Option Tmp} {ty : TypeId} {pos : String} {af : Array Edge} {g : Option (Nat × Bool)} :
    (execOp ρ ⟨d, .call { callee := .builtin .min, args := #[x, y], argTypes := ts }, ty, pos, af, g⟩).run P w = (do pure (Next.value (← Builtin.min_ ts ty #[ρ x, ρ y])) : Sem Next).run P w := by
  simp [execOp, resolve, invoke, builtin]
theorem execOp_max (ρ : Operand → Value) {x y : Operand} {ts : Array TypeId} {d : Option Tmp} {ty : TypeId} {pos : String} {af : Array Edge} {g : Option (Nat × Bool)} :
    (execOp ρ ⟨d, .call { callee := .builtin .max, args := #[x, y], argTypes := ts }, ty, pos, af, g⟩).run P w = (do pure (Next.value (← Builtin.max_ ts ty #[ρ x, ρ y])) : Sem Next).run P w := by
  simp [execOp, resolve, invoke, builtin]

theorem execOp_clear (ρ : Operand → Value) {x : Operand} {t : TypeId} {d : Option Tmp} {ty : TypeId} {pos : String} {af : Array Edge} {g : Option (Nat × Bool)} :
    (execOp ρ ⟨d, .call { callee := .builtin .clear, args := #[x], argTypes := #[t] }, ty, pos, af, g⟩).run P w = (do pure (Next.value (← Builtin.clear_ #[t] ty #[ρ x])) : Sem Next).run P w := by
  simp [execOp, resolve, invoke, builtin]

theorem callEv_ok (hD : D = false → w0.drawn = 0) (R : Rel P fsA β φ dom ψ IN w0 w) (hb : ∀ id, base ≤ id → id < base + stride → ¬ dom id) (hsub : ∀ id f, fs id = some f → fsA id = some f) (H : SlOK sl β dom ρ) {h : Hint D P} {c : Call} {r : OpR} (he : callEv P fs sl base h c = some r) (hv : AllP r.vcs) {dst : Option Tmp} {type : TypeId} {pos : String} {after : Array Edge} {guard : Option (Nat × Bool)} :
    Snd P fsA base r β φ dom ψ IN w0 ((execOp ρ ⟨dst, .call c, type, pos, after, guard⟩).run P w) := by
  obtain ⟨callee, args, ats⟩ := c
  have lits : ∀ {α : Type} {a : Array α} {l : List α}, a.toList = l → a = l.toArray := fun e => by apply Array.ext'; rw [e]
  unfold callEv at he
  simp only at he
  split at he
  · split at he
    · rename_i x t e1 e2
      obtain rfl := lits e1
      obtain rfl := lits e2
      obtain ⟨a, h1, h2⟩ := Option.bind_eq_some_iff.1 he
      obtain ⟨k1, k2⟩ := H x a h1
      rw [execOp_len, k1]
      exact snd_of R (eLen_ok R hsub h2)
    · rename_i x y t t' e1 e2
      obtain rfl := lits e1
      obtain rfl := lits e2
      obtain ⟨a, h1, h2⟩ := Option.bind_eq_some_iff.1 he
      obtain ⟨b, h3, h4⟩ := Option.bind_eq_some_iff.1 h2
      obtain ⟨d, h5, h6⟩ := Option.bind_eq_some_iff.1 h4
      obtain ⟨k1, k2⟩ := H x a h1
      obtain ⟨k3, k4⟩ := H y b h3
      cases ht : Nat.beq t t' with
      | false => rw [ht] at h6; cases h6
      | true =>
        rw [ht] at h6
        have ht' := Nat.eq_of_beq_eq_true ht
        subst ht'
        rw [execOp_app, k1, k3]
        exact eApp_ok R hb hsub h6 hv
    · rename_i x y e1
      obtain rfl := lits e1
      obtain ⟨a, h1, h2⟩ := Option.bind_eq_some_iff.1 he
      obtain ⟨b, h3, h4⟩ := Option.bind_eq_some_iff.1 h2
      obtain ⟨k1, k2⟩ := H x a h1
      obtain ⟨k3, k4⟩ := H y b h3
      rw [execOp_min, k1, k3]
      unfold minmax at h4
      split at h4
      · cases h4
        exact Snd.pure R trivial (by simp [Builtin.min_, Builtin.min2, val])
      · cases h4
    · rename_i x y e1
      obtain rfl := lits e1
      obtain ⟨a, h1, h2⟩ := Option.bind_eq_some_iff.1 he
      obtain ⟨b, h3, h4⟩ := Option.bind_eq_some_iff.1 h2
      obtain ⟨k1, k2⟩ := H x a h1
      obtain ⟨k3, k4⟩ := H y b h3
      rw [execOp_max, k1, k3]
      unfold minmax at h4
      split at h4
      · cases h4
        exact Snd.pure R trivial (by simp [Builtin.max_, Builtin.max2, val])
      · cases h4
    · rename_i x t e1 e2
      obtain rfl := lits e1
      obtain rfl := lits e2
      obtain ⟨a, h1, h2⟩ := Option.bind_eq_some_iff.1 he
      obtain ⟨k1, k2⟩ := H x a h1
      rw [execOp_clear, k1]
      exact eClear_ok R hb hsub h2 hv
    · cases he
  · rename_i f
    obtain ⟨a, h1, h2⟩ := Option.bind_eq_some_iff.1 he
    obtain ⟨as, h3, h4⟩ := Option.bind_eq_some_iff.1 h2
    obtain ⟨k1, k2⟩ := H f a h1
    obtain ⟨k3, k4⟩ := opAs_ok H h3
    exact eCallV_ok hD R hb hsub h4 hv k1 k3
  · cases he

/-- ONE OPERATION: what the machine says of it is so. -/
theorem opEv_ok (hD : D = false → w0.drawn = 0) (R : Rel P fsA β φ dom ψ IN w0 w) (hb : ∀ id, base ≤ id → id < base + stride → ¬ dom id) (hsub : ∀ id f, fs id = some f → fsA id = some f) (H : SlOK sl β dom ρ) {h : Hint D P} {o : Oper} {r : OpR} (he : opEv P fs sl base h o.op = some r) (hv : AllP r.vcs) :
    Snd P fsA base r β φ dom ψ IN w0 ((execOp ρ o).run P w) := by
  obtain ⟨dst, op, type, pos, after, guard⟩ := o
  simp only at he
  cases op <;> simp only [opEv] at he <;> first | (cases he; done) | skip
  case move x =>
    obtain ⟨a, h1, rfl⟩ := Option.map_eq_some_iff.1 he
    obtain ⟨k1, k2⟩ := H x a h1
    exact Snd.pure R k2 (by simp [execOp, k1])
  case assign x =>
    obtain ⟨a, h1, rfl⟩ := Option.map_eq_some_iff.1 he
    obtain ⟨k1, k2⟩ := H x a h1
    exact Snd.pure R k2 (by simp [execOp, k1])
  case alloc T =>
    exact eAlloc_ok R hb he rfl
  case box T x =>
    obtain ⟨a, h1, h2⟩ := Option.bind_eq_some_iff.1 he
    obtain ⟨k1, k2⟩ := H x a h1
    have := eBox_ok R hb h2 k2
    rw [← k1] at this
    exact this
  case build T ps =>
    obtain ⟨a, h1, h2⟩ := Option.bind_eq_some_iff.1 he
    obtain ⟨k1, k2⟩ := opPs_ok H h1
    have := eBuild_ok (w := w) R h2 k2
    have e : (ps.map fun (i, x) => (i, ρ x)) = (a.map fun p => (p.1, val β p.2)).toArray := by
      apply Array.ext'; rw [Array.toList_map, ← k1]
    have h3 := snd_of (base := base) R ⟨this.1, this.2.1, this.2.2.1⟩
    rw [← e] at h3
    exact h3
  case buildSlice T n ps =>
    obtain ⟨a, h1, h2⟩ := Option.bind_eq_some_iff.1 he
    obtain ⟨k1, k2⟩ := opPs_ok H h1
    have e : (ps.map fun (i, x) => (i, ρ x)) = (a.map fun p => (p.1, val β p.2)).toArray := by
      apply Array.ext'; rw [Array.toList_map, ← k1]
    have h3 := eBuildS_ok R hb hsub h2 hv k2
    rw [← e] at h3
    exact h3
  case load T x =>
    obtain ⟨a, h1, h2⟩ := Option.bind_eq_some_iff.1 he
    obtain ⟨k1, k2⟩ := H x a h1
    split at h2
    · have h3 := eTake_ok R hb hsub h2 hv
      rw [← k1] at h3
      exact h3
    split at h2
    · have := eLoadAs_ok R hsub h2 hv
      have h3 := snd_of (base := base) R ⟨this.1, this.2.1, this.2.2⟩
      rw [← k1] at h3
      exact h3
    have := eLoad_ok R hsub h2
    have h3 := snd_of (base := base) R ⟨this.1, this.2.1, this.2.2.1⟩
    rw [← k1] at h3
    exact h3
  case store T x v =>
    obtain ⟨a, h1, h2⟩ := Option.bind_eq_some_iff.1 he
    obtain ⟨b, h3, h4⟩ := Option.bind_eq_some_iff.1 h2
    obtain ⟨k1, k2⟩ := H x a h1
    obtain ⟨k3, k4⟩ := H v b h3
    split at h4
    · have := eStoreN_ok R hb hsub h4 hv k4
      rw [← k1, ← k3] at this
      exact this
    have := eStore_ok R hb hsub h4 hv k4
    rw [← k1, ← k3] at this
    exact this
  case nilCheck x =>
    obtain ⟨a, h1, h2⟩ := Option.bind_eq_some_iff.1 he
    obtain ⟨k1, k2⟩ := H x a h1
    cases a <;> simp only [eNil] at h2 <;> first | cases h2 | skip
    rename_i id off
    split at h2
    · rename_i cs hcs
      cases h2
      obtain ⟨b, o, g1, g2, g3, g4, g5⟩ := cellsAt_ok R hsub hcs
      refine Snd.pure R g5 ?_
      simp [execOp, k1, val, g1, padd]
    · cases h2
  case binOp o T x y T' =>
    obtain ⟨a, h1, h2⟩ := Option.bind_eq_some_iff.1 he
    obtain ⟨b, h3, h4⟩ := Option.bind_eq_some_iff.1 h2
    obtain ⟨k1, k2⟩ := H x a h1
    obtain ⟨k3, k4⟩ := H y b h3
    have := snd_of (base := base) R (eBin_ok (w := w) R h4 hv x y)
    rw [← k1, ← k3] at this
    exact this
  case unOp o T x =>
    obtain ⟨a, h1, h2⟩ := Option.bind_eq_some_iff.1 he
    obtain ⟨k1, k2⟩ := H x a h1
    split at h2
    · rename_i a
      obtain ⟨v, h3, rfl⟩ := Option.map_eq_some_iff.1 h2
      refine Snd.pure R trivial ?_
      have := unV_ok (P := P) h3 w
      simp [execOp, k1, val, this]
    · cases h2
  case convert s d x =>
    obtain ⟨a, h1, h2⟩ := Option.bind_eq_some_iff.1 he
    obtain ⟨k1, k2⟩ := H x a h1
    split at h2
    · obtain ⟨q1, q2, q3⟩ := eConvS_ok R hsub h2 hv
      have := snd_of (base := base) R ⟨q1, q2, q3⟩
      rw [← k1] at this
      exact this
    · unfold eConv at h2
      split at h2
      · split at h2
        · rename_i k n u k' hs hd
          cases h2
          refine Snd.pure R trivial ?_
          cases u <;> simp [execOp, k1, val, convert, run_underlying hs, run_underlying hd, Conv.intToInt]
        · cases h2
      · split at h2
        · rename_i ss u hs hd
          cases h2
          refine Snd.pure R trivial ?_
          cases u <;> simp [execOp, k1, val, convert, run_underlying hs, run_underlying hd]
        · cases h2
      · cases h2
  case makeFunc fn first cap =>
    split at he
    case h_2 => cases he
    rename_i f hfirst
    have hfirst : first = #[] := by apply Array.ext'; rw [hfirst]
    subst hfirst
    obtain ⟨a, h1, rfl⟩ := Option.map_eq_some_iff.1 he
    obtain ⟨k1, k2⟩ := opAs_ok H h1
    refine Snd.pure R k2 ?_
    have e : cap.map ρ = (vals β a).toArray := by apply Array.ext'; rw [Array.toList_map, k1]
    simp [execOp, Instr.makeFunc, e, val]
  case makeSlice T l c =>
    obtain ⟨a, h1, h2⟩ := Option.bind_eq_some_iff.1 he
    obtain ⟨b, h3, h4⟩ := Option.bind_eq_some_iff.1 h2
    obtain ⟨d, h5, h6⟩ := Option.bind_eq_some_iff.1 h4
    obtain ⟨k1, k2⟩ := H l a h1
    obtain ⟨k3, k4⟩ := H c b h3
    have := eMake_ok R hb h6 hv
    rw [← k1, ← k3] at this
    exact this
  case slice T x lo hi mx =>
    cases mx with
    | some m => cases he
    | none =>
    simp only at he
    obtain ⟨a, h1, h2⟩ := Option.bind_eq_some_iff.1 he
    obtain ⟨l, h3, h4⟩ := Option.bind_eq_some_iff.1 h2
    obtain ⟨hh, h5, h6⟩ := Option.bind_eq_some_iff.1 h4
    obtain ⟨k1, k2⟩ := H x a h1
    have k3 := opO_ok H h3
    have k4 := opO_ok H h5
    have e : (execOp ρ ⟨dst, .slice T x lo hi none, type, pos, after, guard⟩) = (do pure (Next.value (← Instr.sliceAt T (val β a) (l.map (val β)) (hh.map (val β)) none)) : Sem Next) := by
      rw [← k1, ← k3, ← k4]; rfl
    rw [e]
    split at h6
    · rename_i hT
      exact snd_of R (eSliceS_ok hT h6 hv)
    · rename_i U hT
      cases hp : h.isPart with
      | false =>
        rw [hp] at h6
        simp only [cond_false] at h6
        cases hp2 : h.isSv with
        | false => rw [hp2] at h6; exact eSlc_ok R hb hsub h6 hv (by simp [tElem, hT])
        | true => rw [hp2] at h6; exact eSlcV_ok R hb hsub h6 hv (by simp [tElem, hT])
      | true => rw [hp] at h6; exact ePart_ok R hb hsub h6 hv (by simp [tElem, hT])
    · cases h6
  case fieldAddr T x i =>
    obtain ⟨a, h1, h2⟩ := Option.bind_eq_some_iff.1 he
    obtain ⟨k1, k2⟩ := H x a h1
    have := eFieldAddr_ok R hsub h2
    have h3 := snd_of (base := base) R ⟨this.1, this.2.1, this.2.2.1⟩
    rw [← k1] at h3
    exact h3
  case field T x i =>
    obtain ⟨a, h1, h2⟩ := Option.bind_eq_some_iff.1 he
    obtain ⟨k1, k2⟩ := H x a h1
    have := eField_ok (w := w) (β := β) h2 k2
    have h3 := snd_of (base := base) R ⟨this.1, this.2.1, this.2.2.1⟩
    rw [← k1] at h3
    exact h3
  case indexAddr T x i =>
    obtain ⟨a, h1, h2⟩ := Option.bind_eq_some_iff.1 he
    obtain ⟨b, h3, h4⟩ := Option.bind_eq_some_iff.1 h2
    obtain ⟨k1, k2⟩ := H x a h1
    obtain ⟨k3, k4⟩ := H i b h3
    have := eIdx_ok R hb hsub h4 hv
    rw [← k1, ← k3] at this
    exact this
  case index T x i =>
    obtain ⟨a, h1, h2⟩ := Option.bind_eq_some_iff.1 he
    obtain ⟨b, h3, h4⟩ := Option.bind_eq_some_iff.1 h2
    obtain ⟨k1, k2⟩ := H x a h1
    obtain ⟨k3, k4⟩ := H i b h3
    split at h4
    · rename_i hT
      have := snd_of (base := base) R (eIndexS_ok (w := w) (β := β) hT h4 hv)
      rw [← k1, ← k3] at this
      exact this
    · cases h4
  case extract x i =>
    obtain ⟨a, h1, h2⟩ := Option.bind_eq_some_iff.1 he
    obtain ⟨k1, k2⟩ := H x a h1
    have := eExtract_ok (P := P) (w := w) (β := β) h2 k2
    have h3 := snd_of (base := base) R ⟨this.1, this.2.1, this.2.2.1⟩
    rw [← k1] at h3
    exact h3
  case call c => exact callEv_ok hD R hb hsub H he hv

end
end Go.Proofs.YtbhjkcicpobmhaaDoor
