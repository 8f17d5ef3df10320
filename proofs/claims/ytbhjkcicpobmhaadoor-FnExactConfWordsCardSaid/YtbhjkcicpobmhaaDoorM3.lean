/-
  The machine, third part: its operations, and that they are right.
-/
import Derived.Test.YtbhjkcicpobmhaaDoorM2
namespace Go.Proofs.YtbhjkcicpobmhaaDoor
open Go.RowKit
set_option linter.unusedVariables false
set_option linter.unusedSimpArgs false

def AllP : List Prop → Prop
  | [] => True
  | p :: ps => p ∧ AllP ps
theorem AllP.app {ps qs : List Prop} (h : AllP (ps ++ qs)) : AllP ps ∧ AllP qs := by
  induction ps with
  | nil => exact ⟨trivial, h⟩
  | cons p ps ih => exact ⟨⟨h.1, (ih h.2).1⟩, (ih h.2).2⟩

/-- what an operation comes to: what is to be shown, its value, what is known of memory behind it -/
structure OpR : Type 1 where
  vcs : List Prop
  av : AV
  sets : List (Nat × Option Fact)

def fupd (fs : Nat → Option Fact) (i : Nat) (o : Option Fact) : Nat → Option Fact := fun j => bif Nat.beq i j then o else fs j
def fupds (fs : Nat → Option Fact) : List (Nat × Option Fact) → Nat → Option Fact
  | [] => fs
  | (i, o) :: l => fupds (fupd fs i o) l

theorem fupd_eq (fs : Nat → Option Fact) (i : Nat) (o : Option Fact) (j : Nat) : fupd fs i o j = if j = i then o else fs j := by
  unfold fupd
  by_cases h : j = i
  · subst h; simp
  · have : Nat.beq i j = false := Bool.eq_false_iff.2 fun e => h (Nat.eq_of_beq_eq_true e).symm
    rw [this, if_neg h]; rfl

/-- numbers that an operation may give to items -/
def stride : Nat := 64

def Snd (P : Program) (fs : Nat → Option Fact) (base : Nat) (r : OpR) (β : Nat → Nat → Value) (φ : Nat → List Nat) (dom ψ IN : Nat → Prop) (w0 : World) (run : Result Next) : Prop :=
  Out P (fun v w' => ∃ β' φ' dom', v = val β' r.av ∧ r.av.wf dom' ∧ (∀ id, dom id → dom' id ∧ β' id = β id) ∧ (∀ id, dom' id → dom id ∨ (base ≤ id ∧ id < base + stride)) ∧ Rel P (fupds fs r.sets) β' φ' dom' ψ IN w0 w') run

section
variable {P : Program} {fs : Nat → Option Fact} {β : Nat → Nat → Value} {φ : Nat → List Nat} {dom ψ IN : Nat → Prop} {w0 w : World} {base : Nat}

/-- one that touches no memory -/
theorem Snd.pure (R : Rel P fs β φ dom ψ IN w0 w) {av : AV} {vcs : List Prop} {run : Result Next} (hw : av.wf dom) (h : run = .ok (.value (val β av)) w) : Snd P fs base ⟨vcs, av, []⟩ β φ dom ψ IN w0 run := by
  rw [h]
  exact ⟨β, φ, dom, rfl, hw, fun id h => ⟨h, rfl⟩, fun id h => .inl h, R⟩

/-! ### Scalars -/

def i64ok (n : Int) : Prop := -9223372036854775808 ≤ n ∧ n ≤ 9223372036854775807

def cmpI : BinOp → Int → Int → Option Bool
  | .eql, a, b => some (a == b)
  | .neq, a, b => some (a != b)
  | .lss, a, b => some (decide (a < b))
  | .leq, a, b => some (decide (a ≤ b))
  | .gtr, a, b => some (decide (a > b))
  | .geq, a, b => some (decide (a ≥ b))
  | _, _, _ => none

/-- bit by bit -/
def bitI (o : BinOp) (k : IntKind) (a b : Int) : Int := match o with
  | .and => k.wrap (BitVec.ofInt k.bits a &&& BitVec.ofInt k.bits b).toNat
  | .or => k.wrap (BitVec.ofInt k.bits a ||| BitVec.ofInt k.bits b).toNat
  | .xor => k.wrap (BitVec.ofInt k.bits a ^^^ BitVec.ofInt k.bits b).toNat
  | _ => k.wrap (BitVec.ofInt k.bits a &&& ~~~BitVec.ofInt k.bits b).toNat
/-- arithmetic: 'bnd': it is to be shown that the result is in range -/
def arI (bnd : Bool) : BinOp → IntKind → Int → Int → Option (List Prop × Value)
  | .add, .i64, a, b => bif bnd then some ([i64ok (a + b)], .int .i64 (a + b)) else some ([], .int .i64 (IntKind.i64.wrap (a + b)))
  | .sub, .i64, a, b => bif bnd then some ([i64ok (a - b)], .int .i64 (a - b)) else some ([], .int .i64 (IntKind.i64.wrap (a - b)))
  | .mul, .i64, a, b => bif bnd then some ([i64ok (a * b)], .int .i64 (a * b)) else some ([], .int .i64 (IntKind.i64.wrap (a * b)))
  | .quo, .i64, a, b => bif bnd then some ([¬ b = 0, i64ok (a.tdiv b)], .int .i64 (a.tdiv b)) else some ([¬ b = 0], .int .i64 (IntKind.i64.wrap (a.tdiv b)))
  | .add, k, a, b => some ([], .int k (k.wrap (a + b)))
  | .sub, k, a, b => some ([], .int k (k.wrap (a - b)))
  | .mul, k, a, b => some ([], .int k (k.wrap (a * b)))
  | .quo, k, a, b => some ([¬ b = 0], .int k (k.wrap (a.tdiv b)))
  | .rem, k, a, b => some ([¬ b = 0], .int k (a.tmod b))
  | .and, k, a, b => some ([], .int k (bitI .and k a b))
  | .or, k, a, b => some ([], .int k (bitI .or k a b))
  | .xor, k, a, b => some ([], .int k (bitI .xor k a b))
  | .andNot, k, a, b => some ([], .int k (bitI .andNot k a b))
  | _, _, _, _ => none

def binV (bnd : Bool) (o : BinOp) : Value → Value → Option (List Prop × Value)
  | .int k a, .int k' b =>
    match o with
    | .shl => some ([0 ≤ b], .int k (k.wrap (a * 2 ^ (min b.toNat k.bits))))
    | .shr => some ([0 ≤ b], .int k (a.fdiv (2 ^ (min b.toNat k.bits))))
    | _ => if k = k' then (match cmpI o a b with | some c => some ([], .bool c) | none => arI bnd o k a b) else none
  | .string a, .string b =>
    match o with
    | .add => some ([((a.size + b.size : Nat) : Int) ≤ 9223372036854775807], .string (a ++ b))
    | .eql => some ([], .bool (a.toList == b.toList))
    | .neq => some ([], .bool (!(a.toList == b.toList)))
    | .lss => some ([], .bool (Op.bytesLess a.toList b.toList))
    | .leq => some ([], .bool (Op.bytesLess a.toList b.toList || a.toList == b.toList))
    | .gtr => some ([], .bool (!(Op.bytesLess a.toList b.toList || a.toList == b.toList)))
    | .geq => some ([], .bool (!(Op.bytesLess a.toList b.toList)))
    | _ => none
  | _, _ => none

theorem i64ok.wrap {n : Int} (h : i64ok n) : IntKind.i64.wrap n = n := wrap_in h.1 h.2

theorem cmpI_ok {o : BinOp} {k : IntKind} {a b : Int} {c : Bool} (h : cmpI o a b = some c) (T : TypeId) (x y : Operand) (w : World) :
    (do eqGuard o T x y (.int k a) (.int k b); binOp o T (.int k a) (.int k b)).run P w = .ok (.bool c) w := by
  cases o <;> simp only [cmpI, Option.some.injEq] at h <;> first | (subst h; simp [eqGuard, binOp, Op.intCmp]; done) | cases h

theorem arI_ok {bnd : Bool} {o : BinOp} {k : IntKind} {a b : Int} {vcs : List Prop} {v : Value} (h : arI bnd o k a b = some (vcs, v)) (hv : AllP vcs) (T : TypeId) (x y : Operand) (w : World) :
    (do eqGuard o T x y (.int k a) (.int k b); binOp o T (.int k a) (.int k b)).run P w = .ok v w := by
  cases o
  case add => cases k <;> cases bnd <;> simp only [arI, cond_true, cond_false, Option.some.injEq, Prod.mk.injEq] at h <;> obtain ⟨rfl, rfl⟩ := h <;> first | (simp [eqGuard, binOp, Op.intArith]; done) | (simp [eqGuard, binOp, Op.intArith, hv.1.wrap])
  case sub => cases k <;> cases bnd <;> simp only [arI, cond_true, cond_false, Option.some.injEq, Prod.mk.injEq] at h <;> obtain ⟨rfl, rfl⟩ := h <;> first | (simp [eqGuard, binOp, Op.intArith]; done) | (simp [eqGuard, binOp, Op.intArith, hv.1.wrap])
  case mul => cases k <;> cases bnd <;> simp only [arI, cond_true, cond_false, Option.some.injEq, Prod.mk.injEq] at h <;> obtain ⟨rfl, rfl⟩ := h <;> first | (simp [eqGuard, binOp, Op.intArith]; done) | (simp [eqGuard, binOp, Op.intArith, hv.1.wrap])
  case quo => cases k <;> cases bnd <;> simp only [arI, cond_true, cond_false, Option.some.injEq, Prod.mk.injEq] at h <;> obtain ⟨rfl, rfl⟩ := h <;> have hb := hv.1 <;> first | (simp [eqGuard, binOp, Op.intDiv, hb]; done) | (simp [eqGuard, binOp, Op.intDiv, hb, hv.2.1.wrap])
  case rem => cases k <;> simp only [arI, Option.some.injEq, Prod.mk.injEq] at h <;> obtain ⟨rfl, rfl⟩ := h <;> have hb := hv.1 <;> simp [eqGuard, binOp, Op.intDiv, hb]
  case and => cases k <;> simp only [arI, Option.some.injEq, Prod.mk.injEq] at h <;> obtain ⟨rfl, rfl⟩ := h <;> simp [eqGuard, binOp, Op.intBits, bitI]
  case or => cases k <;> simp only [arI, Option.some.injEq, Prod.mk.injEq] at h <;> obtain ⟨rfl, rfl⟩ := h <;> simp [eqGuard, binOp, Op.intBits, bitI]
  case xor => cases k <;> simp only [arI, Option.some.injEq, Prod.mk.injEq] at h <;> obtain ⟨rfl, rfl⟩ := h <;> simp [eqGuard, binOp, Op.intBits, bitI]
  case andNot => cases k <;> simp only [arI, Option.some.injEq, Prod.mk.injEq] at h <;> obtain ⟨rfl, rfl⟩ := h <;> simp [eqGuard, binOp, Op.intBits, bitI]
  all_goals (cases k <;> simp [arI] at h)

theorem binV_ok {bnd : Bool} {o : BinOp} {a b : Value} {vcs : List Prop} {v : Value} (h : binV bnd o a b = some (vcs, v)) (hv : AllP vcs) (T : TypeId) (x y : Operand) (w : World) :
    (do eqGuard o T x y a b; binOp o T a b).run P w = .ok v w := by
  cases a <;> cases b <;> simp only [binV] at h <;> first | cases h | skip
  case int.int k a k' b =>
    split at h
    · simp only [Option.some.injEq, Prod.mk.injEq] at h
      obtain ⟨rfl, rfl⟩ := h
      have : ¬ b < 0 := by have := hv.1; omega
      simp [eqGuard, binOp, Op.shift, this]
    · simp only [Option.some.injEq, Prod.mk.injEq] at h
      obtain ⟨rfl, rfl⟩ := h
      have : ¬ b < 0 := by have := hv.1; omega
      simp [eqGuard, binOp, Op.shift, this]
    · split at h
      · rename_i e; subst e
        split at h
        · rename_i c hc
          simp only [Option.some.injEq, Prod.mk.injEq] at h
          obtain ⟨rfl, rfl⟩ := h
          exact cmpI_ok hc T x y w
        · exact arI_ok h hv T x y w
      · cases h
  case string.string a b =>
    cases o <;> simp only [Option.some.injEq, Prod.mk.injEq] at h <;> first | (obtain ⟨rfl, rfl⟩ := h) | cases h
    case add => 
      have h1 : ¬ ((a.size + b.size : Nat) : Int) > IntKind.i64.max := by
        have := hv.1
        have e : IntKind.i64.max = 9223372036854775807 := rfl
        rw [e]; omega
      have h2 := hv.1
      simp only [Int.natCast_add] at h1
      simp [eqGuard, binOp, Op.stringOp]
      omega
    all_goals simp [eqGuard, binOp, Op.stringOp]

def unV : UnOp → Value → Option Value
  | .not, .bool b => some (.bool (!b))
  | .neg, .int k n => some (.int k (k.wrap (0 - n)))
  | _, _ => none
theorem unV_ok {o : UnOp} {a v : Value} (h : unV o a = some v) (w : World) : (Op.unary o a).run P w = .ok v w := by
  cases o <;> cases a <;> simp only [unV, Option.some.injEq] at h <;> first | (subst h; simp [Op.unary, Op.intArith]; done) | cases h

/-! ### What is looked up -/

def tSize (P : Program) (T : TypeId) : Option Nat := (P.info? T).map (·.size)
def tElem (P : Program) (T : TypeId) : Option TypeId := match P.underlying T with
  | some (.slice e) => some e
  | _ => none
def tField (P : Program) (T : TypeId) (i : Nat) : Option (Nat × TypeId) := match P.underlying T with
  | some (.struct fs) => (match fs[i]? with | some f => some (f.offset, f.type) | none => none)
  | _ => none

def liveB (fs : Nat → Option Fact) : Option (Nat × Nat) → Bool
  | none => true
  | some (X, V) => match fs X with
    | some (.own V' _) => Nat.beq V V'
    | _ => false

theorem liveB_ok {X V : Nat} (h : liveB fs (some (X, V)) = true) : Live fs X V := by
  simp only [liveB] at h
  split at h
  · rename_i V' d e
    have := Nat.eq_of_beq_eq_true h
    subst this
    exact ⟨d, e⟩
  · cases h

def depS (φ : Nat → List Nat) (ψ : Nat → Prop) : Option (Nat × Nat) → Nat → Prop
  | none => ψ
  | some (X, _) => (· ∈ φ X)

/-- what a value reads as -/
def datOf (fs : Nat → Option Fact) : AV → Option (Dat × Option (Nat × Nat))
  | .v x => bif x.oneCell' then some (.v x, none) else none
  | .h id 0 => match fs id with
    | some (.shr dep d) => bif liveB fs dep then some (d, dep) else none
    | some (.own V d) => some (d.view, some (id, V))
    | some (.vl _ d) => some (d, none)
    | some (.part X V _ _ d) => bif liveB fs (some (X, V)) then some (d, some (X, V)) else none
    | _ => none
  | .h id (j + 1) => match fs id with
    | some (.mem dep _ ds) => bif liveB fs dep then (match ds[j]? with | some d => some (d, dep) | none => none) else none
    | _ => none
  | _ => none

def memCells (id : Nat) : Nat → List Dat → List AV
  | _, [] => []
  | j, .v x :: ds => .v x :: memCells id (j + 1) ds
  | j, _ :: ds => .h id (j + 1) :: memCells id (j + 1) ds

/-- the cells behind a pointer -/
def cellsAt (fs : Nat → Option Fact) (id : Nat) : Option (List AV) := match fs id with
  | some (.box _ cs) => some cs
  | some (.mem dep _ ds) => bif liveB fs dep then some (memCells id 0 ds) else none
  | _ => none

theorem RdVs.at {S : Nat → Prop} : ∀ {ds : List Dat} {vs : List Value} {j : Nat} {d : Dat}, RdVs S w ds vs → ds[j]? = some d → ∃ v, vs[j]? = some v ∧ RdV S w d v
  | [], _, _, _, _, h => by simp at h
  | d :: ds, vs, j, d', hr, h => by
    obtain ⟨u, us, rfl, h1, h2⟩ := hr
    cases j with
    | zero => simp only [List.getElem?_cons_zero, Option.some.injEq] at h; subst h; exact ⟨u, rfl, h1⟩
    | succ j =>
      obtain ⟨v, h3, h4⟩ := RdVs.at h2 (by simpa using h)
      exact ⟨v, by simpa using h3, h4⟩

theorem bv_at {id n j : Nat} (h : j < n) : (bv β id n)[j]? = some (β id (j + 1)) := by simp [bv, h]

theorem memCells_ok {S : Nat → Prop} (id : Nat) : ∀ (ds : List Dat) (j : Nat), RdVs S w ds ((List.range' j ds.length).map fun k => β id (k + 1)) → dom id →
    vals β (memCells id j ds) = (List.range' j ds.length).map (fun k => β id (k + 1)) ∧ AVs.wf dom (memCells id j ds) ∧ (memCells id j ds).all AV.one = true
  | [], j, _, _ => ⟨rfl, trivial, rfl⟩
  | d :: ds, j, h, hd => by
    obtain ⟨u, us, e, h1, h2⟩ := h
    simp only [List.length_cons, List.range'_succ, List.map_cons, List.cons.injEq] at e
    obtain ⟨rfl, rfl⟩ := e
    obtain ⟨g1, g2, g3⟩ := memCells_ok id ds (j + 1) h2 hd
    cases d with
    | v x =>
      have hx := h1.1
      simp only [memCells, vals, val, List.length_cons, List.range'_succ, List.map_cons, g1, ← hx, true_and]
      exact ⟨⟨trivial, g2⟩, by simp [AV.one, hx ▸ h1.2, g3]⟩
    | l sz enc xs =>
      simp only [memCells, vals, val, List.length_cons, List.range'_succ, List.map_cons, g1, true_and]
      exact ⟨⟨hd, g2⟩, by simp [AV.one, g3]⟩
    | any =>
      simp only [memCells, vals, val, List.length_cons, List.range'_succ, List.map_cons, g1, true_and]
      exact ⟨⟨hd, g2⟩, by simp [AV.one, g3]⟩
    | x X =>
      simp only [memCells, vals, val, List.length_cons, List.range'_succ, List.map_cons, g1, true_and]
      exact ⟨⟨hd, g2⟩, by simp [AV.one, g3]⟩
    | b DD =>
      simp only [memCells, vals, val, List.length_cons, List.range'_succ, List.map_cons, g1, true_and]
      exact ⟨⟨hd, g2⟩, by simp [AV.one, g3]⟩

section
variable {fsA : Nat → Option Fact}

theorem datOf_ok (R : Rel P fsA β φ dom ψ IN w0 w) (hsub : ∀ id f, fs id = some f → fsA id = some f) {av : AV} {d : Dat} {dep : Option (Nat × Nat)} (h : datOf fs av = some (d, dep)) :
    RdV (depS φ ψ dep) w d (val β av) ∧ (∀ X V, dep = some (X, V) → Live fsA X V ∧ dom X ∧ dom V) ∧ av.wf dom ∧ av.one = true := by
  have hlive : ∀ X V, liveB fs (some (X, V)) = true → Live fsA X V := fun X V hl => by
    obtain ⟨d, hd⟩ := liveB_ok hl
    exact ⟨d, hsub _ _ hd⟩
  have hV : ∀ X V, Live fsA X V → dom X ∧ dom V := fun X V ⟨d, hd⟩ => by
    obtain ⟨h1, h2, _⟩ := R.ok X _ hd
    exact ⟨h1, h2⟩
  cases av with
  | v x =>
    simp only [datOf] at h
    cases hx : x.oneCell' with
    | false => rw [hx] at h; cases h
    | true =>
      simp only [hx, cond_true, Option.some.injEq, Prod.mk.injEq] at h
      obtain ⟨rfl, rfl⟩ := h
      exact ⟨⟨rfl, hx⟩, fun _ _ e => by (cases e), trivial, hx⟩
  | h id j =>
    cases j with
    | zero =>
      simp only [datOf] at h
      split at h
      · rename_i dep' d' e
        cases hl : liveB fs dep' with
        | false => rw [hl] at h; cases h
        | true =>
          simp only [hl, cond_true, Option.some.injEq, Prod.mk.injEq] at h
          obtain ⟨rfl, rfl⟩ := h
          obtain ⟨h1, h2⟩ := R.ok id _ (hsub _ _ e)
          cases dep' with
          | none => exact ⟨h2, fun _ _ e => by (cases e), h1, rfl⟩
          | some XV =>
            obtain ⟨X, V⟩ := XV
            exact ⟨h2.2.2 (hlive X V hl), fun X' V' e => by (cases e; exact ⟨hlive X V hl, hV _ _ (hlive X V hl)⟩), h1, rfl⟩
      · rename_i V d' e
        simp only [Option.some.injEq, Prod.mk.injEq] at h
        obtain ⟨rfl, rfl⟩ := h
        obtain ⟨h1, h2, h3⟩ := R.ok id _ (hsub _ _ e)
        exact ⟨(OwV.rd _ _ _ h3).view, fun X' V' e' => by (cases e'; exact ⟨⟨_, hsub _ _ e⟩, h1, h2⟩), h1, rfl⟩
      · rename_i x d' e
        simp only [Option.some.injEq, Prod.mk.injEq] at h
        obtain ⟨rfl, rfl⟩ := h
        obtain ⟨h1, h2, h3⟩ := R.ok id _ (hsub _ _ e)
        exact ⟨by show RdV ψ w _ (β id 0); rw [h2]; exact h3, fun _ _ e => by (cases e), h1, rfl⟩
      · rename_i X V lo sz d' e
        cases hl : liveB fs (some (X, V)) with
        | false => rw [hl] at h; cases h
        | true =>
          simp only [hl, cond_true, Option.some.injEq, Prod.mk.injEq] at h
          obtain ⟨rfl, rfl⟩ := h
          obtain ⟨h1, h2⟩ := R.ok id _ (hsub _ _ e)
          exact ⟨(h2.2.2 (hlive X V hl)).1, fun X' V' e => by (cases e; exact ⟨hlive X V hl, hV _ _ (hlive X V hl)⟩), h1, rfl⟩
      · cases h
    | succ j =>
      simp only [datOf] at h
      split at h
      · rename_i dep' el ds e
        cases hl : liveB fs dep' with
        | false => rw [hl] at h; cases h
        | true =>
          simp only [hl, cond_true] at h
          split at h
          · rename_i d' hd'
            simp only [Option.some.injEq, Prod.mk.injEq] at h
            obtain ⟨rfl, rfl⟩ := h
            obtain ⟨h1, h2⟩ := R.ok id _ (hsub _ _ e)
            have hj : j < ds.length := (List.getElem?_eq_some_iff.1 hd').1
            have key : ∀ S, RdVs S w ds (bv β id ds.length) → RdV S w d' (β id (j + 1)) := by
              intro S hr
              obtain ⟨v, h3, h4⟩ := hr.at hd'
              rw [bv_at hj] at h3
              cases h3
              exact h4
            cases dep' with
            | none =>
              obtain ⟨b, o, g1, g2, g3, g4⟩ := h2
              exact ⟨key _ g4, fun _ _ e => by (cases e), h1, rfl⟩
            | some XV =>
              obtain ⟨X, V⟩ := XV
              obtain ⟨⟨b, o, g1, g2, g3, g4⟩, _⟩ := h2.2.2 (hlive X V hl)
              exact ⟨key _ g4, fun X' V' e => by (cases e; exact ⟨hlive X V hl, hV _ _ (hlive X V hl)⟩), h1, rfl⟩
          · cases h
      · cases h
  | p id off => cases h
  | ag cs => cases h
  | tu vs => cases h
  | cl f cap => cases h

theorem cellsAt_ok (R : Rel P fsA β φ dom ψ IN w0 w) (hsub : ∀ id f, fs id = some f → fsA id = some f) {id : Nat} {cs : List AV} (h : cellsAt fs id = some cs) :
    ∃ b o, β id 0 = .pointer (some ⟨b, o, none⟩) ∧ Has w b o (vals β cs) ∧ AVs.wf dom cs ∧ cs.all AV.one = true ∧ dom id := by
  unfold cellsAt at h
  split at h
  · rename_i T cs' e
    simp only [Option.some.injEq] at h
    subst h
    obtain ⟨h1, ⟨g0, g0'⟩, b, g1, g2, g3⟩ := R.ok id _ (hsub _ _ e)
    exact ⟨b, 0, g1, g2.has 0 _ (by simp), g0, g0', h1⟩
  · rename_i dep el ds e
    cases hl : liveB fs dep with
    | false => rw [hl] at h; cases h
    | true =>
      simp only [hl, cond_true, Option.some.injEq] at h
      subst h
      obtain ⟨h1, h2⟩ := R.ok id _ (hsub _ _ e)
      have hbv : bv β id ds.length = (List.range' 0 ds.length).map fun k => β id (k + 1) := by unfold bv; rw [List.range_eq_range']
      cases dep with
      | none =>
        obtain ⟨b, o, g1, g2, g3, g4⟩ := h2
        rw [hbv] at g3 g4
        obtain ⟨k1, k2, k3⟩ := memCells_ok id ds 0 g4 h1
        exact ⟨b, o, g1, by rw [k1]; exact g3, k2, k3, h1⟩
      | some XV =>
        obtain ⟨X, V⟩ := XV
        obtain ⟨d, hd⟩ := liveB_ok hl
        obtain ⟨⟨b, o, g1, g2, g3, g4⟩, _⟩ := h2.2.2 ⟨d, hsub _ _ hd⟩
        rw [hbv] at g3 g4
        obtain ⟨k1, k2, k3⟩ := memCells_ok id ds 0 g4 h1
        exact ⟨b, o, g1, by rw [k1]; exact g3, k2, k3, h1⟩
  · cases h

/-! ### Loads, fields -/

/-- a value of type T at the head of cells -/
def takeT (P : Program) (T : TypeId) (cs : List AV) : Option AV :=
  match aggOf P T, tSize P T with
  | some true, some n => bif Nat.beq (cs.take n).length n then some (.ag (cs.take n)) else none
  | some false, some _ => (match cs with | a :: _ => some a | [] => none)
  | _, _ => none

theorem Has.sub' {b o : Nat} {cs : List Value} (h : Has w b o cs) (j n : Nat) : Has w b (o + j) ((cs.drop j).take n) := by
  intro i v hv
  rw [List.getElem?_take] at hv
  split at hv
  · rw [List.getElem?_drop] at hv
    have := h (j + i) v hv
    rwa [← Nat.add_assoc] at this
  · cases hv

def eLoad (P : Program) (fs : Nat → Option Fact) (T : TypeId) : AV → Option OpR
  | .p id off => match cellsAt fs id with
    | some cs => (match takeT P T (cs.drop off) with | some av => some ⟨[], av, []⟩ | none => none)
    | none => none
  | _ => none

theorem eLoad_ok (R : Rel P fsA β φ dom ψ IN w0 w) (hsub : ∀ id f, fs id = some f → fsA id = some f) {T : TypeId} {a : AV} {r : OpR} (h : eLoad P fs T a = some r) :
    (Instr.loadAt T (val β a)).run P w = .ok (val β r.av) w ∧ r.av.wf dom ∧ r.sets = [] ∧ r.vcs = [] := by
  cases a <;> simp only [eLoad] at h <;> first | cases h | skip
  rename_i id off
  split at h
  · rename_i cs hcs
    split at h
    · rename_i av hav
      cases h
      obtain ⟨b, o, g1, g2, g3, g4, g5⟩ := cellsAt_ok R hsub hcs
      have hp : val β (.p id off) = .pointer (some ⟨b, o + off, none⟩) := by simp [val, g1, padd]
      unfold takeT at hav
      split at hav
      · rename_i n h1 h2
        cases hb : Nat.beq ((cs.drop off).take n).length n with
        | false => rw [hb] at hav; cases hav
        | true =>
          rw [hb] at hav
          simp only [cond_true, Option.some.injEq] at hav
          subst hav
          have hl := Nat.eq_of_beq_eq_true hb
          refine ⟨?_, AVs.wf_take _ (AVs.wf_drop _ g3), rfl, rfl⟩
          have hh := g2.sub' off n
          rw [← vals_drop, ← vals_take] at hh
          rw [hp]
          simp only [Instr.loadAt, Instr.sureAddr, Sem.run_bind, Sem.run_pure, Result.andThen_ok, val]
          exact run_loadA h1 (by rw [vals_len, hl]; exact h2) hh
      · rename_i h1 _
        split at hav
        · rename_i a' as hcs'
          simp only [Option.some.injEq] at hav
          subst hav
          have hwf : a'.wf dom := by
            have := AVs.wf_drop off g3
            rw [hcs'] at this
            exact this.1
          refine ⟨?_, hwf, rfl, rfl⟩
          rw [hp]
          simp only [Instr.loadAt, Instr.sureAddr, Sem.run_bind, Sem.run_pure, Result.andThen_ok]
          refine run_load1 h1 (g2 off _ ?_)
          have : (vals β (cs.drop off))[0]? = some (val β a') := by rw [hcs']; rfl
          rw [vals_drop, List.getElem?_drop] at this
          simpa using this
        · cases hav
      · cases hav
    · cases h
  · cases h

end

end
end Go.Proofs.YtbhjkcicpobmhaaDoor
