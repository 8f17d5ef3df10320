/-
  A small calculus for walking a function's code: what is known of the frame's slots (a list), one theorem for a region in whatever order its operations come up, rules for the rest of the code.
-/
import Derived.WalkKit
import Derived.Orders
namespace Go.Proofs.Ytjefeigdapcleaa
open Go.RowKit

abbrev Sl := List (Nat × Value)

def getO : Sl → Nat → Option Value
  | [], _ => none
  | (k, v) :: r, t => bif Nat.beq k t then some v else getO r t

/-- What is known of a frame: its size, that nothing is deferred, and the slots of the list (the first entry of a slot counts). -/
structure Fr (a : Act) (N : Nat) (L : Sl) : Prop where
  size : a.tmps.size = N
  defers : a.defers = []
  has : ∀ t v, getO L t = some v → a.tmps[t]? = some v

def evO (L : Sl) : Operand → Option Value
  | .tmp t => getO L t
  | .const v => some v
  | .global g => some (.pointer (some ⟨g, 0, none⟩))
  | .func f => some (.func (.func f) #[] #[])

def evL (L : Sl) (x : Operand) : Value := (evO L x).getD undef

theorem Fr.ev {a : Act} {N : Nat} {L : Sl} (h : Fr a N L) {x : Operand} {v : Value} (hx : evO L x = some v) : a.eval x = v := by
  cases x with
  | tmp t =>
    have := h.has t v hx
    simp [Act.eval, this]
  | const u => simp only [evO, Option.some.injEq] at hx; exact hx
  | global g => simp only [evO, Option.some.injEq] at hx; exact hx
  | func f => simp only [evO, Option.some.injEq] at hx; exact hx

def push (d : Option Tmp) (v : Value) (L : Sl) : Sl :=
  match d with
  | some d => (d, v) :: L
  | none => L

def dstOk (N : Nat) : Option Tmp → Bool
  | some d => Nat.blt d N
  | none => true

theorem Fr.put {a : Act} {N : Nat} {L : Sl} (h : Fr a N L) {d : Option Tmp} (hd : dstOk N d = true) (v : Value) : Fr (a.put d v) N (push d v L) := by
  cases d with
  | none => exact h
  | some d =>
    have hlt : d < N := by simpa [dstOk] using hd
    refine ⟨by simp [Act.put, h.size], by simp [Act.put, h.defers], ?_⟩
    intro t u hu
    simp only [push, getO] at hu
    by_cases e : Nat.beq d t = true
    · have e' : d = t := by simpa using e
      subst e'
      simp only [e, cond_true, Option.some.injEq] at hu
      subst hu
      have : d < a.tmps.size := by rw [h.size]; exact hlt
      simp [Act.put, this]
    · have e' : d ≠ t := by simpa using e
      have e2 : Nat.beq d t = false := Bool.not_eq_true _ ▸ e
      simp only [e2, cond_false] at hu
      have := h.has t u hu
      simp [Act.put, Array.getElem?_setIfInBounds_ne e', this]

/-- L' is part of what L says. -/
def Sub (L' L : Sl) : Prop := ∀ t v, getO L' t = some v → getO L t = some v

theorem getO_map {L' : Sl} {f : Nat → Option Value} (h : L'.map (fun p => f p.1) = L'.map (fun p => some p.2)) {t : Nat} {v : Value} (hv : getO L' t = some v) : f t = some v := by
  induction L' with
  | nil => simp [getO] at hv
  | cons p r ih =>
    obtain ⟨k, u⟩ := p
    simp only [List.map_cons, List.cons.injEq] at h
    simp only [getO] at hv
    by_cases e : Nat.beq k t = true
    · have e' : k = t := by simpa using e
      subst e'
      simp only [e, cond_true, Option.some.injEq] at hv
      subst hv
      exact h.1
    · have e2 : Nat.beq k t = false := Bool.not_eq_true _ ▸ e
      simp only [e2, cond_false] at hv
      exact ih h.2 hv

theorem Sub.of_map {L' L : Sl} (h : L'.map (fun p => getO L p.1) = L'.map (fun p => some p.2)) : Sub L' L := fun _ _ hv => getO_map h hv

theorem Fr.sub {a : Act} {N : Nat} {L L' : Sl} (h : Fr a N L) (hs : Sub L' L) : Fr a N L' := ⟨h.size, h.defers, fun t v hv => h.has t v (hs t v hv)⟩

/-! ### One operation -/

/-- What one operation comes to. -/
def Out (P : Program) (R : Value → World → Prop) : Result Next → Prop
  | .ok (.value v) w => R v w
  | .ok .skip w => R undef w
  | .ok (.enter f args) w => Calls P f args w fun e w' => ∃ v, e = .returned v ∧ R v w'
  | _ => False

theorem Out.mono {P : Program} {R R' : Value → World → Prop} (h : ∀ v w, R v w → R' v w) {r : Result Next} (hr : Out P R r) : Out P R' r := by
  cases r with
  | halt x w => exact hr
  | ok n w => cases n <;> first | exact h _ _ hr | exact Calls.mono hr (fun _ _ ⟨v, e, r⟩ => ⟨v, e, h _ _ r⟩) | exact hr

theorem Out.upon {P : Program} {o : Oper} {a : Act} {next : Act → World → Prop} {Q : Exit → Act → World → Prop} {R : Value → World → Prop} {r : Result Next}
    (h : Out P R r) (hn : ∀ v w, R v w → next (a.put o.dst v) w) : o.upon P a next Q r := by
  cases r with
  | halt x w => exact h.elim
  | ok n w =>
    cases n <;> first | exact hn _ _ h | exact h.elim | skip
    exact Calls.mono h fun e w' ⟨v, he, hr⟩ => by subst he; exact hn _ _ hr

/-! ### A region -/

inductive Kind where
  | wl | skip | det | rel

/-- One operation of a region: how it is shown, and its value (of the values of the operations 'deps'). -/
structure Item where
  kind : Kind
  deps : List Nat := []
  f : List Value → Value
  gd : List Nat := []
  G : List Value → Value → Nat → Nat → World → Prop := fun _ _ _ _ _ => True
  st : ∀ (l : List Value) (v : Value) (lo hi : Nat) (w w' : World), hi ≤ w.heap.size → Below w.heap.size w w' → G l v lo hi w → G l v lo hi w'

/-- what is known of the value, by the values of the operations 'gd' -/
def Item.g (it : Item) (vs : Nat → Value) : Value → Nat → Nat → World → Prop := it.G (it.gd.map vs)

def Item.x (it : Item) (vs : Nat → Value) : Value :=
  match it.kind with
  | .rel => (it.deps.map vs).headD undef
  | _ => it.f (it.deps.map vs)

/-- an operation that touches no memory -/
def W (v : Value) : Item := { kind := .wl, f := fun _ => v, st := fun _ _ _ _ _ _ _ _ h => h }
/-- one that its guard does not want -/
def S : Item := { kind := .skip, f := fun _ => undef, st := fun _ _ _ _ _ _ _ _ h => h }
/-- one that is shown by hand, of known value -/
def D (v : Value) : Item := { kind := .det, f := fun _ => v, st := fun _ _ _ _ _ _ _ _ h => h }
/-- number i, of whose value G is known -/
def R (i : Nat) (G : Value → Nat → Nat → World → Prop) (st : ∀ (v : Value) (lo hi : Nat) (w w' : World), hi ≤ w.heap.size → Below w.heap.size w w' → G v lo hi w → G v lo hi w') : Item := { kind := .rel, deps := [i], f := fun l => l.headD undef, G := fun _ => G, st := fun _ => st }
/-- number i, of whose value G is known, by the values of 'gd' -/
def RG (i : Nat) (gd : List Nat) (G : List Value → Value → Nat → Nat → World → Prop) (st : ∀ (l : List Value) (v : Value) (lo hi : Nat) (w w' : World), hi ≤ w.heap.size → Below w.heap.size w w' → G l v lo hi w → G l v lo hi w') : Item := { kind := .rel, deps := [i], f := fun l => l.headD undef, gd, G, st }
/-- one that touches no memory, of the values of 'deps' -/
def WR (deps : List Nat) (f : List Value → Value) : Item := { kind := .wl, deps, f, st := fun _ _ _ _ _ _ _ _ h => h }
def DR (deps : List Nat) (f : List Value → Value) : Item := { kind := .det, deps, f, st := fun _ _ _ _ _ _ _ _ h => h }

def wantO (l : List Oper) (E : Sl) (o : Oper) : Option Bool :=
  match o.guard with
  | none => some true
  | some (j, want) =>
    match (l[j]?).bind (·.dst) with
    | none => none
    | some d =>
      match getO E d with
      | none => none
      | some (.bool b) => some (some b == some want)
      | some _ => some (none == some want)

def msk1 (acc : List Nat) (o : Oper) : Nat := o.after.toList.foldl (fun s e => bif Region.binds .any e then s ||| 2 ^ e.on ||| acc.getD e.on 0 else s) 0

def msks : List Oper → List Nat → List Nat
  | [], acc => acc
  | o :: r, acc => msks r (acc ++ [msk1 acc o])

def opTmps (o : Oper) : List Tmp := o.op.operands.toList.filterMap fun | .tmp t => some t | _ => none

/-- the guards go as the items say -/
def guardsOk (l : List Oper) (vs : Nat → Value) : List Oper → List Item → Sl → Bool
  | o :: os, it :: its, E => (match it.kind with | .skip => (match wantO l E o with | some false => true | _ => false) | _ => (match wantO l E o with | some true => true | _ => false) && (opTmps o).all fun t => (getO E t).isSome) && guardsOk l vs os its (push o.dst (it.x vs) E)
  | _, _, _ => true

def wlRes (P : Program) (vs : Nat → Value) (w : World) : List Oper → List Item → Sl → List (Result Next)
  | o :: os, it :: its, E =>
    match it.kind with
    | .wl => (execOp (evL E) o).run P w :: wlRes P vs w os its (push o.dst (it.x vs) E)
    | .skip => .ok (.value undef) w :: wlRes P vs w os its (push o.dst (it.x vs) E)
    | _ => wlRes P vs w os its (push o.dst (it.x vs) E)
  | _, _, _ => []

def wlExp (vs : Nat → Value) (w : World) : List Oper → List Item → List (Result Next)
  | _ :: os, it :: its =>
    match it.kind with
    | .wl | .skip => .ok (.value (it.x vs)) w :: wlExp vs w os its
    | _ => wlExp vs w os its
  | _, _ => []

/-- the knowledge about the operations of unknown value that came before number i -/
def Facts (w0 : World) (ms : List Nat) (items : List Item) (i : Nat) (vs : Nat → Value) (lo hi : Nat → Nat) (w : World) : Prop :=
  ∀ j it, items[j]? = some it → (match it.kind with | .rel => True | _ => False) → (ms.getD i 0).testBit j = true →
    it.g vs (vs j) (lo j) (hi j) w ∧ w0.heap.size ≤ lo j ∧ lo j ≤ hi j ∧ hi j ≤ w.heap.size

/-- what is to be shown by hand -/
def Prem (P : Program) (w0 : World) (ms : List Nat) (items : List Item) : List Oper → List Item → Nat → ((Nat → Value) → Sl) → Prop
  | o :: os, it :: its, i, E =>
    match it.kind with
    | .wl | .skip => Prem P w0 ms items os its (i + 1) (fun vs => push o.dst (it.x vs) (E vs))
    | .det => (∀ vs lo hi w, Below w0.heap.size w0 w → Facts w0 ms items i vs lo hi w →
        Out P (fun v w' => v = it.x vs ∧ Below w.heap.size w w') ((execOp (evL (E vs)) o).run P w)) ∧
        Prem P w0 ms items os its (i + 1) (fun vs => push o.dst (it.x vs) (E vs))
    | .rel => (∀ vs lo hi w, Below w0.heap.size w0 w → Facts w0 ms items i vs lo hi w →
        Out P (fun v w' => Below w.heap.size w w' ∧ it.g vs v w.heap.size w'.heap.size w') ((execOp (evL (E vs)) o).run P w)) ∧
        Prem P w0 ms items os its (i + 1) (fun vs => push o.dst (it.x vs) (E vs))
  | _, _, _, _ => True

/-- front operation number i: its edges point back, its slot is in the frame, whoever writes a slot that it looks at is ordered with it, whoever writes its slot is itself -/
def chkOp (l : List Oper) (ms : List Nat) (m N : Nat) (i : Nat) (o : Oper) : Bool :=
  o.after.toList.all (fun e => !Region.binds .any e || Nat.blt e.on i) && dstOk N o.dst && (match o.op with | .select _ _ => false | _ => true) &&
  (match o.guard with | none => true | some (j, _) => Nat.blt j i && (ms.getD i 0).testBit j) &&
  ((l.take m).zipIdx.all fun (ok, k) =>
    Nat.beq k i ||
    match ok.dst with
    | none => true
    | some d => (match o.dst with | some d' => !Nat.beq d d' | none => true) &&
        (!(opTmps o).any (fun t => Nat.beq t d) || (bif Nat.blt k i then (ms.getD i 0).testBit k else (ms.getD k 0).testBit i)))

def chkDeps (ms : List Nat) (i : Nat) (it : Item) : Bool :=
  match it.kind with
  | .rel => (match it.deps with | [j] => Nat.beq j i | _ => false) && it.gd.all fun j => (ms.getD i 0).testBit j
  | _ => it.deps.all fun j => (ms.getD i 0).testBit j

def chkTail (l : List Oper) (ms : List Nat) (m : Nat) : Bool :=
  (l.zipIdx.drop m).all fun (o, i) => o.after.toList.all (fun e => !Region.binds .any e || Nat.blt e.on i) && Nat.beq (Nat.land (ms.getD i 0) (2 ^ i - 1)) (2 ^ i - 1)

def chk (l : List Oper) (items : List Item) (m N : Nat) (draw : Bool) : Bool :=
  let ms := msks l []
  Nat.beq items.length m && Nat.ble m l.length && ((l.take m).zipIdx.all fun (o, i) => chkOp l ms m N i o) && (items.zipIdx.all fun (it, i) => chkDeps ms i it) &&
  (!draw || chkTail l ms m)

/-! The proof. -/

theorem msk1_bit (acc : List Nat) (j : Nat) : ∀ (es : List Edge) (s : Nat),
    (es.foldl (fun s e => bif Region.binds .any e then s ||| 2 ^ e.on ||| acc.getD e.on 0 else s) s).testBit j = true →
    s.testBit j = true ∨ ∃ e ∈ es, Region.binds .any e = true ∧ (e.on = j ∨ (acc.getD e.on 0).testBit j = true)
  | [], s, h => .inl h
  | e :: es, s, h => by
    simp only [List.foldl_cons] at h
    rcases msk1_bit acc j es _ h with h | ⟨e', he', hb, h⟩
    · cases hb : Region.binds .any e with
      | false => simp only [hb, cond_false] at h; exact .inl h
      | true =>
        simp only [hb, cond_true, Nat.testBit_or, Bool.or_eq_true, Nat.testBit_two_pow, decide_eq_true_eq] at h
        rcases h with (h | h) | h
        · exact .inl h
        · exact .inr ⟨e, List.mem_cons_self, hb, .inl h⟩
        · exact .inr ⟨e, List.mem_cons_self, hb, .inr h⟩
    · exact .inr ⟨e', List.mem_cons_of_mem _ he', hb, h⟩

theorem msks_spec : ∀ (l : List Oper) (acc : List Nat),
    (msks l acc).take acc.length = acc ∧ ∀ i o, l[i]? = some o → (msks l acc).getD (acc.length + i) 0 = msk1 ((msks l acc).take (acc.length + i)) o
  | [], acc => ⟨by simp [msks], fun i o h => by simp at h⟩
  | o :: r, acc => by
    obtain ⟨h1, h2⟩ := msks_spec r (acc ++ [msk1 acc o])
    simp only [List.length_append, List.length_cons, List.length_nil, Nat.zero_add] at h1 h2
    have h0 : (msks (o :: r) acc) = msks r (acc ++ [msk1 acc o]) := rfl
    have ht : (msks r (acc ++ [msk1 acc o])).take acc.length = acc := by
      have := congrArg (List.take acc.length) h1
      rw [List.take_take] at this
      simpa using this
    refine ⟨by rw [h0]; exact ht, fun i o' ho => ?_⟩
    rw [h0]
    cases i with
    | zero =>
      simp only [List.getElem?_cons_zero, Option.some.injEq] at ho
      subst ho
      rw [Nat.add_zero, ht]
      have := congrArg (fun x : List Nat => x[acc.length]?) h1
      simp only [List.getElem?_take, Nat.lt_succ_self, if_true, List.getElem?_append_right (Nat.le_refl _), Nat.sub_self, List.getElem?_cons_zero] at this
      simp only [List.getD, this, Option.getD_some]
    | succ i =>
      have := h2 i o' (by simpa using ho)
      rwa [show acc.length + 1 + i = acc.length + (i + 1) from by omega] at this

theorem mask_closed {l : List Oper} {SS : Nat → Prop} {m : Nat} (back : ∀ i o, l[i]? = some o → i < m → ∀ e ∈ o.after, Region.binds .any e = true → e.on < i)
    (down : ∀ i o, l[i]? = some o → SS i → ∀ e ∈ o.after, Region.binds .any e = true → SS e.on) :
    ∀ (i : Nat) (o : Oper), i < m → l[i]? = some o → (∀ e ∈ o.after, Region.binds .any e = true → SS e.on) → ∀ j, ((msks l []).getD i 0).testBit j = true → SS j := by
  intro i
  induction i using Nat.strongRecOn with
  | _ i ih =>
    intro o hm ho hpre j hj
    obtain ⟨_, h2⟩ := msks_spec l []
    have := h2 i o ho
    simp only [List.length_nil, Nat.zero_add] at this
    rw [this] at hj
    rcases msk1_bit _ j _ 0 hj with h | ⟨e, he, hb, h⟩
    · simp at h
    · have hmem : e ∈ o.after := by simpa using he
      have hlt := back i o ho hm e hmem hb
      have hS := hpre e hmem hb
      rcases h with h | h
      · exact h ▸ hS
      · have hg : ((msks l []).take i).getD e.on 0 = (msks l []).getD e.on 0 := by
          simp [List.getD, hlt]
        rw [hg] at h
        have hl : e.on < l.length := Nat.lt_trans hlt (List.getElem?_eq_some_iff.1 ho).1
        exact ih e.on hlt _ (Nat.lt_trans hlt hm) (List.getElem?_eq_getElem hl) (down e.on _ (List.getElem?_eq_getElem hl) hS) j h

/-- what is known of the slots behind some operations -/
def envOf (vs : Nat → Value) : List Oper → List Item → Sl → Sl
  | o :: os, it :: its, E => envOf vs os its (push o.dst (it.x vs) E)
  | _, _, E => E

theorem envOf_snoc (vs : Nat → Value) : ∀ (os : List Oper) (its : List Item) (E : Sl) (i : Nat) (o : Oper) (it : Item), os[i]? = some o → its[i]? = some it →
    envOf vs (os.take (i + 1)) (its.take (i + 1)) E = push o.dst (it.x vs) (envOf vs (os.take i) (its.take i) E)
  | [], _, _, i, _, _, h, _ => by simp at h
  | _ :: _, [], _, i, _, _, _, h => by simp at h
  | o :: os, it :: its, E, 0, o', it', h, h' => by
    simp only [List.getElem?_cons_zero, Option.some.injEq] at h h'
    subst h; subst h'
    simp [envOf]
  | o :: os, it :: its, E, i + 1, o', it', h, h' => by
    simp only [List.take_succ_cons, envOf]
    exact envOf_snoc vs os its _ i o' it' (by simpa using h) (by simpa using h')

theorem getO_push (d : Option Tmp) (v : Value) (E : Sl) (t : Nat) : getO (push d v E) t = if d = some t then some v else getO E t := by
  cases d with
  | none => simp [push]
  | some d =>
    simp only [push, getO, Option.some.injEq]
    by_cases e : d = t
    · subst e; simp
    · have e2 : Nat.beq d t = false := Bool.eq_false_iff.2 fun h => e (Nat.eq_of_beq_eq_true h)
      rw [if_neg e, e2]; rfl

/-- where a slot's entry comes from -/
theorem env_cases (vs : Nat → Value) (os : List Oper) (its : List Item) (E : Sl) (t : Nat) (v : Value) (hlen : its.length ≤ os.length) : ∀ i, i ≤ its.length → getO (envOf vs (os.take i) (its.take i) E) t = some v →
    (∃ k o it, k < i ∧ os[k]? = some o ∧ its[k]? = some it ∧ o.dst = some t ∧ v = it.x vs) ∨ (getO E t = some v ∧ ∀ k o, k < i → os[k]? = some o → o.dst ≠ some t)
  | 0, _, h => .inr ⟨by simpa [envOf] using h, fun k o hk => absurd hk (Nat.not_lt_zero _)⟩
  | i + 1, hi, h => by
    have hi' : i < its.length := hi
    have ho : os[i]? = some (os[i]'(by omega)) := List.getElem?_eq_getElem _
    have hit : its[i]? = some its[i] := List.getElem?_eq_getElem _
    rw [envOf_snoc vs os its E i _ _ ho hit, getO_push] at h
    by_cases e : (os[i]'(by omega)).dst = some t
    · rw [if_pos e] at h
      exact .inl ⟨i, _, _, Nat.lt_succ_self _, ho, hit, e, (Option.some.inj h).symm⟩
    · rw [if_neg e] at h
      rcases env_cases vs os its E t v hlen i (by omega) h with ⟨k, o, it, hk, r⟩ | ⟨h1, h2⟩
      · exact .inl ⟨k, o, it, by omega, r⟩
      · refine .inr ⟨h1, fun k o hk hok => ?_⟩
        by_cases hki : k = i
        · subst hki; rw [ho] at hok; cases hok; exact e
        · exact h2 k o (by omega) hok

theorem guardsOk_at (l : List Oper) (vs : Nat → Value) : ∀ (os : List Oper) (its : List Item) (E : Sl), guardsOk l vs os its E = true →
    ∀ (i : Nat) (o : Oper) (it : Item), os[i]? = some o → its[i]? = some it →
      (match it.kind with | .skip => (match wantO l (envOf vs (os.take i) (its.take i) E) o with | some false => true | _ => false) | _ => (match wantO l (envOf vs (os.take i) (its.take i) E) o with | some true => true | _ => false) && (opTmps o).all fun t => (getO (envOf vs (os.take i) (its.take i) E) t).isSome) = true
  | [], _, _, _, i, _, _, h, _ => by simp at h
  | _ :: _, [], _, _, i, _, _, _, h => by simp at h
  | o :: os, it :: its, E, hg, 0, o', it', h, h' => by
    simp only [List.getElem?_cons_zero, Option.some.injEq] at h h'
    subst h; subst h'
    simp only [guardsOk, Bool.and_eq_true] at hg
    simpa [envOf] using hg.1
  | o :: os, it :: its, E, hg, i + 1, o', it', h, h' => by
    simp only [guardsOk, Bool.and_eq_true] at hg
    simp only [List.take_succ_cons, envOf]
    exact guardsOk_at l vs os its _ hg.2 i o' it' (by simpa using h) (by simpa using h')

theorem wlRes_at (P : Program) (vs : Nat → Value) (w : World) : ∀ (os : List Oper) (its : List Item) (E : Sl), wlRes P vs w os its E = wlExp vs w os its →
    ∀ (i : Nat) (o : Oper) (it : Item), os[i]? = some o → its[i]? = some it →
      (match it.kind with
       | .wl => (execOp (evL (envOf vs (os.take i) (its.take i) E)) o).run P w = .ok (.value (it.x vs)) w
       | .skip => it.x vs = undef
       | _ => True)
  | [], _, _, _, i, _, _, h, _ => by simp at h
  | _ :: _, [], _, _, i, _, _, _, h => by simp at h
  | o :: os, it :: its, E, hg, i, o', it', h, h' => by
    have hrest : wlRes P vs w os its (push o.dst (it.x vs) E) = wlExp vs w os its := by
      simp only [wlRes, wlExp] at hg
      cases hk : it.kind <;> simp only [hk, List.cons.injEq] at hg <;> first | exact hg.2 | exact hg
    cases i with
    | zero =>
      simp only [List.getElem?_cons_zero, Option.some.injEq] at h h'
      subst h; subst h'
      simp only [wlRes, wlExp] at hg
      simp only [List.take_zero, envOf]
      cases hk : it.kind <;> simp only [hk, List.cons.injEq] at hg ⊢
      · exact hg.1
      · have := hg.1; simp only [Result.ok.injEq, Next.value.injEq] at this; exact this.1.symm
    | succ i =>
      simp only [List.take_succ_cons, envOf]
      exact wlRes_at P vs w os its _ hrest i o' it' (by simpa using h) (by simpa using h')

theorem prem_at (P : Program) (w0 : World) (ms : List Nat) (items : List Item) : ∀ (os : List Oper) (its : List Item) (n : Nat) (E : (Nat → Value) → Sl), Prem P w0 ms items os its n E →
    ∀ (i : Nat) (o : Oper) (it : Item), os[i]? = some o → its[i]? = some it →
      (match it.kind with
       | .det => ∀ vs lo hi w, Below w0.heap.size w0 w → Facts w0 ms items (n + i) vs lo hi w →
          Out P (fun v w' => v = it.x vs ∧ Below w.heap.size w w') ((execOp (evL (envOf vs (os.take i) (its.take i) (E vs))) o).run P w)
       | .rel => ∀ vs lo hi w, Below w0.heap.size w0 w → Facts w0 ms items (n + i) vs lo hi w →
          Out P (fun v w' => Below w.heap.size w w' ∧ it.g vs v w.heap.size w'.heap.size w') ((execOp (evL (envOf vs (os.take i) (its.take i) (E vs))) o).run P w)
       | _ => True)
  | [], _, _, _, _, i, _, _, h, _ => by simp at h
  | _ :: _, [], _, _, _, i, _, _, _, h => by simp at h
  | o :: os, it :: its, n, E, hg, i, o', it', h, h' => by
    have hrest : Prem P w0 ms items os its (n + 1) (fun vs => push o.dst (it.x vs) (E vs)) := by
      simp only [Prem] at hg
      cases hk : it.kind <;> simp only [hk] at hg <;> first | exact hg.2 | exact hg
    cases i with
    | zero =>
      simp only [List.getElem?_cons_zero, Option.some.injEq] at h h'
      subst h; subst h'
      simp only [Prem] at hg
      simp only [List.take_zero, envOf, Nat.add_zero]
      cases hk : it.kind <;> simp only [hk] at hg ⊢ <;> exact hg.1
    | succ i =>
      have := prem_at P w0 ms items os its (n + 1) _ hrest i o' it' (by simpa using h) (by simpa using h')
      simp only [List.take_succ_cons, envOf]
      rw [show n + (i + 1) = n + 1 + i from by omega]
      exact this

section
variable {P : Program} {l : List Oper} {items : List Item} {m N : Nat} {ws w0 : World} {a0 : Act} {L : Sl}

/-- what holds when the operations of S have come up -/
structure Inv (l : List Oper) (items : List Item) (m N : Nat) (ws w0 : World) (a0 : Act) (SS : Nat → Prop) (a : Act) (w : World) (vs : Nat → Value) (lo hi : Nat → Nat) : Prop where
  size : a.tmps.size = N
  defers : a.defers = []
  ext : Below w0.heap.size w0 w
  old : ∀ t, (∀ i o, i < m → SS i → l[i]? = some o → o.dst ≠ some t) → a.tmps[t]? = a0.tmps[t]?
  new : ∀ i o it t, i < m → SS i → l[i]? = some o → items[i]? = some it → o.dst = some t → a.tmps[t]? = some (it.x vs)
  rel : ∀ i it, SS i → items[i]? = some it → (match it.kind with | .rel => True | _ => False) → it.g vs (vs i) (lo i) (hi i) w ∧ w0.heap.size ≤ lo i ∧ lo i ≤ hi i ∧ hi i ≤ w.heap.size
  dis : ∀ i j iti itj, SS i → SS j → items[i]? = some iti → items[j]? = some itj → (match iti.kind with | .rel => True | _ => False) → (match itj.kind with | .rel => True | _ => False) → i ≠ j → hi i ≤ lo j ∨ hi j ≤ lo i
  down : ∀ i o, l[i]? = some o → SS i → ∀ e ∈ o.after, Region.binds .any e = true → SS e.on
  quiet : (∀ (i : Nat) (it : Item), items[i]? = some it → (match it.kind with | .wl | .skip => True | _ => False)) → w = ws

/-- the knowledge about values of unknown shape outlasts new blocks -/
def Stable (items : List Item) : Prop := ∀ (i : Nat) (it : Item), items[i]? = some it → ∀ (l : List Value) (v : Value) (lo hi : Nat) (w w' : World), hi ≤ w.heap.size → Below w.heap.size w w' → it.G l v lo hi w → it.G l v lo hi w'

theorem stable_all (items : List Item) : Stable items := fun _ it _ => it.st

theorem chkOp_spec {ms : List Nat} {i : Nat} {o : Oper} (h : chkOp l ms m N i o = true) :
    (∀ e ∈ o.after, Region.binds .any e = true → e.on < i) ∧ dstOk N o.dst = true ∧ (∀ cs b, o.op ≠ .select cs b) ∧ (∀ j want, o.guard = some (j, want) → j < i ∧ (ms.getD i 0).testBit j = true) ∧
    (∀ k ok d, k < m → l[k]? = some ok → k ≠ i → ok.dst = some d → o.dst ≠ some d ∧ (d ∈ opTmps o → if k < i then (ms.getD i 0).testBit k = true else (ms.getD k 0).testBit i = true)) := by
  simp only [chkOp, Bool.and_eq_true] at h
  obtain ⟨⟨⟨⟨h1, h2⟩, h3⟩, h4⟩, h5⟩ := h
  refine ⟨fun e he hb => ?_, h2, fun cs b hc => ?_, fun j want hg => ?_, fun k ok d hk hok hne hd => ?_⟩
  · have := List.all_eq_true.1 h1 e (by simpa using he)
    simp only [hb, Bool.not_true, Bool.false_or] at this
    simpa using this
  · simp [hc] at h3
  · simpa [hg] using h4
  · have hmem : (ok, k) ∈ (l.take m).zipIdx := by
      rw [List.mem_zipIdx_iff_getElem?]
      simp [hk, hok]
    have := List.all_eq_true.1 h5 _ hmem
    have hkb : Nat.beq k i = false := Bool.eq_false_iff.2 fun h => hne (Nat.eq_of_beq_eq_true h)
    simp only [hkb, Bool.false_or, hd, Bool.and_eq_true, Bool.or_eq_true, Bool.not_eq_true'] at this
    refine ⟨fun hdo => ?_, fun hmt => ?_⟩
    · rw [hdo] at this
      have h0 := this.1
      simp at h0
    · rcases this.2 with h0 | h0
      · have : (opTmps o).any (fun t => Nat.beq t d) = true := List.any_eq_true.2 ⟨d, hmt, by simp⟩
        rw [this] at h0; cases h0
      · by_cases hlt : k < i
        · have hb : Nat.blt k i = true := by simpa using hlt
          rw [hb, cond_true] at h0
          rw [if_pos hlt]; exact h0
        · have hb : Nat.blt k i = false := by
            cases hq : Nat.blt k i with
            | false => rfl
            | true => exact absurd (by simpa using hq) hlt
          rw [hb, cond_false] at h0
          rw [if_neg hlt]; exact h0

theorem chk_front {draw : Bool} (h : chk l items m N draw = true) {i : Nat} {o : Oper} (hi : i < m) (ho : l[i]? = some o) : chkOp l (msks l []) m N i o = true := by
  simp only [chk, Bool.and_eq_true] at h
  refine List.all_eq_true.1 h.1.1.2 (o, i) ?_
  rw [List.mem_zipIdx_iff_getElem?]
  simp [hi, ho]

theorem chk_len {draw : Bool} (h : chk l items m N draw = true) : items.length = m ∧ m ≤ l.length := by
  simp only [chk, Bool.and_eq_true] at h
  exact ⟨Nat.eq_of_beq_eq_true h.1.1.1.1, Nat.le_of_ble_eq_true h.1.1.1.2⟩

theorem chk_deps {draw : Bool} (h : chk l items m N draw = true) {i : Nat} {it : Item} (hi : items[i]? = some it) :
    match it.kind with
    | .rel => it.deps = [i] ∧ ∀ j ∈ it.gd, ((msks l []).getD i 0).testBit j = true
    | _ => ∀ j ∈ it.deps, ((msks l []).getD i 0).testBit j = true := by
  simp only [chk, Bool.and_eq_true] at h
  have := List.all_eq_true.1 h.1.2 (it, i) (by rw [List.mem_zipIdx_iff_getElem?]; simpa using hi)
  simp only [chkDeps] at this
  cases hk : it.kind <;> simp only [hk] at this ⊢ <;> first | exact fun j hj => List.all_eq_true.1 this j hj | skip
  rw [Bool.and_eq_true] at this
  refine ⟨?_, fun j hj => List.all_eq_true.1 this.2 j hj⟩
  have this := this.1
  split at this
  · rename_i j e; rw [e, Nat.eq_of_beq_eq_true this]
  · cases this

theorem Item.g_congr {it : Item} {vs vs' : Nat → Value} (h : ∀ j ∈ it.gd, vs j = vs' j) : it.g vs = it.g vs' := by
  unfold Item.g
  rw [List.map_congr_left h]

theorem Item.x_congr {it : Item} {vs vs' : Nat → Value} (h : ∀ j ∈ it.deps, vs j = vs' j) : it.x vs = it.x vs' := by
  unfold Item.x
  rw [List.map_congr_left h]

/-- the state behind one operation more -/
theorem Inv.next {SS : Nat → Prop} {a : Act} {w w' : World} {vs vs' : Nat → Value} {lo hi lo' hi' : Nat → Nat} {draw : Bool} (hc : chk l items m N draw = true) (hst : Stable items)
    (H : Inv l items m N ws w0 a0 SS a w vs lo hi) {i : Nat} {o : Oper} {it : Item} (him : i < m) (ho : l[i]? = some o) (hit : items[i]? = some it) (hS : ¬ SS i)
    (hpre : ∀ e ∈ o.after, Region.binds .any e = true → SS e.on) (hb : Below w.heap.size w w') (hvs : ∀ j, j ≠ i → vs' j = vs j) (hlo : ∀ j, j ≠ i → lo' j = lo j) (hhi : ∀ j, j ≠ i → hi' j = hi j)
    (hq : (match it.kind with | .wl | .skip => True | _ => False) → w' = w) {v : Value} (hv : v = it.x vs') (hrel : (match it.kind with | .rel => True | _ => False) → it.g vs' (vs' i) (lo' i) (hi' i) w' ∧ lo' i = w.heap.size ∧ hi' i = w'.heap.size) :
    Inv l items m N ws w0 a0 (fun j => SS j ∨ j = i) (a.put o.dst v) w' vs' lo' hi' := by
  have hco := chkOp_spec (chk_front hc him ho)
  have hsz := H.ext.size
  have hlen := chk_len hc
  -- values of what has come up are as they were
  have hx : ∀ k itk, SS k → items[k]? = some itk → itk.x vs' = itk.x vs := by
    intro k itk hk hitk
    refine Item.x_congr fun j hj => hvs j ?_
    have hkm : k < items.length := (List.getElem?_eq_some_iff.1 hitk).1
    have hd := chk_deps hc hitk
    have hSj : SS j := by
      cases hkk : itk.kind <;> simp only [hkk] at hd
      case rel => rw [hd.1] at hj; simp at hj; exact hj ▸ hk
      all_goals
        have hkl : k < l.length := by omega
        refine mask_closed (m := m) (fun i o ho hi => (chkOp_spec (chk_front hc hi ho)).1) H.down k _ (by omega) (List.getElem?_eq_getElem hkl) (H.down k _ (List.getElem?_eq_getElem hkl) hk) j (hd j hj)
    intro e; exact hS (e ▸ hSj)
  have hgx : ∀ k itk, SS k → items[k]? = some itk → (match itk.kind with | .rel => True | _ => False) → itk.g vs' = itk.g vs := by
    intro k itk hk hitk hkk
    refine Item.g_congr fun j hj => hvs j ?_
    have hkm : k < items.length := (List.getElem?_eq_some_iff.1 hitk).1
    have hd := chk_deps hc hitk
    have hSj : SS j := by
      cases hkn : itk.kind <;> simp only [hkn] at hd hkk
      have hkl : k < l.length := by omega
      exact mask_closed (m := m) (fun i o ho hi => (chkOp_spec (chk_front hc hi ho)).1) H.down k _ (by omega) (List.getElem?_eq_getElem hkl) (H.down k _ (List.getElem?_eq_getElem hkl) hk) j (hd.2 j hj)
    intro e; exact hS (e ▸ hSj)
  refine ⟨?_, ?_, ?_, ?_, ?_, ?_, ?_, ?_, fun hall => (hq (hall i it hit)).trans (H.quiet hall)⟩
  · cases o.dst <;> simp [Act.put, H.size]
  · cases o.dst <;> simp [Act.put, H.defers]
  · exact H.ext.trans (hb.mono hsz)
  · intro t ht
    have h1 := H.old t (fun k ok hkm hk hok => ht k ok hkm (.inl hk) hok)
    have h2 := ht i o him (.inr rfl) ho
    cases hd : o.dst with
    | none => simpa [Act.put] using h1
    | some d =>
      have hne : d ≠ t := fun e => h2 (by rw [hd, e])
      simp only [Act.put]
      rw [Array.getElem?_setIfInBounds_ne hne]; exact h1
  · intro k ok itk t hkm hk hok hitk hdk
    rcases hk with hk | rfl
    · have hki : k ≠ i := fun e => hS (e ▸ hk)
      have h1 := H.new k ok itk t hkm hk hok hitk hdk
      have h2 := (hco.2.2.2.2 k ok t hkm hok hki hdk).1
      rw [hx k itk hk hitk]
      cases hd : o.dst with
      | none => simpa [Act.put] using h1
      | some d =>
        have hne : d ≠ t := fun e => h2 (by rw [hd, e])
        simp only [Act.put]
        rw [Array.getElem?_setIfInBounds_ne hne]; exact h1
    · rw [ho] at hok; cases hok
      rw [hit] at hitk; cases hitk
      have hlt : t < N := by have := hco.2.1; rw [hdk] at this; simpa [dstOk] using this
      rw [hdk, hv]
      simp [Act.put, H.size, hlt]
  · intro k itk hk hitk hkk
    rcases hk with hk | rfl
    · have hki : k ≠ i := fun e => hS (e ▸ hk)
      obtain ⟨h1, h2, h3, h4⟩ := H.rel k itk hk hitk hkk
      rw [hgx k itk hk hitk hkk, hvs k hki, hlo k hki, hhi k hki]
      exact ⟨hst k itk hitk _ _ _ _ _ _ h4 hb h1, h2, h3, Nat.le_trans h4 hb.size⟩
    · rw [hit] at hitk; cases hitk
      obtain ⟨h1, h2, h3⟩ := hrel hkk
      exact ⟨h1, by rw [h2]; exact hsz, by rw [h2, h3]; exact hb.size, by rw [h3]; exact Nat.le_refl _⟩
  · intro k j itk itj hk hj hitk hitj hkk hjj hne
    rcases hk with hk | rfl <;> rcases hj with hj | rfl
    · have hki : k ≠ i := fun e => hS (e ▸ hk)
      have hji : j ≠ i := fun e => hS (e ▸ hj)
      rw [hhi k hki, hhi j hji, hlo k hki, hlo j hji]
      exact H.dis k j itk itj hk hj hitk hitj hkk hjj hne
    · rw [hit] at hitj; cases hitj
      obtain ⟨_, h2, h3⟩ := hrel hjj
      have h4 := (H.rel k itk hk hitk hkk).2.2.2
      rw [hhi k hne, h2]
      exact .inl h4
    · rw [hit] at hitk; cases hitk
      obtain ⟨_, h2, h3⟩ := hrel hkk
      have h4 := (H.rel j itj hj hitj hjj).2.2.2
      rw [hhi j (Ne.symm hne), h2]
      exact .inr h4
    · exact absurd rfl hne
  · intro k ok hok hk e he hbd
    rcases hk with hk | rfl
    · exact .inl (H.down k ok hok hk e he hbd)
    · rw [ho] at hok; cases hok; exact .inl (hpre e he hbd)

/-- ONE OPERATION COMES UP. -/
theorem Inv.step {Q : Exit → Act → World → Prop} {SS : Nat → Prop} {a : Act} {w : World} {vs : Nat → Value} {lo hi : Nat → Nat} {draw : Bool} (hc : chk l items m N draw = true) (hst : Stable items)
    (hg : ∀ vs, guardsOk l vs l items L = true) (hw : ∀ vs w, wlRes P vs w l items L = wlExp vs w l items) (hp : Prem P w0 (msks l []) items l items 0 (fun _ => L)) (hL : Fr a0 N L)
    (H : Inv l items m N ws w0 a0 SS a w vs lo hi) {i : Nat} {o : Oper} (him : i < m) (ho : l[i]? = some o) (hS : ¬ SS i) (hpre : ∀ e ∈ o.after, Region.binds .any e = true → SS e.on) :
    wpOp P l.toArray Q i (fun a' w' => ∃ vs' lo' hi', Inv l items m N ws w0 a0 (fun j => SS j ∨ j = i) a' w' vs' lo' hi') a w := by
  have hlen := chk_len hc
  have hit : items[i]? = some (items[i]'(by omega)) := List.getElem?_eq_getElem _
  generalize hitn : items[i]'(by omega) = it at hit
  have hco := chkOp_spec (chk_front hc him ho)
  have hback : ∀ i o, l[i]? = some o → i < m → ∀ e ∈ o.after, Region.binds .any e = true → e.on < i := fun i o ho hi => (chkOp_spec (chk_front hc hi ho)).1
  have hclo := mask_closed hback H.down i o him ho hpre
  -- what the list says of a slot that it looks at, the frame says
  have hslot : ∀ t v, (∀ k ok, k < m → l[k]? = some ok → k ≠ i → ok.dst = some t → if k < i then ((msks l []).getD i 0).testBit k = true else ((msks l []).getD k 0).testBit i = true) →
      getO (envOf vs (l.take i) (items.take i) L) t = some v → a.tmps[t]? = some v := by
    intro t v hord hv
    rcases env_cases vs l items L t v (by omega) i (by omega) hv with ⟨k, ok, itk, hk, hok, hitk, hdk, rfl⟩ | ⟨h1, h2⟩
    · have := hord k ok (by omega) hok (by omega) hdk
      rw [if_pos hk] at this
      exact H.new k ok itk t (by omega) (hclo k this) hok hitk hdk
    · rw [H.old t fun k ok hkm hk hok hdk => ?_]
      · exact hL.has t v h1
      · have hki : k ≠ i := fun e => hS (e ▸ hk)
        have hge : ¬ k < i := fun hlt => h2 k ok hlt hok hdk
        have := hord k ok hkm hok hki hdk
        rw [if_neg hge] at this
        exact hS (mask_closed hback H.down k ok hkm hok (H.down k ok hok hk) i this)
  have hlo2 : (l.toArray)[i]? = some o := by simpa using ho
  have hopsl : ∀ j : Nat, (l.toArray)[j]? = l[j]? := fun j => by simp
  have hgd := guardsOk_at l vs l items L (hg vs) i o it ho hit
  have hwd := wlRes_at P vs w l items L (hw vs w) i o it ho hit
  have hpd := prem_at P w0 (msks l []) items l items 0 (fun _ => L) hp i o it ho hit
  simp only [Nat.zero_add] at hpd
  generalize hE : envOf vs (l.take i) (items.take i) L = E at *
  -- the guard
  have hwant : ∀ b, wantO l E o = some b → Region.wanted o (yielded l.toArray a.tmps) = b := by
    intro b hb
    unfold Region.wanted
    unfold wantO at hb
    cases hgd : o.guard with
    | none => simp only [hgd, Option.some.injEq] at hb; exact hb
    | some g =>
      obtain ⟨j, want⟩ := g
      simp only [hgd] at hb
      cases hd : (l[j]?).bind (·.dst) with
      | none => simp only [hd] at hb; cases hb
      | some d =>
        simp only [hd] at hb
        cases hv : getO E d with
        | none => simp only [hv] at hb; cases hb
        | some v =>
          have hat : a.tmps[d]? = some v := by
            refine hslot d v (fun k ok hkm hok hki hdk => ?_) hv
            obtain ⟨hji, hbit⟩ := hco.2.2.2.1 j want hgd
            obtain ⟨oj, hoj, hdj⟩ := Option.bind_eq_some_iff.1 hd
            by_cases hkj : k = j
            · subst hkj; rw [if_pos hji]; exact hbit
            · exact absurd hdj ((chkOp_spec (chk_front hc (by omega) hoj)).2.2.2.2 k ok d hkm hok hkj hdk).1
          simp only [hv] at hb
          simp only [yielded, hopsl, hd, Option.bind_some, hat]
          cases v <;> simp only [Option.some.injEq] at hb <;> exact hb
  -- the operands
  have heval : (opTmps o).all (fun t => (getO E t).isSome) = true → execOp a.eval o = execOp (evL E) o := by
    intro hall
    refine execOp_congr o hco.2.2.1 fun x hx => ?_
    cases x with
    | const v => rfl
    | global g => rfl
    | func f => rfl
    | tmp t =>
      have hmt : t ∈ opTmps o := by
        refine List.mem_filterMap.2 ⟨.tmp t, by simpa using hx, rfl⟩
      have := List.all_eq_true.1 hall t hmt
      obtain ⟨v, hv⟩ := Option.isSome_iff_exists.1 this
      have := hslot t v (fun k ok hkm hok hki hdk => (hco.2.2.2.2 k ok t hkm hok hki hdk).2 hmt) hv
      simp [Act.eval, evL, evO, hv, this]
  have hfacts : Facts w0 (msks l []) items i vs lo hi w := by
    intro j itj hitj hkj hbit
    exact H.rel j itj (hclo j hbit) hitj hkj
  -- other values stay
  let up (v : Value) : Nat → Value := fun j => if j = i then v else vs j
  let upn (f : Nat → Nat) (n : Nat) : Nat → Nat := fun j => if j = i then n else f j
  have hupne : ∀ v j, j ≠ i → up v j = vs j := fun v j hj => if_neg hj
  have hdepsx : (∀ j ∈ it.deps, ((msks l []).getD i 0).testBit j = true) → ∀ v, it.x (up v) = it.x vs := by
    intro hd v
    refine Item.x_congr fun j hj => hupne v j fun e => ?_
    exact hS (e ▸ hclo j (hd j hj))
  have hdeps := chk_deps hc hit
  unfold wpOp
  simp only [hlo2]
  cases hk : it.kind with
  | skip =>
    simp only [hk] at hgd hwd
    have hwf : wantO l E o = some false := by revert hgd; cases wantO l E o with | none => simp | some b => cases b <;> simp
    rw [if_neg (by rw [hwant _ hwf]; exact Bool.false_ne_true)]
    exact ⟨vs, lo, hi, H.next hc hst him ho hit hS hpre (Below.refl _ _) (fun _ _ => rfl) (fun _ _ => rfl) (fun _ _ => rfl) (fun _ => rfl) hwd.symm (by rw [hk]; exact fun h => h.elim)⟩
  | wl =>
    simp only [hk, Bool.and_eq_true] at hgd hwd
    have hwf : wantO l E o = some true := by revert hgd; cases wantO l E o with | none => simp | some b => cases b <;> simp
    rw [if_pos (hwant _ hwf)]
    left
    unfold Oper.wp
    rw [heval hgd.2, hwd]
    exact ⟨vs, lo, hi, H.next hc hst him ho hit hS hpre (Below.refl _ _) (fun _ _ => rfl) (fun _ _ => rfl) (fun _ _ => rfl) (fun _ => rfl) rfl (by rw [hk]; exact fun h => h.elim)⟩
  | det =>
    simp only [hk, Bool.and_eq_true] at hgd hpd
    have hwf : wantO l E o = some true := by revert hgd; cases wantO l E o with | none => simp | some b => cases b <;> simp
    rw [if_pos (hwant _ hwf)]
    left
    unfold Oper.wp
    rw [heval hgd.2]
    have := hpd vs lo hi w H.ext hfacts
    rw [hE] at this
    refine Out.upon this fun v w' ⟨hv, hb⟩ => ?_
    exact ⟨vs, lo, hi, H.next hc hst him ho hit hS hpre hb (fun _ _ => rfl) (fun _ _ => rfl) (fun _ _ => rfl) (by rw [hk]; exact fun h => h.elim) hv (by rw [hk]; exact fun h => h.elim)⟩
  | rel =>
    simp only [hk, Bool.and_eq_true] at hgd hpd
    have hwf : wantO l E o = some true := by revert hgd; cases wantO l E o with | none => simp | some b => cases b <;> simp
    rw [if_pos (hwant _ hwf)]
    left
    unfold Oper.wp
    rw [heval hgd.2]
    have := hpd vs lo hi w H.ext hfacts
    rw [hE] at this
    refine Out.upon this fun v w' ⟨hb, hG⟩ => ?_
    simp only [hk] at hdeps
    refine ⟨up v, upn lo w.heap.size, upn hi w'.heap.size, H.next hc hst him ho hit hS hpre hb (fun j hj => hupne v j hj) (fun j hj => if_neg hj) (fun j hj => if_neg hj) (by rw [hk]; exact fun h => h.elim) ?_ fun _ => ⟨?_, if_pos rfl, if_pos rfl⟩⟩
    · simp [Item.x, hk, hdeps.1, up]
    · have hgu : it.g (up v) = it.g vs := Item.g_congr fun j hj => hupne v j fun e => hS (e ▸ hclo j (hdeps.2 j hj))
      show it.g (up v) (if i = i then v else vs i) (if i = i then _ else _) (if i = i then _ else _) w'
      rw [if_pos rfl, if_pos rfl, if_pos rfl, hgu]
      exact hG

/-- what stands behind the region's front -/
def Rest (P : Program) (N : Nat) (ops : Array Oper) (Q : Exit → Act → World → Prop) (rest : List Oper) (E : Sl) (w : World) : Prop := ∀ a, Fr a N E → wpList P ops Q rest a w

/-- all of the front has come up -/
def AllUp (ws w0 : World) (items : List Item) (vs : Nat → Value) (lo hi : Nat → Nat) (w : World) : Prop :=
  Below w0.heap.size w0 w ∧
  (∀ (j : Nat) (it : Item), items[j]? = some it → (match it.kind with | .rel => True | _ => False) → it.g vs (vs j) (lo j) (hi j) w ∧ w0.heap.size ≤ lo j ∧ lo j ≤ hi j ∧ hi j ≤ w.heap.size) ∧
  (∀ (i j : Nat) (iti itj : Item), items[i]? = some iti → items[j]? = some itj → (match iti.kind with | .rel => True | _ => False) → (match itj.kind with | .rel => True | _ => False) → i ≠ j → hi i ≤ lo j ∨ hi j ≤ lo i) ∧
  ((∀ (i : Nat) (it : Item), items[i]? = some it → (match it.kind with | .wl | .skip => True | _ => False)) → w = ws)

theorem Inv.all {SS : Nat → Prop} {a : Act} {w : World} {vs : Nat → Value} {lo hi : Nat → Nat} {draw : Bool} (hc : chk l items m N draw = true) (hL : Fr a0 N L)
    (H : Inv l items m N ws w0 a0 SS a w vs lo hi) (hS : ∀ i, i < m → SS i) : AllUp ws w0 items vs lo hi w ∧ Fr a N (envOf vs (l.take m) items L) := by
  have hlen := chk_len hc
  refine ⟨⟨H.ext, fun j it hit hk => ?_, fun i j iti itj hi' hj hki hkj hne => ?_, H.quiet⟩, ⟨H.size, H.defers, fun t v hv => ?_⟩⟩
  · exact H.rel j it (hS j (by have := (List.getElem?_eq_some_iff.1 hit).1; omega)) hit hk
  · exact H.dis i j iti itj (hS i (by have := (List.getElem?_eq_some_iff.1 hi').1; omega)) (hS j (by have := (List.getElem?_eq_some_iff.1 hj).1; omega)) hi' hj hki hkj hne
  · have he : envOf vs (l.take m) items L = envOf vs (l.take m) (items.take m) L := by
      have hi' : items.take m = items := List.take_of_length_le (by omega)
      rw [hi']
    rw [he] at hv
    rcases env_cases vs l items L t v (by omega) m (by omega) hv with ⟨k, ok, itk, hk, hok, hitk, hdk, rfl⟩ | ⟨h1, h2⟩
    · exact H.new k ok itk t hk (hS k hk) hok hitk hdk
    · rw [H.old t fun k ok hkm _ hok => h2 k ok hkm hok]
      exact hL.has t v h1

theorem Inv.start (hL : Fr a0 N L) (hws : Below w0.heap.size w0 ws) : Inv l items m N ws w0 a0 (fun _ => False) a0 ws (fun _ => undef) (fun _ => 0) (fun _ => 0) :=
  ⟨hL.size, hL.defers, hws, fun _ _ => rfl, fun _ _ _ _ _ h => h.elim, fun _ _ h => h.elim, fun _ _ _ _ h => h.elim, fun _ _ _ h => h.elim, fun _ => rfl⟩

theorem Inv.congr {SS SS' : Nat → Prop} {a : Act} {w : World} {vs : Nat → Value} {lo hi : Nat → Nat} (H : Inv l items m N ws w0 a0 SS a w vs lo hi) (h : ∀ i, SS i ↔ SS' i) :
    Inv l items m N ws w0 a0 SS' a w vs lo hi := by
  have : SS = SS' := funext fun i => propext (h i)
  exact this ▸ H

/-- in the text's order -/
theorem front_text {Q : Exit → Act → World → Prop} {draw : Bool} (hc : chk l items m N draw = true) (hst : Stable items)
    (hg : ∀ vs, guardsOk l vs l items L = true) (hw : ∀ vs w, wlRes P vs w l items L = wlExp vs w l items) (hp : Prem P w0 (msks l []) items l items 0 (fun _ => L)) (hL : Fr a0 N L)
    (hend : ∀ vs lo hi w, AllUp ws w0 items vs lo hi w → Rest P N l.toArray Q (l.drop m) (envOf vs (l.take m) items L) w) :
    ∀ (n i : Nat), i + n = m → ∀ a w vs lo hi, Inv l items m N ws w0 a0 (fun j => j < i) a w vs lo hi → wpOps P l.toArray Q (List.range' i (l.length - i)) a w := by
  have hlen := chk_len hc
  intro n
  induction n with
  | zero =>
    intro i hi a w vs lo hi' H
    obtain ⟨h1, h2⟩ := H.all hc hL (fun k hk => by omega)
    have := hend _ _ _ _ h1 a h2
    rw [← wpOps_eq_wpList (l.drop m) m (by intro j; simp)] at this
    rw [show i = m from by omega]
    simpa using this
  | succ n ih =>
    intro i hi a w vs lo hi' H
    have hlt : i < l.length := by omega
    rw [show l.length - i = (l.length - (i + 1)) + 1 from by omega, List.range'_succ, wpOps_cons]
    refine wpOp_mono ?_ (H.step (Q := Q) hc hst hg hw hp hL (i := i) (by omega) (List.getElem?_eq_getElem hlt) (by omega) ?_)
    · rintro a' w' ⟨vs', lo', hi'', H'⟩
      exact ih (i + 1) (by omega) a' w' vs' lo' hi'' (H'.congr fun j => by omega)
    · intro e he hb
      exact (chkOp_spec (chk_front hc (by omega) (List.getElem?_eq_getElem hlt))).1 e he hb

theorem tail_mask {draw : Bool} (hc : chk l items m N draw = true) (hd : draw = true) {i : Nat} {o : Oper} (hm : m ≤ i) (ho : l[i]? = some o) :
    (∀ e ∈ o.after, Region.binds .any e = true → e.on < i) ∧ ∀ j, j < i → ((msks l []).getD i 0).testBit j = true := by
  subst hd
  simp only [chk, Bool.and_eq_true, Bool.not_true, Bool.false_or] at hc
  have h := hc.2
  have := List.all_eq_true.1 h (o, i) (by
    rw [List.mem_drop_iff_getElem]
    have hl := (List.getElem?_eq_some_iff.1 ho).1
    refine ⟨i - m, by simp; omega, ?_⟩
    have := (List.getElem?_eq_some_iff.1 ho).2
    simp only [List.getElem_zipIdx]
    simp [show m + (i - m) = i from by omega, this])
  simp only [Bool.and_eq_true] at this
  refine ⟨fun e he hb => ?_, fun j hj => ?_⟩
  · have := List.all_eq_true.1 this.1 e (by simpa using he)
    simp only [hb, Bool.not_true, Bool.false_or] at this
    simpa using this
  · have h2 := Nat.eq_of_beq_eq_true this.2
    have h3 := congrArg (fun x => Nat.testBit x j) h2
    have h4 : Nat.land ((msks l []).getD i 0) (2 ^ i - 1) = ((msks l []).getD i 0) &&& (2 ^ i - 1) := rfl
    simp only [h4, Nat.testBit_and, Nat.testBit_two_pow_sub_one, hj, decide_true, Bool.and_true] at h3
    exact h3

theorem getD_set {listed : Array Bool} {i j : Nat} (hi : i < listed.size) : ((listed.setIfInBounds i true).getD j false = true) ↔ (listed.getD j false = true ∨ j = i) := by
  by_cases h : j = i
  · subst h; simp [hi]
  · simp only [Array.getD_eq_getD_getElem?]
    rw [Array.getElem?_setIfInBounds_ne (Ne.symm h)]
    simp [h]

/-- the tail: what waits for all -/
theorem tail_any {Q : Exit → Act → World → Prop} (hc : chk l items m N true = true) : ∀ (n i : Nat), m ≤ i → i + n = l.length → ∀ (fuel : Nat) (listed : Array Bool) (a : Act) (w : World), n ≤ fuel → listed.size = l.length →
    (∀ j, listed.getD j false = true ↔ j < i) → wpOps P l.toArray Q (List.range' i n) a w → wpAny P .any l.toArray Q fuel listed a w := by
  intro n
  induction n with
  | zero =>
    intro i hm hi fuel listed a w _ hsz hl h
    have hr : Region.ready .any l.toArray listed = [] := by
      refine List.eq_nil_iff_forall_not_mem.2 fun j hj => ?_
      obtain ⟨h0, o, ho, _⟩ := mem_ready.1 hj
      have hjl : j < l.length := by have := (Array.getElem?_eq_some_iff.1 ho).1; simpa using this
      have := (hl j).2 (by omega)
      simp only [Array.getD_eq_getD_getElem?, Array.getElem?_eq_getElem (by omega : j < listed.size), Option.getD_some] at h0 this
      rw [this] at h0; cases h0
    have hq : Q .normal a w := by simpa [wpOps] using h
    cases fuel with
    | zero => exact ⟨hr, hq⟩
    | succ fuel => exact ⟨fun _ => hq, by rw [hr]; simp⟩
  | succ n ih =>
    intro i hm hi fuel listed a w hf hsz hl h
    obtain ⟨fuel, rfl⟩ : ∃ f, fuel = f + 1 := ⟨fuel - 1, by omega⟩
    have hlt : i < l.length := by omega
    have ho : l[i]? = some l[i] := List.getElem?_eq_getElem hlt
    have hir : i ∈ Region.ready .any l.toArray listed := by
      refine mem_ready.2 ⟨?_, l[i], by simp, fun e he hb => (hl _).2 ((tail_mask hc rfl hm ho).1 e he hb)⟩
      have : ¬ listed.getD i false = true := fun h => by have := (hl i).1 h; omega
      simp only [Array.getD_eq_getD_getElem?, Array.getElem?_eq_getElem (by omega : i < listed.size), Option.getD_some] at this ⊢
      simpa using this
    refine ⟨fun h0 => (by rw [h0] at hir; cases hir), fun j hj => ?_⟩
    have hji : j = i := by
      obtain ⟨h0, o, ho', hpre⟩ := mem_ready.1 hj
      have ho2 : l[j]? = some o := by simpa using ho'
      have hjl : j < l.length := (List.getElem?_eq_some_iff.1 ho2).1
      have hge : ¬ j < i := fun h => by
        have := (hl j).2 h
        simp only [Array.getD_eq_getD_getElem?, Array.getElem?_eq_getElem (by omega : j < listed.size), Option.getD_some] at h0 this
        rw [this] at h0; cases h0
      by_cases hgt : i < j
      · exfalso
        -- number i lies among what j waits for
        have hb : ∀ k o, l[k]? = some o → k < l.length → ∀ e ∈ o.after, Region.binds .any e = true → e.on < k := by
          intro k o ho hk e he hb
          by_cases hkm : k < m
          · exact (chkOp_spec (chk_front hc hkm ho)).1 e he hb
          · exact (tail_mask hc rfl (by omega) ho).1 e he hb
        have hin := mask_closed (m := l.length) (SS := fun x => x < i) hb (fun k o ho hk e he hbd => by have := hb k o ho (List.getElem?_eq_some_iff.1 ho).1 e he hbd; omega) j o hjl ho2
          (fun e he hbd => (hl _).1 (hpre e he hbd)) i ((tail_mask hc rfl (by omega) ho2).2 i hgt)
        omega
      · omega
    subst hji
    rw [List.range'_succ, wpOps_cons] at h
    refine wpOp_mono (fun a' w' h' => ih (j + 1) (by omega) (by omega) fuel _ a' w' (by omega) (by simpa using hsz) (fun k => ?_) h') h
    rw [getD_set (by omega), hl k]; omega

/-- in whatever order -/
theorem front_any {Q : Exit → Act → World → Prop} (hc : chk l items m N true = true) (hst : Stable items)
    (hg : ∀ vs, guardsOk l vs l items L = true) (hw : ∀ vs w, wlRes P vs w l items L = wlExp vs w l items) (hp : Prem P w0 (msks l []) items l items 0 (fun _ => L)) (hL : Fr a0 N L)
    (hend : ∀ vs lo hi w, AllUp ws w0 items vs lo hi w → Rest P N l.toArray Q (l.drop m) (envOf vs (l.take m) items L) w) :
    ∀ (fuel : Nat) (listed : Array Bool) (a : Act) (w : World) (vs : Nat → Value) (lo hi : Nat → Nat), listed.size = l.length → (listed.toList.filter (!·)).length ≤ fuel → (∀ j, listed.getD j false = true → j < m) →
      Inv l items m N ws w0 a0 (fun j => listed.getD j false = true) a w vs lo hi → wpAny P .any l.toArray Q fuel listed a w := by
  have hlen := chk_len hc
  intro fuel
  induction fuel with
  | zero =>
    intro listed a w vs lo hi hsz hf hlm H
    have hall : ∀ i, i < l.length → listed.getD i false = true := by
      intro i hi
      have h0 : listed.toList.filter (!·) = [] := List.eq_nil_of_length_eq_zero (by omega)
      have : listed[i]'(by omega) = true := by
        cases hb : listed[i]'(by omega) with
        | true => rfl
        | false =>
          have : (listed[i]'(by omega)) ∈ listed.toList.filter (!·) := List.mem_filter.2 ⟨by simp, by simp [hb]⟩
          rw [h0] at this; cases this
      simp [this, hsz, hi]
    have hml : l.length ≤ m := by
      rcases Nat.lt_or_ge m l.length with h | h
      · have := hlm m (hall m h); omega
      · exact h
    obtain ⟨h1, h2⟩ := H.all hc hL fun i hi => hall i (by omega)
    have h3 := hend _ _ _ _ h1 a h2
    rw [← wpOps_eq_wpList (l.drop m) m (by intro j; simp)] at h3
    exact tail_any hc 0 m (Nat.le_refl _) (by omega) 0 listed a w (Nat.le_refl _) hsz (fun j => ⟨fun h => hlm j h, fun h => hall j (by omega)⟩) (by
      have : (l.drop m).length = 0 := by simp; omega
      rw [this] at h3; exact h3)
  | succ fuel ih =>
    intro listed a w vs lo hi hsz hf hlm H
    by_cases hall : ∀ i, i < m → listed.getD i false = true
    · obtain ⟨h1, h2⟩ := H.all hc hL hall
      have h3 := hend _ _ _ _ h1 a h2
      rw [← wpOps_eq_wpList (l.drop m) m (by intro j; simp)] at h3
      have hcount : l.length - m ≤ (listed.toList.filter (!·)).length := by
        have hsub : (List.drop m listed.toList) = List.replicate (l.length - m) false := by
          refine List.ext_getElem (by simp [hsz]) fun k hk1 hk2 => ?_
          simp only [List.getElem_drop, List.getElem_replicate, Array.getElem_toList]
          cases hb : listed[m + k]'(by simp at hk1; omega) with
          | false => rfl
          | true =>
            have hlt : m + k < listed.size := by simp at hk1; omega
            have := hlm (m + k) (by simp only [Array.getD_eq_getD_getElem?, Array.getElem?_eq_getElem hlt, Option.getD_some]; exact hb)
            omega
        have h4 : (listed.toList.filter (!·)).length = ((listed.toList.take m).filter (!·)).length + ((listed.toList.drop m).filter (!·)).length := by
          rw [← List.length_append, ← List.filter_append, List.take_append_drop]
        rw [h4, hsub]
        simp
      refine tail_any hc (l.length - m) m (Nat.le_refl _) (by omega) (fuel + 1) listed a w (by omega) hsz (fun j => ⟨fun h => hlm j h, fun h => hall j h⟩) ?_
      simpa using h3
    · -- some of the front has not come up
      have hready : ∃ i, i ∈ Region.ready .any l.toArray listed := by
        have hex : ∃ i, i < m ∧ ¬ listed.getD i false = true := by
          rcases Classical.em (∃ i, i < m ∧ ¬ listed.getD i false = true) with h | h
          · exact h
          · exact absurd (fun i hi => by
              rcases Classical.em (listed.getD i false = true) with h' | h'
              · exact h'
              · exact absurd ⟨i, hi, h'⟩ h) hall
        have hleast : ∀ n, (∃ i, i ≤ n ∧ i < m ∧ ¬ listed.getD i false = true) → ∃ i, i < m ∧ ¬ listed.getD i false = true ∧ ∀ j, j < i → listed.getD j false = true := by
          intro n
          induction n with
          | zero => rintro ⟨i, hi, him, hn⟩; exact ⟨i, him, hn, fun j hj => by omega⟩
          | succ n ihn =>
            rintro ⟨i, hi, him, hn⟩
            by_cases h : ∃ i, i ≤ n ∧ i < m ∧ ¬ listed.getD i false = true
            · exact ihn h
            · refine ⟨i, him, hn, fun j hj => ?_⟩
              rcases Classical.em (listed.getD j false = true) with h' | h'
              · exact h'
              · exact absurd ⟨j, by omega, by omega, h'⟩ h
        obtain ⟨i, him, hn⟩ := hex
        obtain ⟨i, him, hn, hj⟩ := hleast i ⟨i, Nat.le_refl _, him, hn⟩
        have hlt : i < l.length := by omega
        refine ⟨i, mem_ready.2 ⟨?_, l[i], by simp, fun e he hb => hj _ ((chkOp_spec (chk_front hc him (List.getElem?_eq_getElem hlt))).1 e he hb)⟩⟩
        simp only [Array.getD_eq_getD_getElem?, Array.getElem?_eq_getElem (by omega : i < listed.size), Option.getD_some] at hn ⊢
        simpa using hn
      refine ⟨fun h0 => (by obtain ⟨i, hi⟩ := hready; rw [h0] at hi; cases hi), fun i hi => ?_⟩
      obtain ⟨h0, o, ho, hpre⟩ := mem_ready.1 hi
      have ho2 : l[i]? = some o := by simpa using ho
      have hil : i < l.length := (List.getElem?_eq_some_iff.1 ho2).1
      have hnot : ¬ listed.getD i false = true := by
        simp only [Array.getD_eq_getD_getElem?, Array.getElem?_eq_getElem (by omega : i < listed.size), Option.getD_some] at h0 ⊢
        simp [h0]
      have him : i < m := by
        rcases Nat.lt_or_ge i m with h | h
        · exact h
        · exfalso
          have hb : ∀ k o, l[k]? = some o → k < l.length → ∀ e ∈ o.after, Region.binds .any e = true → e.on < k := by
            intro k o ho hk e he hb
            by_cases hkm : k < m
            · exact (chkOp_spec (chk_front hc hkm ho)).1 e he hb
            · exact (tail_mask hc rfl (by omega) ho).1 e he hb
          have hin := mask_closed (m := l.length) (SS := fun x => listed.getD x false = true) hb H.down i o hil ho2 hpre
          exact hall fun k hk => hin k ((tail_mask hc rfl h ho2).2 k (by omega))
      refine wpOp_mono ?_ (H.step (Q := Q) hc hst hg hw hp hL him ho2 hnot hpre)
      rintro a' w' ⟨vs', lo', hi', H'⟩
      refine ih (listed.setIfInBounds i true) a' w' vs' lo' hi' (by simpa using hsz) ?_ (fun j hj => ?_) (H'.congr fun j => (getD_set (by omega)).symm)
      · have hi2 : listed[i]'(by omega) = false := by
          simp only [Array.getD_eq_getD_getElem?, Array.getElem?_eq_getElem (by omega : i < listed.size), Option.getD_some] at h0
          exact h0
        have hspl : listed.toList = listed.toList.take i ++ false :: listed.toList.drop (i + 1) := by
          have hil2 : i < listed.toList.length := by simp; omega
          have := (List.take_append_drop i listed.toList).symm
          rw [List.drop_eq_getElem_cons hil2] at this
          simpa [hi2] using this
        have hset : (listed.setIfInBounds i true).toList = listed.toList.take i ++ true :: listed.toList.drop (i + 1) := by
          have hlen2 : (listed.toList.take i).length = i := by simp; omega
          rw [Array.toList_setIfInBounds]
          conv => lhs; rw [hspl]
          rw [List.set_append_right _ _ (by omega)]
          simp [hlen2]
        rw [hset]
        rw [hspl] at hf
        simp only [List.filter_append, List.length_append, List.filter_cons, Bool.not_false, if_true, List.length_cons, Bool.not_true, Bool.false_eq_true, if_false] at hf ⊢
        omega
      · rcases (getD_set (by omega)).1 hj with h | h
        · exact hlm j h
        · exact h ▸ him

/-- **A REGION**, in whatever order. 'chks': what the kernel reckons. -/
theorem region_ok {Q : Exit → Act → World → Prop} {id : Nat} {draw : Bool} (m : Nat) (items : List Item) (hm : P.follows .mixedOrders = true) (hst : Stable items)
    (hk : ∀ vs w, (chk l items m N draw, guardsOk l vs l items L, wlRes P vs w l items L) = (true, true, wlExp vs w l items))
    (hp : Prem P w0 (msks l []) items l items 0 (fun _ => L))
    (hend : ∀ vs lo hi w, AllUp (if draw then { w0 with drawn := w0.drawn + 1 } else w0) w0 items vs lo hi w → Rest P N l.toArray Q (l.drop m) (envOf vs (l.take m) items L) w) :
    ∀ a, Fr a N L → (Code.region id l.toArray draw).wp P Q a w0 := by
  intro a hL
  have hc : chk l items m N draw = true := congrArg (·.1) (hk (fun _ => undef) w0)
  have hg : ∀ vs, guardsOk l vs l items L = true := fun vs => congrArg (·.2.1) (hk vs w0)
  have hw : ∀ vs w, wlRes P vs w l items L = wlExp vs w l items := fun vs w => congrArg (·.2.2) (hk vs w)
  cases draw with
  | false =>
    simp only [Bool.false_eq_true, if_false] at hend
    have := front_text hc hst hg hw hp hL hend m 0 (by omega) a w0 _ _ _ ((Inv.start hL (Below.refl _ _)).congr fun i => by simp)
    refine wp_region ?_
    rw [List.range_eq_range']
    simpa using this
  | true =>
    simp only [if_true] at hend
    refine wp_region_any hm ?_
    have hfalse : ∀ j, (Array.replicate l.length false).getD j false = true ↔ False := by
      intro j
      simp only [Array.getD_eq_getD_getElem?, Array.getElem?_replicate]
      split <;> simp
    have h := front_any hc hst hg hw hp hL hend l.length (Array.replicate l.length false) a { w0 with drawn := w0.drawn + 1 } (fun _ => undef) (fun _ => 0) (fun _ => 0) (by simp) (by simp) (fun j hj => ((hfalse j).1 hj).elim)
      ((Inv.start (w0 := w0) (ws := { w0 with drawn := w0.drawn + 1 }) hL ⟨rfl, rfl, rfl, Nat.le_refl _, fun _ _ => rfl⟩).congr fun i => (hfalse i).symm)
    simpa using h

end

end Go.Proofs.Ytjefeigdapcleaa
