/-
  The machine, fourteenth part: regions, in whatever order their operations come up.
-/
import Derived.Test.YtbhjkcicpobmhaaDoorMD
namespace Go.Proofs.YtbhjkcicpobmhaaDoor
open Go.RowKit
set_option linter.unusedVariables false
set_option linter.unusedSimpArgs false

/-! ### The order -/

section
variable {D : Bool} {P : Program} {l : List Oper}

/-- the text's order -/
theorem ops_text {Q : Exit → Act → World → Prop} {Inv : (Nat → Prop) → Act → World → Prop} (hext : ∀ S S' a w, (∀ i, i < l.length → (S i ↔ S' i)) → Inv S a w → Inv S' a w)
    (step : ∀ S a w i o, l[i]? = some o → (∀ k, S k ↔ k < i) → Inv S a w → wpOp P l.toArray Q i (fun a' w' => Inv (fun k => S k ∨ k = i) a' w') a w) (fin : ∀ a w, Inv (fun k => k < l.length) a w → Q .normal a w) :
    ∀ (n i : Nat), i + n = l.length → ∀ a w, Inv (fun k => k < i) a w → wpOps P l.toArray Q (List.range' i n) a w := by
  intro n
  induction n with
  | zero =>
    intro i hi a w H
    obtain rfl : i = l.length := by omega
    exact fin a w H
  | succ n ih =>
    intro i hi a w H
    have hlt : i < l.length := by omega
    rw [List.range'_succ, wpOps_cons]
    refine wpOp_mono ?_ (step _ a w i _ (List.getElem?_eq_getElem hlt) (fun k => Iff.rfl) H)
    intro a' w' H'
    exact ih (i + 1) (by omega) a' w' (hext _ _ _ _ (fun k _ => by omega) H')

/-- any order -/
theorem ops_any {Q : Exit → Act → World → Prop} {Inv : (Nat → Prop) → Act → World → Prop} (hext : ∀ S S' a w, (∀ i, i < l.length → (S i ↔ S' i)) → Inv S a w → Inv S' a w)
    (back : ∀ i o, l[i]? = some o → ∀ e ∈ o.after, Region.binds .any e = true → e.on < i)
    (step : ∀ S a w i o, l[i]? = some o → ¬ S i → (∀ e ∈ o.after, Region.binds .any e = true → S e.on) → (∀ k ok, l[k]? = some ok → S k → ∀ e ∈ ok.after, Region.binds .any e = true → S e.on) → Inv S a w → wpOp P l.toArray Q i (fun a' w' => Inv (fun k => S k ∨ k = i) a' w') a w)
    (fin : ∀ a w, Inv (fun k => k < l.length) a w → Q .normal a w) :
    ∀ (fuel : Nat) (listed : Array Bool) (a : Act) (w : World), listed.size = l.length → (listed.toList.filter (!·)).length ≤ fuel → (∀ k ok, l[k]? = some ok → listed.getD k false = true → ∀ e ∈ ok.after, Region.binds .any e = true → listed.getD e.on false = true) →
      Inv (fun k => listed.getD k false = true) a w → wpAny P .any l.toArray Q fuel listed a w := by
  have hfin : ∀ (listed : Array Bool) a w, listed.size = l.length → Region.ready .any l.toArray listed = [] → (∀ k ok, l[k]? = some ok → listed.getD k false = true → ∀ e ∈ ok.after, Region.binds .any e = true → listed.getD e.on false = true) → Inv (fun k => listed.getD k false = true) a w → Q .normal a w := by
    intro listed a w hsz hr hd H
    have hall : ∀ i, i < l.length → listed.getD i false = true := by
      intro i
      induction i using Nat.strongRecOn with
      | _ i ih =>
        intro hi
        cases hb : listed.getD i false with
        | true => rfl
        | false =>
          have : i ∈ Region.ready .any l.toArray listed := by
            refine mem_ready.2 ⟨?_, l[i], by simp, fun e he hbd => ih _ (back i _ (List.getElem?_eq_getElem hi) e he hbd) (Nat.lt_trans (back i _ (List.getElem?_eq_getElem hi) e he hbd) hi)⟩
            simp only [Array.getD_eq_getD_getElem?, Array.getElem?_eq_getElem (by omega : i < listed.size), Option.getD_some] at hb ⊢
            exact hb
          rw [hr] at this; cases this
    exact fin a w (hext _ _ _ _ (fun i hi => ⟨fun _ => hi, fun _ => hall i hi⟩) H)
  intro fuel
  induction fuel with
  | zero =>
    intro listed a w hsz hf hd H
    have hr : Region.ready .any l.toArray listed = [] := by
      refine List.eq_nil_iff_forall_not_mem.2 fun j hj => ?_
      obtain ⟨h0, o, ho, _⟩ := mem_ready.1 hj
      have hjl : j < l.length := by have := (Array.getElem?_eq_some_iff.1 ho).1; simpa using this
      have h0' : listed.toList.filter (!·) = [] := List.eq_nil_of_length_eq_zero (by omega)
      simp only [Array.getD_eq_getD_getElem?, Array.getElem?_eq_getElem (by omega : j < listed.size), Option.getD_some] at h0
      have : (listed[j]'(by omega)) ∈ listed.toList.filter (!·) := List.mem_filter.2 ⟨by simp, by simp [h0]⟩
      rw [h0'] at this; cases this
    exact ⟨hr, hfin listed a w hsz hr hd H⟩
  | succ fuel ih =>
    intro listed a w hsz hf hd H
    refine ⟨fun hr => hfin listed a w hsz hr hd H, fun i hi => ?_⟩
    obtain ⟨h0, o, ho, hpre⟩ := mem_ready.1 hi
    have ho2 : l[i]? = some o := by simpa using ho
    have hil : i < l.length := (List.getElem?_eq_some_iff.1 ho2).1
    have hi2 : listed[i]'(by omega) = false := by
      simp only [Array.getD_eq_getD_getElem?, Array.getElem?_eq_getElem (by omega : i < listed.size), Option.getD_some] at h0
      exact h0
    have hnot : ¬ listed.getD i false = true := by
      simp only [Array.getD_eq_getD_getElem?, Array.getElem?_eq_getElem (by omega : i < listed.size), Option.getD_some]
      rw [hi2]; simp
    have hgs : ∀ j, ((listed.setIfInBounds i true).getD j false = true) ↔ (listed.getD j false = true ∨ j = i) := by
      intro j
      by_cases h : j = i
      · subst h; simp [hsz, hil]
      · simp only [Array.getD_eq_getD_getElem?]
        rw [Array.getElem?_setIfInBounds_ne (Ne.symm h)]
        simp [h]
    refine wpOp_mono ?_ (step _ a w i o ho2 hnot hpre hd H)
    intro a' w' H'
    refine ih (listed.setIfInBounds i true) a' w' (by simpa using hsz) ?_ (fun k ok hok hk e he hb => ?_) (hext _ _ _ _ (fun j _ => (hgs j).symm) H')
    · have hspl : listed.toList = listed.toList.take i ++ false :: listed.toList.drop (i + 1) := by
        have hil2 : i < listed.toList.length := by simp; omega
        have := (List.take_append_drop i listed.toList).symm
        rw [List.drop_eq_getElem_cons hil2] at this
        simpa [hi2] using this
      have hset : (listed.setIfInBounds i true).toList = listed.toList.take i ++ true :: listed.toList.drop (i + 1) := by
        have hlen2 : (listed.toList.take i).length = i := by simp; omega
        rw [Array.toList_setIfInBounds]
        conv => lhs; rw [hspl]
        rw [List.set_append_right _ _ (by omega)]
        simp [hlen2]
      rw [hset]
      rw [hspl] at hf
      simp only [List.filter_append, List.length_append, List.filter_cons, Bool.not_false, if_true, List.length_cons, Bool.not_true, Bool.false_eq_true, if_false] at hf ⊢
      omega
    · rw [hgs] at hk ⊢
      rcases hk with hk | rfl
      · exact .inl (hd k ok hok hk e he hb)
      · rw [ho2] at hok; cases hok
        exact .inl (hpre e he hb)
end

/-! ### What the machine reckons -/

/-- an operation's result; it holds when what the keys say holds -/
structure RI : Type 1 where
  keys : List (Nat × Bool)
  r : OpR

def keySub (ks ks' : List (Nat × Bool)) : Bool := ks.all fun k => ks'.any fun k' => Nat.beq k.1 k'.1 && (k.2 == k'.2)

def lookS (anc : Nat → Bool) (keys : List (Nat × Bool)) (t : Nat) (init : Option AV) : Nat → List Oper → List RI → Option AV
  | k, o :: os, ri :: rs => match o.dst with
    | some d => bif Nat.beq d t then (bif anc k && keySub ri.keys keys then some ri.r.av else none) else lookS anc keys t init (k + 1) os rs
    | none => lookS anc keys t init (k + 1) os rs
  | _, _, _ => init

def setsGet : List (Nat × Option Fact) → Nat → Option (Option Fact)
  | [], _ => none
  | (i, o) :: l, id => match setsGet l id with
    | some x => some x
    | none => bif Nat.beq i id then some o else none

def lookF (anc : Nat → Bool) (keys : List (Nat × Bool)) (id : Nat) : Option Fact → Nat → List RI → Option Fact
  | acc, _, [] => acc
  | acc, k, ri :: rs => lookF anc keys id (match setsGet ri.r.sets id with
    | none => acc
    | some o => bif anc k then (bif keySub ri.keys keys then o else none) else acc) (k + 1) rs

def kap (rs : List RI) (k : Nat × Bool) : Prop := match rs[k.1]? with
  | some ri => (match ri.r.av with | .v (.bool b) => b = k.2 | _ => False)
  | none => False

def impAll : List Prop → Prop → Prop
  | [], p => p
  | c :: cs, p => c → impAll cs p

/-- the keys of an operation, by its guard -/
def gKeys (l : List Oper) (anc : Nat → Bool) (done : List RI) : Option (Nat × Bool) → Option (List (Nat × Bool))
  | none => some []
  | some (j, w) => match done[j]?, (l[j]?).bind (·.dst) with
    | some rj, some _ => (match rj.r.av with | .v (.bool _) => bif anc j then some ((j, w) :: rj.keys) else none | _ => none)
    | _, _ => none

/-- who writes a slot -/
def whoW (t : Nat) : Nat → List Oper → Option Nat
  | _, [] => none
  | k, o :: os => match o.dst with
    | some d => bif Nat.beq d t then some k else whoW t (k + 1) os
    | none => whoW t (k + 1) os

def eqV : AV → AV → AV → Option AV
  | .v (.bool c), .v (.bool a), .v (.bool b) => some (.v (.bool (bif c then a else b)))
  | _, _, _ => none

def getH {D : Bool} {P : Program} : List (Nat × Hint D P) → Nat → Hint D P
  | [], _ => .no
  | (j, h) :: l, i => bif Nat.beq j i then h else getH l i

/-- one operation of a region -/
def evI {D : Bool} (P : Program) (l : List Oper) (sl0 : Nat → Option AV) (fs0 : Nat → Option Fact) (nx : Nat) (anc : Nat → Nat → Bool) (cont : Nat → Nat → Bool) (hs : List (Nat × Hint D P)) (done : List RI) (i : Nat) (o : Oper) : Option RI :=
  match gKeys l (anc i) done o.guard with
  | some keys =>
    (match o.op with
    | .pick (.tmp c) a b => (match whoW c 0 (l.take i) with
      | some jc => (match opA (fun t => lookS (anc i) keys t (sl0 t) 0 l done) (.tmp c), opA (fun t => lookS (anc i) ((jc, true) :: keys) t (sl0 t) 0 l done) a, opA (fun t => lookS (anc i) ((jc, false) :: keys) t (sl0 t) 0 l done) b with
        | some x, some y, some z => (eqV x y z).map fun v => ⟨keys, ⟨[], v, []⟩⟩
        | _, _, _ => none)
      | none => none)
    | op => (opEv P (fun id => bif cont i id then none else lookF (anc i) keys id (fs0 id) 0 done) (fun t => lookS (anc i) keys t (sl0 t) 0 l done) (nx + stride * i) (getH hs i) op).map fun r => ⟨keys, r⟩)
  | none => none

def runI {D : Bool} (P : Program) (l : List Oper) (sl0 : Nat → Option AV) (fs0 : Nat → Option Fact) (nx : Nat) (anc : Nat → Nat → Bool) (cont : Nat → Nat → Bool) (hs : List (Nat × Hint D P)) : Nat → List Oper → List RI → Option (List RI)
  | _, [], done => some done
  | i, o :: os, done => match evI P l sl0 fs0 nx anc cont hs done i o with
    | some ri => runI P l sl0 fs0 nx anc cont hs (i + 1) os (done ++ [ri])
    | none => none

/-- the slots that an operation looks at -/
def readsOf (l : List Oper) (o : Oper) : List Tmp := opTmps o ++ (match o.guard with | some (j, _) => ((l[j]?).bind (·.dst)).toList | none => [])

def chkI (l : List Oper) (N : Nat) (anc : Nat → Nat → Bool) (cont : Nat → Nat → Bool) (i : Nat) (o : Oper) (ri : RI) : Bool :=
  dstOk N o.dst && (match o.op with | .select _ _ => false | _ => true) && (ri.r.sets.all fun p => !(cont i p.1)) &&
  (l.zipIdx.all fun (ok, k) => Nat.beq k i || (match ok.dst with
    | none => true
    | some d => (match o.dst with | some d' => !Nat.beq d d' | none => true) && (!(readsOf l o).any (fun t => Nat.beq t d) || anc i k || anc k i)))

def chkAll (l : List Oper) (N : Nat) (anc : Nat → Nat → Bool) (cont : Nat → Nat → Bool) : Nat → List Oper → List RI → Bool
  | i, o :: os, ri :: rs => chkI l N anc cont i o ri && chkAll l N anc cont (i + 1) os rs
  | _, [], [] => true
  | _, _, _ => false

/-- somebody else, in no order with number i, writes the item -/
def contB (anc : Nat → Nat → Bool) (X : List (List Nat)) (i id : Nat) : Bool := X.zipIdx.any fun (ids, j) => !(Nat.beq j i) && !(anc i j) && !(anc j i) && ids.any (Nat.beq id)

end Go.Proofs.YtbhjkcicpobmhaaDoor
