/-
  A small calculus for walking a function's code: what is known of the frame's slots (a list), one theorem for a region in whatever order its operations come up, rules for the rest of the code.
-/
import Derived.WalkKit
import Derived.Orders
namespace Go.Proofs.YtbhjkcicpobmhaaDoor
open Go.RowKit

abbrev Sl := List (Nat × Value)

def push (d : Option Tmp) (v : Value) (L : Sl) : Sl :=
  match d with
  | some d => (d, v) :: L
  | none => L

def dstOk (N : Nat) : Option Tmp → Bool
  | some d => Nat.blt d N
  | none => true

/-! ### One operation -/

/-- What one operation comes to. -/
def Out (P : Program) (R : Value → World → Prop) : Result Next → Prop
  | .ok (.value v) w => R v w
  | .ok .skip w => R undef w
  | .ok (.enter f args) w => Calls P f args w fun e w' => ∃ v, e = .returned v ∧ R v w'
  | _ => False

theorem Out.mono {P : Program} {R R' : Value → World → Prop} (h : ∀ v w, R v w → R' v w) {r : Result Next} (hr : Out P R r) : Out P R' r := by
  cases r with
  | halt x w => exact hr
  | ok n w => cases n <;> first | exact h _ _ hr | exact Calls.mono hr (fun _ _ ⟨v, e, r⟩ => ⟨v, e, h _ _ r⟩) | exact hr

theorem Out.upon {P : Program} {o : Oper} {a : Act} {next : Act → World → Prop} {Q : Exit → Act → World → Prop} {R : Value → World → Prop} {r : Result Next}
    (h : Out P R r) (hn : ∀ v w, R v w → next (a.put o.dst v) w) : o.upon P a next Q r := by
  cases r with
  | halt x w => exact h.elim
  | ok n w =>
    cases n <;> first | exact hn _ _ h | exact h.elim | skip
    exact Calls.mono h fun e w' ⟨v, he, hr⟩ => by subst he; exact hn _ _ hr

/-! ### A region -/

def msk1 (acc : List Nat) (o : Oper) : Nat := o.after.toList.foldl (fun s e => bif Region.binds .any e then s ||| 2 ^ e.on ||| acc.getD e.on 0 else s) 0

def msks : List Oper → List Nat → List Nat
  | [], acc => acc
  | o :: r, acc => msks r (acc ++ [msk1 acc o])

def opTmps (o : Oper) : List Tmp := o.op.operands.toList.filterMap fun | .tmp t => some t | _ => none

/-! The proof. -/

theorem msk1_bit (acc : List Nat) (j : Nat) : ∀ (es : List Edge) (s : Nat),
    (es.foldl (fun s e => bif Region.binds .any e then s ||| 2 ^ e.on ||| acc.getD e.on 0 else s) s).testBit j = true →
    s.testBit j = true ∨ ∃ e ∈ es, Region.binds .any e = true ∧ (e.on = j ∨ (acc.getD e.on 0).testBit j = true)
  | [], s, h => .inl h
  | e :: es, s, h => by
    simp only [List.foldl_cons] at h
    rcases msk1_bit acc j es _ h with h | ⟨e', he', hb, h⟩
    · cases hb : Region.binds .any e with
      | false => simp only [hb, cond_false] at h; exact .inl h
      | true =>
        simp only [hb, cond_true, Nat.testBit_or, Bool.or_eq_true, Nat.testBit_two_pow, decide_eq_true_eq] at h
        rcases h with (h | h) | h
        · exact .inl h
        · exact .inr ⟨e, List.mem_cons_self, hb, .inl h⟩
        · exact .inr ⟨e, List.mem_cons_self, hb, .inr h⟩
    · exact .inr ⟨e', List.mem_cons_of_mem _ he', hb, h⟩

theorem msks_spec : ∀ (l : List Oper) (acc : List Nat),
    (msks l acc).take acc.length = acc ∧ ∀ i o, l[i]? = some o → (msks l acc).getD (acc.length + i) 0 = msk1 ((msks l acc).take (acc.length + i)) o
  | [], acc => ⟨by simp [msks], fun i o h => by simp at h⟩
  | o :: r, acc => by
    obtain ⟨h1, h2⟩ := msks_spec r (acc ++ [msk1 acc o])
    simp only [List.length_append, List.length_cons, List.length_nil, Nat.zero_add] at h1 h2
    have h0 : (msks (o :: r) acc) = msks r (acc ++ [msk1 acc o]) := rfl
    have ht : (msks r (acc ++ [msk1 acc o])).take acc.length = acc := by
      have := congrArg (List.take acc.length) h1
      rw [List.take_take] at this
      simpa using this
    refine ⟨by rw [h0]; exact ht, fun i o' ho => ?_⟩
    rw [h0]
    cases i with
    | zero =>
      simp only [List.getElem?_cons_zero, Option.some.injEq] at ho
      subst ho
      rw [Nat.add_zero, ht]
      have := congrArg (fun x : List Nat => x[acc.length]?) h1
      simp only [List.getElem?_take, Nat.lt_succ_self, if_true, List.getElem?_append_right (Nat.le_refl _), Nat.sub_self, List.getElem?_cons_zero] at this
      simp only [List.getD, this, Option.getD_some]
    | succ i =>
      have := h2 i o' (by simpa using ho)
      rwa [show acc.length + 1 + i = acc.length + (i + 1) from by omega] at this

theorem mask_closed {l : List Oper} {SS : Nat → Prop} {m : Nat} (back : ∀ i o, l[i]? = some o → i < m → ∀ e ∈ o.after, Region.binds .any e = true → e.on < i)
    (down : ∀ i o, l[i]? = some o → SS i → ∀ e ∈ o.after, Region.binds .any e = true → SS e.on) :
    ∀ (i : Nat) (o : Oper), i < m → l[i]? = some o → (∀ e ∈ o.after, Region.binds .any e = true → SS e.on) → ∀ j, ((msks l []).getD i 0).testBit j = true → SS j := by
  intro i
  induction i using Nat.strongRecOn with
  | _ i ih =>
    intro o hm ho hpre j hj
    obtain ⟨_, h2⟩ := msks_spec l []
    have := h2 i o ho
    simp only [List.length_nil, Nat.zero_add] at this
    rw [this] at hj
    rcases msk1_bit _ j _ 0 hj with h | ⟨e, he, hb, h⟩
    · simp at h
    · have hmem : e ∈ o.after := by simpa using he
      have hlt := back i o ho hm e hmem hb
      have hS := hpre e hmem hb
      rcases h with h | h
      · exact h ▸ hS
      · have hg : ((msks l []).take i).getD e.on 0 = (msks l []).getD e.on 0 := by
          simp [List.getD, hlt]
        rw [hg] at h
        have hl : e.on < l.length := Nat.lt_trans hlt (List.getElem?_eq_some_iff.1 ho).1
        exact ih e.on hlt _ (Nat.lt_trans hlt hm) (List.getElem?_eq_getElem hl) (down e.on _ (List.getElem?_eq_getElem hl) hS) j h

section
variable {P : Program} {l : List Oper} {items : List Item} {m N : Nat} {ws w0 : World} {a0 : Act} {L : Sl}

end

end Go.Proofs.YtbhjkcicpobmhaaDoor
