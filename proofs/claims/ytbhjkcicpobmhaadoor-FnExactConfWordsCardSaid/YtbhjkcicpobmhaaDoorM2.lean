/-
  The machine, second part: its values, what it knows of memory, and what that means.
-/
import Derived.Test.YtbhjkcicpobmhaaDoorM1
namespace Go.Proofs.YtbhjkcicpobmhaaDoor
open Go.RowKit

/-- values of the machine: known ones; value j of item id; the pointer of item id, off cells on; rows of cells; tuples; closures -/
inductive AV where
  | v (x : Value)
  | h (id j : Nat)
  | p (id off : Nat)
  | ag (cs : List AV)
  | tu (vs : List AV)
  | cl (f : FuncId) (cap : List AV)
  deriving Inhabited

def padd : Value → Nat → Value
  | .pointer (some a), n => .pointer (some ⟨a.block, a.off + n, none⟩)
  | v, _ => v

mutual
def val (β : Nat → Nat → Value) : AV → Value
  | .v x => x
  | .h id j => β id j
  | .p id off => padd (β id 0) off
  | .ag cs => .agg (vals β cs).toArray
  | .tu vs => .tuple (vals β vs).toArray
  | .cl f cap => .func (.func f) #[] (vals β cap).toArray
def vals (β : Nat → Nat → Value) : List AV → List Value
  | [] => []
  | a :: as => val β a :: vals β as
end

mutual
/-- its items are known -/
def AV.wf (dom : Nat → Prop) : AV → Prop
  | .v _ => True
  | .h id _ => dom id
  | .p id _ => dom id
  | .ag cs => AVs.wf dom cs
  | .tu vs => AVs.wf dom vs
  | .cl _ cap => AVs.wf dom cap
def AVs.wf (dom : Nat → Prop) : List AV → Prop
  | [] => True
  | a :: as => a.wf dom ∧ AVs.wf dom as
end

mutual
theorem val_congr {β β' : Nat → Nat → Value} {dom : Nat → Prop} (h : ∀ id, dom id → β' id = β id) : ∀ (a : AV), a.wf dom → val β' a = val β a
  | .v _, _ => rfl
  | .h id j, hw => by simp only [val]; rw [h id hw]
  | .p id off, hw => by simp only [val]; rw [h id hw]
  | .ag cs, hw => by simp only [val]; rw [vals_congr h cs hw]
  | .tu cs, hw => by simp only [val]; rw [vals_congr h cs hw]
  | .cl f cs, hw => by simp only [val]; rw [vals_congr h cs hw]
theorem vals_congr {β β' : Nat → Nat → Value} {dom : Nat → Prop} (h : ∀ id, dom id → β' id = β id) : ∀ (as : List AV), AVs.wf dom as → vals β' as = vals β as
  | [], _ => rfl
  | a :: as, hw => by simp only [vals]; rw [val_congr h a hw.1, vals_congr h as hw.2]
end

mutual
theorem AV.wf_mono {dom dom' : Nat → Prop} (h : ∀ id, dom id → dom' id) : ∀ (a : AV), a.wf dom → a.wf dom'
  | .v _, _ => trivial
  | .h id _, hw => h id hw
  | .p id _, hw => h id hw
  | .ag cs, hw => AVs.wf_mono h cs hw
  | .tu cs, hw => AVs.wf_mono h cs hw
  | .cl _ cs, hw => AVs.wf_mono h cs hw
theorem AVs.wf_mono {dom dom' : Nat → Prop} (h : ∀ id, dom id → dom' id) : ∀ (as : List AV), AVs.wf dom as → AVs.wf dom' as
  | [], _ => trivial
  | a :: as, hw => ⟨AV.wf_mono h a hw.1, AVs.wf_mono h as hw.2⟩
end

theorem vals_len (β : Nat → Nat → Value) : ∀ as : List AV, (vals β as).length = as.length
  | [] => rfl
  | _ :: as => by simp [vals, vals_len β as]
theorem vals_map (β : Nat → Nat → Value) : ∀ as : List AV, vals β as = as.map (val β)
  | [] => rfl
  | a :: as => by simp [vals, vals_map β as]
theorem vals_app (β : Nat → Nat → Value) (as bs : List AV) : vals β (as ++ bs) = vals β as ++ vals β bs := by simp [vals_map]
theorem vals_take (β : Nat → Nat → Value) (n : Nat) (as : List AV) : vals β (as.take n) = (vals β as).take n := by simp [vals_map, List.map_take]
theorem vals_drop (β : Nat → Nat → Value) (n : Nat) (as : List AV) : vals β (as.drop n) = (vals β as).drop n := by simp [vals_map, List.map_drop]
theorem AVs.wf_iff {dom : Nat → Prop} : ∀ {as : List AV}, AVs.wf dom as ↔ ∀ a ∈ as, a.wf dom
  | [] => by simp [AVs.wf]
  | a :: as => by simp [AVs.wf, AVs.wf_iff (as := as)]
theorem AVs.wf_app {dom : Nat → Prop} {as bs : List AV} (h : AVs.wf dom as) (h' : AVs.wf dom bs) : AVs.wf dom (as ++ bs) := by
  rw [AVs.wf_iff] at *
  intro a ha
  rcases List.mem_append.1 ha with ha | ha
  · exact h a ha
  · exact h' a ha
theorem AVs.wf_take {dom : Nat → Prop} {as : List AV} (n : Nat) (h : AVs.wf dom as) : AVs.wf dom (as.take n) := AVs.wf_iff.2 fun a ha => AVs.wf_iff.1 h a (List.mem_of_mem_take ha)
theorem AVs.wf_drop {dom : Nat → Prop} {as : List AV} (n : Nat) (h : AVs.wf dom as) : AVs.wf dom (as.drop n) := AVs.wf_iff.2 fun a ha => AVs.wf_iff.1 h a (List.mem_of_mem_drop ha)
theorem AVs.wf_v {dom : Nat → Prop} (vs : List Value) : AVs.wf dom (vs.map .v) := AVs.wf_iff.2 fun a ha => by
  obtain ⟨v, _, rfl⟩ := List.mem_map.1 ha; exact trivial
theorem vals_v (β : Nat → Nat → Value) (vs : List Value) : vals β (vs.map .v) = vs := by
  rw [vals_map, List.map_map]
  have : (val β ∘ AV.v) = id := funext fun _ => rfl
  rw [this, List.map_id]

/-- a value of one cell -/
def AV.one : AV → Bool
  | .v x => x.oneCell'
  | .h _ _ => true
  | .p _ _ => true
  | .cl _ _ => true
  | _ => false

theorem padd_one {v : Value} (h : v.oneCell' = true) (n : Nat) : (padd v n).oneCell' = true := by
  unfold padd; split
  · rfl
  · exact h
theorem AV.one_val {β : Nat → Nat → Value} {dom : Nat → Prop} (h1 : ∀ id, dom id → ∀ j, (β id j).oneCell' = true) {a : AV} (h : a.one = true) (hw : a.wf dom) : (val β a).oneCell' = true := by
  cases a with
  | v x => exact h
  | h id j => exact h1 id hw j
  | p id off => exact padd_one (h1 id hw 0) off
  | cl f cap => rfl
  | ag cs => cases h
  | tu vs => cases h
theorem vals_one {β : Nat → Nat → Value} {dom : Nat → Prop} (h1 : ∀ id, dom id → ∀ j, (β id j).oneCell' = true) {as : List AV} (h : as.all AV.one = true) (hw : AVs.wf dom as) : ((vals β as).all fun v => v.oneCell') = true := by
  rw [vals_map, List.all_map, List.all_eq_true]
  intro a ha
  exact AV.one_val h1 (List.all_eq_true.1 h a ha) (AVs.wf_iff.1 hw a ha)

/-- the cells of a value -/
def AV.cells : AV → List AV
  | .ag cs => cs
  | .v (.agg cs) => cs.toList.map .v
  | a => [a]
theorem cells_one {v : Value} (h : v.oneCell' = true) : v.cells.toList = [v] := by
  cases v <;> first | rfl | (simp [Value.oneCell'] at h)
theorem AV.cells_val {β : Nat → Nat → Value} {dom : Nat → Prop} (h1 : ∀ id, dom id → ∀ j, (β id j).oneCell' = true) {a : AV} (hw : a.wf dom) : (val β a).cells.toList = vals β a.cells := by
  cases a with
  | v x => cases x <;> first | rfl | (simp [AV.cells, val, Value.cells, vals_v])
  | h id j => simp only [val, AV.cells, vals]; exact cells_one (h1 id hw j)
  | p id off => simp only [val, AV.cells, vals]; exact cells_one (padd_one (h1 id hw 0) off)
  | cl f cap => simp [val, AV.cells, vals, Value.cells]
  | ag cs => simp [val, AV.cells, Value.cells]
  | tu vs => simp [val, AV.cells, vals, Value.cells]
theorem AV.cells_wf {dom : Nat → Prop} {a : AV} (hw : a.wf dom) : AVs.wf dom a.cells := by
  cases a with
  | v x => cases x <;> first | exact ⟨trivial, trivial⟩ | exact AVs.wf_v _
  | h id j => exact ⟨hw, trivial⟩
  | p id off => exact ⟨hw, trivial⟩
  | cl f cap => exact ⟨hw, trivial⟩
  | ag cs => exact hw
  | tu vs => exact ⟨hw, trivial⟩

/-! ### What is known of memory -/

/-- an argument that is only read: a cell, or a row of cells -/
inductive RA : Type 1 where
  | c (d : Dat)
  | g (ds : List Dat)

/-- what a function value does: called with arguments that read as 'arg i', it gives 'res i' and changes nothing that was there -/
structure FnSpec : Type 1 where
  ι : Type
  arg : ι → List RA
  res : ι → Value

inductive Fact : Type 1 where
  /-- a variable: its cells -/
  | box (T : TypeId) (cs : List AV)
  /-- a slice of its own memory, in state V -/
  | own (V : Nat) (d : Dat)
  /-- a value that reads so, in memory that does not change, or in that of item X as long as it is in state V -/
  | shr (dep : Option (Nat × Nat)) (d : Dat)
  /-- a pointer to cells that read so (el: they are element k of the slice in slot s of item Y) -/
  | mem (dep : Option (Nat × Nat)) (el : Option (Nat × Nat × Nat)) (ds : List Dat)
  /-- a row of n elements, just made -/
  | arr (n : Nat) (cs : List AV)
  /-- a function value -/
  | fn (F : FnSpec)
  /-- the part of slice X, in state V, from place lo on (sz cells an element) -/
  | part (X V lo sz : Nat) (d : Dat)
  /-- this very value, which reads so, in memory that does not change -/
  | vl (x : Value) (d : Dat)

def Fact.mod : Fact → Bool
  | .box _ _ => true
  | .own _ _ => true
  | .arr _ _ => true
  | _ => false

def Live (fs : Nat → Option Fact) (X V : Nat) : Prop := ∃ d, fs X = some (.own V d)

/-- the cells behind a pointer -/
def bv (β : Nat → Nat → Value) (id n : Nat) : List Value := (List.range n).map fun j => β id (j + 1)

/-- a value that reads as one argument does: a cell, or a row of cells -/
def RdArg (S : Nat → Prop) (w : World) : RA → Value → Prop
  | .c d, v => RdV S w d v
  | .g ds, v => ∃ vs, v = .agg vs.toArray ∧ RdVs S w ds vs

def RdArgs (S : Nat → Prop) (w : World) : List RA → List Value → Prop
  | [], vs => vs = []
  | d :: ds, vs => ∃ u us, vs = u :: us ∧ RdArg S w d u ∧ RdArgs S w ds us

/-- a function that can be called -/
def callable (P : Program) (f : FuncId) : Bool := match P.funcs[f]? with
  | some fn => fn.body.isSome && !(fn.name == "runtime.NumGoroutine")
  | none => false

/-- a function value does so, wherever the blocks of S are as they are now -/
def FnOK (D : Bool) (P : Program) (S : Nat → Prop) (w : World) (F : FnSpec) (v : Value) : Prop :=
  ∃ f cap, v = .func (.func f) #[] cap ∧ callable P f = true ∧ ∀ (i : F.ι) (w1 : World) (S1 : Nat → Prop) (vs : List Value), (∀ b, S b → w1.heap[b]? = w.heap[b]?) → GOK S1 w1 → (∀ b, S1 b → b < w1.heap.size) → RdArgs S1 w1 (F.arg i) vs →
    Calls P f (vs.toArray ++ cap) w1 fun e w2 => e = .returned (F.res i) ∧ Bel w1.heap.size (atD D w1) w2
theorem FnOK.weak {D : Bool} {P : Program} {S : Nat → Prop} {w : World} {F : FnSpec} {v : Value} (h : FnOK D P S w F v) : FnOK false P S w F v := by
  obtain ⟨f, cap, h1, h2, h3⟩ := h
  exact ⟨f, cap, h1, h2, fun i w1 S1 vs e1 e2 e3 e4 => (h3 i w1 S1 vs e1 e2 e3 e4).mono fun e w2 ⟨h5, h6⟩ => ⟨h5, ⟨h6.os, h6.tape, h6.output, h6.size, h6.block⟩, Nat.zero_le _⟩⟩

/-- a function value as data -/
def FnX (P : Program) (F : FnSpec) : FX where
  rd S w y := FnOK false P S w F y
  ow w y fp := FnOK false P (· ∈ fp) w F y ∧ fp.Nodup ∧ ∀ b ∈ fp, b < w.heap.size
  mono S S' w w' y hs h := by
    obtain ⟨f, cap, h1, h2, h3⟩ := h
    exact ⟨f, cap, h1, h2, fun i w1 S1 vs e => h3 i w1 S1 vs fun b hb => (e b (hs b hb).1).trans (hs b hb).2⟩
  one S w y h := by
    obtain ⟨f, cap, rfl, _⟩ := h; rfl
  keep w w' y fp hk h := by
    obtain ⟨⟨f, cap, h1, h2, h3⟩, h4, h5⟩ := h
    exact ⟨⟨f, cap, h1, h2, fun i w1 S1 vs e => h3 i w1 S1 vs fun b hb => (e b hb).trans (hk b hb)⟩, h4, fun b hb => lt_of_same (h5 b hb) (hk b hb)⟩
  lt w y fp h := h.2.2
  nd w y fp h := h.2.1
  rdo w y fp h := h.1

def FactOK (P : Program) (fs : Nat → Option Fact) (β : Nat → Nat → Value) (φ : Nat → List Nat) (dom ψ : Nat → Prop) (w : World) (id : Nat) : Fact → Prop
  | .box T cs => (AVs.wf dom cs ∧ cs.all AV.one = true) ∧ ∃ b, β id 0 = .pointer (some ⟨b, 0, none⟩) ∧ Box w b T (vals β cs) ∧ φ id = [b]
  | .own V d => dom V ∧ OwV w d (β id 0) (φ id)
  | .shr none d => RdV ψ w d (β id 0)
  | .shr (some (X, V)) d => dom X ∧ dom V ∧ (Live fs X V → RdV (· ∈ φ X) w d (β id 0))
  | .mem none _ ds => ∃ b o, β id 0 = .pointer (some ⟨b, o, none⟩) ∧ ψ b ∧ Has w b o (bv β id ds.length) ∧ RdVs ψ w ds (bv β id ds.length)
  | .mem (some (X, V)) el ds => dom X ∧ dom V ∧ (Live fs X V → (∃ b o, β id 0 = .pointer (some ⟨b, o, none⟩) ∧ b ∈ φ X ∧ Has w b o (bv β id ds.length) ∧ RdVs (· ∈ φ X) w ds (bv β id ds.length)) ∧
      ∀ Y s k, el = some (Y, s, k) → dom Y ∧ ∃ b o n c, β Y s = .slice (some ⟨b, o, none⟩) n c ∧ β id 0 = .pointer (some ⟨b, o + k * ds.length, none⟩) ∧ k < n)
  | .arr n cs => (AVs.wf dom cs ∧ cs.all AV.one = true) ∧ ∃ b T, β id 0 = .slice (some ⟨b, 0, none⟩) n n ∧ Box w b T (vals β cs) ∧ φ id = [b]
  | .fn F => FnOK false P ψ w F (β id 0)
  | .vl x d => β id 0 = x ∧ RdV ψ w d x
  | .part X V lo sz d => dom X ∧ dom V ∧ (Live fs X V → RdV (· ∈ φ X) w d (β id 0) ∧ ∃ (a : Option Addr) (n c m : Nat), β X 0 = .slice a n c ∧ lo + m ≤ n ∧ n ≤ c ∧ β id 0 = .slice (if c = lo then a else a.map (·.add (lo * sz))) m (c - lo))

/-- the machine's knowledge holds: since w0, nothing but the blocks of IN and new ones has changed -/
structure Rel (P : Program) (fs : Nat → Option Fact) (β : Nat → Nat → Value) (φ : Nat → List Nat) (dom ψ IN : Nat → Prop) (w0 w : World) : Prop where
  ok : ∀ id f, fs id = some f → dom id ∧ FactOK P fs β φ dom ψ w id f
  dis : ∀ i j f g, fs i = some f → fs j = some g → f.mod = true → g.mod = true → i ≠ j → ∀ b ∈ φ i, b ∉ φ j
  lt : ∀ id f, fs id = some f → f.mod = true → ∀ b ∈ φ id, b < w.heap.size ∧ (w0.heap.size ≤ b ∨ IN b) ∧ ¬ ψ b
  psi : ∀ b, ψ b → b < w.heap.size
  all1 : ∀ id j, (β id j).oneCell' = true
  chg : Chg IN w0 w
  glo : GOK ψ w

theorem Rel.one {P : Program} {fs : Nat → Option Fact} {β : Nat → Nat → Value} {φ : Nat → List Nat} {dom ψ IN : Nat → Prop} {w0 w : World} (R : Rel P fs β φ dom ψ IN w0 w) : ∀ id, dom id → ∀ j, (β id j).oneCell' = true := fun id _ j => R.all1 id j

section
variable {P : Program} {fs fs' : Nat → Option Fact} {β β' : Nat → Nat → Value} {φ φ' : Nat → List Nat} {dom dom' ψ IN : Nat → Prop} {w0 w w' : World}

theorem bv_congr {id n : Nat} (h : β' id = β id) : bv β' id n = bv β id n := by unfold bv; rw [h]

/-- what the machine knows, behind a change: the items of NN are new or other ones; the blocks of C have changed -/
theorem Rel.step0 (R : Rel P fs β φ dom ψ IN w0 w) (NN : Nat → Prop) (C : Nat → Prop) (hc : Chg0 C w w') (hd0 : w0.drawn ≤ w'.drawn) (hd : ∀ id, dom id → dom' id ∧ β' id = β id) (hone : ∀ id j, (β' id j).oneCell' = true)
    (hfs : ∀ id f, fs' id = some f → NN id ∨ fs id = some f) (hphi : ∀ id, ¬ NN id → φ' id = φ id)
    (hC : ∀ b, b < w.heap.size → C b → ∃ X g, NN X ∧ fs X = some g ∧ g.mod = true ∧ b ∈ φ X)
    (hnew : ∀ id f, NN id → fs' id = some f → dom' id ∧ FactOK P fs' β' φ' dom' ψ w' id f)
    (hV : ∀ id V d, NN id → fs' id = some (.own V d) → ¬ dom V)
    (hb : ∀ id f, NN id → fs' id = some f → f.mod = true → ∀ b ∈ φ' id, b < w'.heap.size ∧ (w.heap.size ≤ b ∨ ∃ X g, NN X ∧ fs X = some g ∧ g.mod = true ∧ b ∈ φ X))
    (hdis : ∀ i j f g, NN i → NN j → fs' i = some f → fs' j = some g → f.mod = true → g.mod = true → i ≠ j → ∀ b ∈ φ' i, b ∉ φ' j) :
    Rel P fs' β' φ' dom' ψ IN w0 w' := by
  have hpsi : ∀ b, ψ b → w'.heap[b]? = w.heap[b]? := by
    intro b hb
    refine hc.block b (R.psi b hb) fun hcb => ?_
    obtain ⟨X, g, _, h2, h3, h4⟩ := hC b (R.psi b hb) hcb
    exact (R.lt X g h2 h3 b h4).2.2 hb
  have hkeep : ∀ id f, ¬ NN id → fs id = some f → f.mod = true → ∀ b ∈ φ id, w'.heap[b]? = w.heap[b]? := by
    intro id f hn hf hm b hb
    have hlt := (R.lt id f hf hm b hb).1
    refine hc.block b hlt fun hcb => ?_
    obtain ⟨X, g, h1, h2, h3, h4⟩ := hC b hlt hcb
    exact R.dis id X f g hf h2 hm h3 (fun e => hn (e ▸ h1)) b hb h4
  have hlive : ∀ X V, dom X → dom V → Live fs' X V → ¬ NN X ∧ Live fs X V := by
    rintro X V hX hV' ⟨d, hd'⟩
    have hn : ¬ NN X := fun hn => hV X V d hn hd' hV'
    rcases hfs X _ hd' with h | h
    · exact absurd h hn
    · exact ⟨hn, d, h⟩
  have hkX : ∀ X V, ¬ NN X → Live fs X V → (φ' X = φ X ∧ ∀ b ∈ φ X, w'.heap[b]? = w.heap[b]?) := by
    rintro X V hn ⟨d, hd'⟩
    exact ⟨hphi X hn, hkeep X _ hn hd' rfl⟩
  -- what is as it was
  have hold : ∀ id f, ¬ NN id → fs id = some f → dom' id ∧ FactOK P fs' β' φ' dom' ψ w' id f := by
    intro id f hn hf
    obtain ⟨h1, h2⟩ := R.ok id f hf
    obtain ⟨hd1, hd2⟩ := hd id h1
    refine ⟨hd1, ?_⟩
    have hws : ∀ cs : List AV, AVs.wf dom cs → vals β' cs = vals β cs := fun cs h => vals_congr (fun i hi => (hd i hi).2) cs h
    have hwm : ∀ cs : List AV, AVs.wf dom cs → AVs.wf dom' cs := fun cs h => AVs.wf_mono (fun i hi => (hd i hi).1) cs h
    cases f with
    | box T cs =>
      obtain ⟨⟨g0, g0'⟩, b, g1, g2, g3⟩ := h2
      exact ⟨⟨hwm cs g0, g0'⟩, b, by rw [hd2]; exact g1, by rw [hws cs g0]; exact g2.congr (hkeep id _ hn hf rfl b (by rw [g3]; exact List.mem_cons_self)), by rw [hphi id hn]; exact g3⟩
    | own V d =>
      refine ⟨(hd V h2.1).1, ?_⟩
      rw [hd2, hphi id hn]
      exact OwV.keep d _ _ (hkeep id _ hn hf rfl) h2.2
    | shr dep d =>
      cases dep with
      | none => 
        show RdV ψ w' d (β' id 0)
        rw [hd2]
        exact RdV.mono (fun b hb => ⟨hb, hpsi b hb⟩) d _ h2
      | some XV =>
        obtain ⟨X, V⟩ := XV
        obtain ⟨g1, g2, g3⟩ := h2
        refine ⟨(hd X g1).1, (hd V g2).1, fun hl => ?_⟩
        obtain ⟨hnX, hl'⟩ := hlive X V g1 g2 hl
        obtain ⟨k1, k2⟩ := hkX X V hnX hl'
        rw [hd2, k1]
        exact RdV.mono (fun b hb => ⟨hb, k2 b hb⟩) d _ (g3 hl')
    | mem dep k ds =>
      cases dep with
      | none =>
        obtain ⟨b, o, g1, g2, g3, g4⟩ := h2
        refine ⟨b, o, by rw [hd2]; exact g1, g2, ?_, ?_⟩
        · rw [bv_congr hd2]; exact g3.congr (hpsi b g2)
        · rw [bv_congr hd2]; exact RdVs.mono (fun b hb => ⟨hb, hpsi b hb⟩) ds _ g4
      | some XV =>
        obtain ⟨X, V⟩ := XV
        obtain ⟨g1, g2, g3⟩ := h2
        refine ⟨(hd X g1).1, (hd V g2).1, fun hl => ?_⟩
        obtain ⟨hnX, hl'⟩ := hlive X V g1 g2 hl
        obtain ⟨k1, k2⟩ := hkX X V hnX hl'
        obtain ⟨⟨b, o, m2, m4, m5, m6⟩, m7⟩ := g3 hl'
        refine ⟨⟨b, o, by rw [hd2]; exact m2, by rw [k1]; exact m4, ?_, ?_⟩, ?_⟩
        · rw [bv_congr hd2]; exact m5.congr (k2 b m4)
        · rw [bv_congr hd2, k1]; exact RdVs.mono (fun b hb => ⟨hb, k2 b hb⟩) ds _ m6
        · intro Y s k e
          obtain ⟨y1, y2⟩ := m7 Y s k e
          exact ⟨(hd Y y1).1, by rw [(hd Y y1).2, hd2]; exact y2⟩
    | arr n cs =>
      obtain ⟨⟨g0, g0'⟩, b, T, g1, g2, g3⟩ := h2
      exact ⟨⟨hwm cs g0, g0'⟩, b, T, by rw [hd2]; exact g1, by rw [hws cs g0]; exact g2.congr (hkeep id _ hn hf rfl b (by rw [g3]; exact List.mem_cons_self)), by rw [hphi id hn]; exact g3⟩
    | fn F =>
      obtain ⟨f, cap, g1, gc, g2⟩ := h2
      exact ⟨f, cap, by rw [hd2]; exact g1, gc, fun i w1 S1 vs e1 => g2 i w1 S1 vs (fun b hb => (e1 b hb).trans (hpsi b hb))⟩
    | vl x d => exact ⟨by rw [hd2]; exact h2.1, RdV.mono (fun b hb => ⟨hb, hpsi b hb⟩) d _ h2.2⟩
    | part X V lo sz d =>
      obtain ⟨g1, g2, g3⟩ := h2
      refine ⟨(hd X g1).1, (hd V g2).1, fun hl => ?_⟩
      obtain ⟨hnX, hl'⟩ := hlive X V g1 g2 hl
      obtain ⟨k1, k2⟩ := hkX X V hnX hl'
      obtain ⟨m1, m2⟩ := g3 hl'
      rw [hd2, k1, (hd X g1).2]
      exact ⟨RdV.mono (fun b hb => ⟨hb, k2 b hb⟩) d _ m1, m2⟩
  have hltn : ∀ id f, fs' id = some f → f.mod = true → ∀ b ∈ φ' id, b < w'.heap.size ∧ (w0.heap.size ≤ b ∨ IN b) ∧ ¬ ψ b := by
    intro id f hf hm b hb'
    by_cases hn : NN id
    · obtain ⟨h1, h2⟩ := hb id f hn hf hm b hb'
      refine ⟨h1, ?_⟩
      rcases h2 with h2 | ⟨X, g, _, h3, h4, h5⟩
      · exact ⟨.inl (Nat.le_trans R.chg.size h2), fun hp => by have := R.psi b hp; omega⟩
      · exact (R.lt X g h3 h4 b h5).2
    · rcases hfs id f hf with h | h
      · exact absurd h hn
      · rw [hphi id hn] at hb'
        obtain ⟨h1, h2⟩ := R.lt id f h hm b hb'
        exact ⟨Nat.lt_of_lt_of_le h1 hc.size, h2⟩
  -- new ones apart from old ones
  have hno : ∀ i j f g, NN i → ¬ NN j → fs' i = some f → fs j = some g → f.mod = true → g.mod = true → ∀ b ∈ φ' i, b ∉ φ j := by
    intro i j f g hi hj hf hg hmf hmg b hb1 hb2
    obtain ⟨_, h2⟩ := hb i f hi hf hmf b hb1
    rcases h2 with h2 | ⟨X, g', h3, h4, h5, h6⟩
    · have := (R.lt j g hg hmg b hb2).1; omega
    · exact R.dis X j g' g h4 hg h5 hmg (fun e => hj (e ▸ h3)) b h6 hb2
  refine ⟨fun id f hf => ?_, fun i j f g hf hg hmf hmg hne b hbi hbj => ?_, hltn, fun b hb => Nat.lt_of_lt_of_le (R.psi b hb) hc.size, hone, ?_, R.glo.keep fun b hb => ⟨hb, hpsi b hb⟩⟩
  · by_cases hn : NN id
    · exact hnew id f hn hf
    · rcases hfs id f hf with h | h
      · exact absurd h hn
      · exact hold id f hn h
  · by_cases hi : NN i
    · by_cases hj : NN j
      · exact hdis i j f g hi hj hf hg hmf hmg hne b hbi hbj
      · rcases hfs j g hg with h | h
        · exact hj h
        · rw [hphi j hj] at hbj
          exact hno i j f g hi hj hf h hmf hmg b hbi hbj
    · rcases hfs i f hf with h | h
      · exact hi h
      · rw [hphi i hi] at hbi
        by_cases hj : NN j
        · exact hno j i g f hj hi hg h hmg hmf b hbj hbi
        · rcases hfs j g hg with h' | h'
          · exact hj h'
          · rw [hphi j hj] at hbj
            exact R.dis i j f g h h' hmf hmg hne b hbi hbj
  · refine ⟨hc.os.trans R.chg.os, hc.tape.trans R.chg.tape, hc.output.trans R.chg.output, Nat.le_trans R.chg.size hc.size, fun k hk hn => ?_, hd0⟩
    have hk' := Nat.lt_of_lt_of_le hk R.chg.size
    rw [hc.block k hk' fun hck => ?_, R.chg.block k hk hn]
    obtain ⟨X, g, _, h2, h3, h4⟩ := hC k hk' hck
    rcases (R.lt X g h2 h3 k h4).2.1 with h | h
    · omega
    · exact hn h
theorem Rel.step (R : Rel P fs β φ dom ψ IN w0 w) (NN : Nat → Prop) (C : Nat → Prop) (hc : Chg C w w') (hd : ∀ id, dom id → dom' id ∧ β' id = β id) (hone : ∀ id j, (β' id j).oneCell' = true)
    (hfs : ∀ id f, fs' id = some f → NN id ∨ fs id = some f) (hphi : ∀ id, ¬ NN id → φ' id = φ id)
    (hC : ∀ b, b < w.heap.size → C b → ∃ X g, NN X ∧ fs X = some g ∧ g.mod = true ∧ b ∈ φ X)
    (hnew : ∀ id f, NN id → fs' id = some f → dom' id ∧ FactOK P fs' β' φ' dom' ψ w' id f)
    (hV : ∀ id V d, NN id → fs' id = some (.own V d) → ¬ dom V)
    (hb : ∀ id f, NN id → fs' id = some f → f.mod = true → ∀ b ∈ φ' id, b < w'.heap.size ∧ (w.heap.size ≤ b ∨ ∃ X g, NN X ∧ fs X = some g ∧ g.mod = true ∧ b ∈ φ X))
    (hdis : ∀ i j f g, NN i → NN j → fs' i = some f → fs' j = some g → f.mod = true → g.mod = true → i ≠ j → ∀ b ∈ φ' i, b ∉ φ' j) :
    Rel P fs' β' φ' dom' ψ IN w0 w' :=
  Rel.step0 R NN C hc.z (Nat.le_trans R.chg.drawn hc.drawn) hd hone hfs hphi hC hnew hV hb hdis

end

end Go.Proofs.YtbhjkcicpobmhaaDoor
