/-
  The calculus, second part: rules for the code around regions; what single operations come to; blocks whose content is known.
-/
import Derived.Test.YtbhjkcicpobmhaaDoorK1
import Derived.Deep.LoopGhost
namespace Go.Proofs.YtbhjkcicpobmhaaDoor
open Go.RowKit

section
variable {P : Program} {N : Nat} {Q : Exit → Act → World → Prop} {L : Sl} {w : World}

end

/-! ### Entering and leaving a function -/

/-! ### What is in memory -/

/-- the cells cs lie at offset o of block b -/
def Has (w : World) (b o : Nat) (cs : List Value) : Prop := ∀ j v, cs[j]? = some v → w.cell? ⟨b, o + j, none⟩ = some v

/-- block b is a row of cells that is known whole, and may be written -/
def Box (w : World) (b : Nat) (T : TypeId) (cs : List Value) : Prop := w.heap[b]? = some (.cells cs.toArray T (0, 0))

theorem Box.has {w : World} {b : Nat} {T : TypeId} {cs : List Value} (h : Box w b T cs) (o : Nat) (cs' : List Value) (hs : (cs.drop o).take cs'.length = cs') : Has w b o cs' := by
  intro j v hj
  have : cs[o + j]? = some v := by
    rw [← hs, List.getElem?_take] at hj
    split at hj
    · simpa using hj
    · cases hj
  have hb : w.heap[b]? = some (.cells cs.toArray T (0, 0)) := h
  simp [World.cell?, hb, this]

theorem Box.lt {w : World} {b : Nat} {T : TypeId} {cs : List Value} (h : Box w b T cs) : b < w.heap.size := by
  rcases Nat.lt_or_ge b w.heap.size with h' | h'
  · exact h'
  · unfold Box at h; rw [Array.getElem?_eq_none h'] at h; cases h

/-! ### Single operations -/

/-- is a value of the type an aggregate? -/
def aggOf (P : Program) (T : TypeId) : Option Bool :=
  match P.underlying T with
  | some (.struct _) | some (.array _ _) => some true
  | some _ => some false
  | none => none

theorem run_isAgg {P : Program} {T : TypeId} {b : Bool} (h : aggOf P T = some b) (w : World) : (isAgg T).run P w = .ok b w := by
  unfold aggOf at h
  cases hu : P.underlying T with
  | none => rw [hu] at h; cases h
  | some d =>
    rw [hu] at h
    cases d <;> simp only [Option.some.injEq] at h <;> subst h <;> simp [isAgg, underlying, hu]

theorem addr_add (b o n : Nat) : (⟨b, o, none⟩ : Addr).add n = ⟨b, o + n, none⟩ := by
  unfold Addr.add
  split
  · rename_i h; subst h; rfl
  · rfl

theorem run_loadCellsFrom {P : Program} {w : World} {b o : Nat} {cs : List Value} (h : Has w b o cs) : ∀ (n i : Nat) (acc : Array Value), i + n = cs.length → acc.toList = cs.take i →
    (loadCellsFrom ⟨b, o, none⟩ i n acc).run P w = .ok cs.toArray w
  | 0, i, acc, hi, ha => by
    have : acc = cs.toArray := by
      have h1 : acc.toList = cs := by rw [ha, List.take_of_length_le (by omega)]
      rw [← h1]
    simp [loadCellsFrom, this]
  | n + 1, i, acc, hi, ha => by
    have hlt : i < cs.length := by omega
    have hc := h i cs[i] (List.getElem?_eq_getElem hlt)
    simp only [loadCellsFrom, Sem.run_bind, run_load, addr_add, hc, Result.andThen_ok]
    refine run_loadCellsFrom h n (i + 1) _ (by omega) ?_
    rw [List.take_succ_eq_append_getElem hlt, ← ha]
    simp

theorem run_loadA {P : Program} {w : World} {T : TypeId} {b o : Nat} {cs : List Value} (hT : aggOf P T = some true) (hs : (P.info? T).map (·.size) = some cs.length) (h : Has w b o cs) :
    (loadVar T ⟨b, o, none⟩).run P w = .ok (.agg cs.toArray) w := by
  obtain ⟨inf, hi, hsz⟩ := Option.map_eq_some_iff.1 hs
  simp only [loadVar, Sem.run_bind, run_isAgg hT, Result.andThen_ok, if_true, loadCells, sizeOf, typeInfo, run_program, hi]
  simp only [Sem.run_pure, Result.andThen_ok, hsz]
  rw [run_loadCellsFrom h cs.length 0 #[] (by omega) (by simp)]
  simp

theorem run_load1 {P : Program} {w : World} {T : TypeId} {b o : Nat} {v : Value} (hT : aggOf P T = some false) (h : w.cell? ⟨b, o, none⟩ = some v) :
    (loadVar T ⟨b, o, none⟩).run P w = .ok v w := by
  simp only [loadVar, Sem.run_bind, run_isAgg hT, Result.andThen_ok, Bool.false_eq_true, if_false, run_load, h]

section
variable {P : Program} {w : World} {E : Sl} {d : Option Tmp} {ty : TypeId} {pos : String} {af : Array Edge} {g : Option (Nat × Bool)}

/-- below block B as it was; and no draw is taken back -/
structure Bel (B : Nat) (w w' : World) : Prop extends Below B w w' where
  drawn : w.drawn ≤ w'.drawn
theorem Bel.refl (B : Nat) (w : World) : Bel B w w := ⟨Below.refl B w, Nat.le_refl _⟩

theorem bpush (w : World) (o : Obj) : Bel w.heap.size w { w with heap := w.heap.push o } := ⟨(Below.refl w.heap.size w).alloc (Nat.le_refl _) o, Nat.le_refl _⟩

theorem wrap_in {n : Int} (h1 : -9223372036854775808 ≤ n) (h2 : n ≤ 9223372036854775807) : IntKind.i64.wrap n = n := IntWalk.i64_in n (by omega)

end

/-! ### The results -/

def rvSem (tmps : Array Value) : ResultVar → Sem Value
  | .tmp t => pure (tmps.getD t undef)
  | .cell a t => do loadVar t (← asAddr (tmps.getD a undef))

theorem results_eq (fn : Func) (tmps : Array Value) : results fn tmps = (do
    let vs ← fn.results.mapM (rvSem tmps)
    pure (if h : vs.size = 1 then vs[0] else .tuple vs)) := rfl

section
variable {P : Program} {N : Nat} {L : Sl} {w : World} {fn : Func} {R : Ending → World → Prop}
end

/-! ### Memory that changes -/

/-- w' is w with new blocks, and with whatever in the blocks of SS -/
structure Chg (SS : Nat → Prop) (w w' : World) : Prop where
  os : w'.os = w.os
  tape : w'.tape = w.tape
  output : w'.output = w.output
  size : w.heap.size ≤ w'.heap.size
  block : ∀ k, k < w.heap.size → ¬ SS k → w'.heap[k]? = w.heap[k]?
  drawn : w.drawn ≤ w'.drawn

theorem Chg.below {SS : Nat → Prop} {w w' : World} {B : Nat} (h : Chg SS w w') (hB : B ≤ w.heap.size) (hS : ∀ k, k < B → ¬ SS k) : Bel B w w' :=
  ⟨⟨h.os, h.tape, h.output, h.size, fun k hk => h.block k (Nat.lt_of_lt_of_le hk hB) (hS k hk)⟩, h.drawn⟩
theorem Chg.of_below {SS : Nat → Prop} {w w' : World} (h : Bel w.heap.size w w') : Chg SS w w' := ⟨h.os, h.tape, h.output, h.size, fun k hk _ => h.block k hk, h.drawn⟩
theorem Chg.mono {SS SS' : Nat → Prop} {w w' : World} (h : Chg SS w w') (hs : ∀ k, k < w.heap.size → SS k → SS' k) : Chg SS' w w' :=
  ⟨h.os, h.tape, h.output, h.size, fun k hk hn => h.block k hk fun hk' => hn (hs k hk hk'), h.drawn⟩
/-- the same, whatever was drawn -/
structure Chg0 (SS : Nat → Prop) (w w' : World) : Prop where
  os : w'.os = w.os
  tape : w'.tape = w.tape
  output : w'.output = w.output
  size : w.heap.size ≤ w'.heap.size
  block : ∀ k, k < w.heap.size → ¬ SS k → w'.heap[k]? = w.heap[k]?
theorem Chg.z {SS : Nat → Prop} {w w' : World} (h : Chg SS w w') : Chg0 SS w w' := ⟨h.os, h.tape, h.output, h.size, h.block⟩
/-- w, but for the count of draws, if D is false -/
def atD (D : Bool) (w : World) : World := { w with drawn := bif D then w.drawn else 0 }
theorem Chg.toD {SS : Nat → Prop} {w w' : World} (D : Bool) (h : Chg SS w w') : Chg SS (atD D w) w' := ⟨h.os, h.tape, h.output, h.size, h.block, by
  cases D
  · exact Nat.zero_le _
  · exact h.drawn⟩
theorem Chg.ofD {SS : Nat → Prop} {w w' : World} {D : Bool} (h : Chg SS (atD D w) w') : Chg0 SS w w' := ⟨h.os, h.tape, h.output, h.size, h.block⟩
theorem Chg0.toD {SS : Nat → Prop} {w w' : World} (h : Chg0 SS w w') : Chg SS (atD false w) w' := ⟨h.os, h.tape, h.output, h.size, h.block, Nat.zero_le _⟩
theorem Bel.toD {B : Nat} {w w' : World} (D : Bool) (h : Bel B w w') : Bel B (atD D w) w' := ⟨⟨h.os, h.tape, h.output, h.size, h.block⟩, by
  cases D
  · exact Nat.zero_le _
  · exact h.drawn⟩
theorem dr_le {D : Bool} {w0 w w' : World} (h0 : D = false → w0.drawn = 0) (h1 : w0.drawn ≤ w.drawn) (h2 : (atD D w).drawn ≤ w'.drawn) : w0.drawn ≤ w'.drawn := by
  cases D
  · rw [h0 rfl]; exact Nat.zero_le _
  · exact Nat.le_trans h1 h2
def splice (cs : List Value) (o : Nat) (vs : List Value) : List Value := cs.take o ++ vs ++ cs.drop (o + vs.length)

def setBlk (w : World) (b : Nat) (o : Obj) : World := { w with heap := w.heap.setIfInBounds b o }

theorem setBlk_box {w : World} {b : Nat} (h : b < w.heap.size) (T : TypeId) (cs : List Value) : Box (setBlk w b (.cells cs.toArray T (0, 0))) b T cs := by
  simp [Box, setBlk, h]

theorem setBlk_chg (w : World) (b : Nat) (o : Obj) : Chg (· = b) w (setBlk w b o) :=
  ⟨rfl, rfl, rfl, by simp [setBlk], fun k hk hn => by
    have : b ≠ k := fun e => hn e.symm
    simp [setBlk, Array.getElem?_setIfInBounds_ne this], Nat.le_refl _⟩

theorem setCell_box {w : World} {b : Nat} {T : TypeId} {cs : List Value} (h : Box w b T cs) (j : Nat) (v : Value) : w.setCell ⟨b, j, none⟩ v = setBlk w b (.cells (cs.set j v).toArray T (0, 0)) := by
  have hb : w.heap[b]? = some (.cells cs.toArray T (0, 0)) := h
  have hh : (w.setCell ⟨b, j, none⟩ v).heap = w.heap.setIfInBounds b (.cells (cs.set j v).toArray T (0, 0)) := by
    refine Array.ext_getElem? fun k => ?_
    simp only [World.setCell]
    rw [Array.getElem?_modify, Array.getElem?_setIfInBounds]
    by_cases hk : b = k
    · subst hk
      rw [if_pos rfl, if_pos rfl, if_pos h.lt, hb]
      simp
    · rw [if_neg hk, if_neg hk]
  have e : w.setCell ⟨b, j, none⟩ v = { w with heap := (w.setCell ⟨b, j, none⟩ v).heap } := rfl
  rw [e, hh]; rfl

theorem setBlk_twice (w : World) (b : Nat) (o o' : Obj) : setBlk (setBlk w b o) b o' = setBlk w b o' := by
  simp [setBlk]

theorem run_storeCells {P : Program} {b T : Nat} {o : Nat} : ∀ (vs : List Value) (i : Nat) (w : World) (cs : List Value), Box w b T cs → o + i + vs.length ≤ cs.length → (vs.all fun v => v.oneCell') = true →
    (storeCells ⟨b, o, none⟩ vs i).run P w = .ok () (if vs = [] then w else setBlk w b (.cells (splice cs (o + i) vs).toArray T (0, 0)))
  | [], i, w, cs, _, _, _ => by simp [storeCells]
  | v :: vs, i, w, cs, hb, hlen, hone => by
    simp only [List.all_cons, Bool.and_eq_true] at hone
    simp only [List.length_cons] at hlen
    have hc : w.cell? ⟨b, o + i, none⟩ = some cs[o + i] := by
      have hb' : w.heap[b]? = some (.cells cs.toArray T (0, 0)) := hb
      simp [World.cell?, hb', List.getElem?_eq_getElem (by omega : o + i < cs.length)]
    have hf : w.frozen? ⟨b, o + i, none⟩ = false := by
      have hb' : w.heap[b]? = some (.cells cs.toArray T (0, 0)) := hb
      simp [World.frozen?, hb']
    simp only [storeCells, Sem.run_bind, addr_add, run_store P w _ v .plain hone.1, hc, hf, Result.andThen_ok, Bool.false_eq_true, if_false]
    rw [setCell_box hb]
    have hb2 : Box (setBlk w b (.cells (cs.set (o + i) v).toArray T (0, 0))) b T (cs.set (o + i) v) := setBlk_box hb.lt _ _
    rw [run_storeCells vs (i + 1) _ (cs.set (o + i) v) hb2 (by simp; omega) hone.2]
    by_cases hvs : vs = []
    · subst hvs
      simp only [if_true, List.cons_ne_nil, if_false, splice, List.length_cons, List.length_nil]
      rw [List.set_eq_take_append_cons_drop]
      simp [show o + i < cs.length from by omega]
    · simp only [hvs, if_false, List.cons_ne_nil, setBlk_twice]
      congr 4
      unfold splice
      rw [List.set_eq_take_append_cons_drop, if_pos (by omega)]
      simp only [List.length_cons]
      have e1 : (List.take (o + i) cs ++ v :: List.drop (o + i + 1) cs).take (o + (i + 1)) = List.take (o + i) cs ++ [v] := by
        rw [List.take_append, List.length_take, Nat.min_eq_left (by omega), List.take_of_length_le (by simp; omega), show o + (i + 1) - (o + i) = 1 from by omega]
        simp
      have e2 : (List.take (o + i) cs ++ v :: List.drop (o + i + 1) cs).drop (o + (i + 1) + vs.length) = List.drop (o + i + (vs.length + 1)) cs := by
        rw [List.drop_append, List.length_take, Nat.min_eq_left (by omega), List.drop_of_length_le (by simp; omega), show o + (i + 1) + vs.length - (o + i) = vs.length + 1 from by omega]
        simp only [List.nil_append, List.drop_succ_cons, List.drop_drop]
        congr 1; omega
      rw [e1, e2]
      simp

section
variable {P : Program} {N : Nat} {ops : Array Oper} {Q : Exit → Act → World → Prop} {E : Sl} {w : World} {rest : List Oper} {ty : TypeId} {pos : String} {af : Array Edge}

end

/-! ### Data that is only read -/

theorem Has.below {w w' : World} {b o : Nat} {cs : List Value} (h : Has w b o cs) (hb : b < w.heap.size) (e : Below w.heap.size w w') : Has w' b o cs := fun j v hj => by
  rw [e.cell (p := ⟨b, o + j, none⟩) hb]; exact h j v hj

def ab (a : Option Addr) : Nat := (a.getD ⟨0, 0, none⟩).block
def ao (a : Option Addr) : Nat := (a.getD ⟨0, 0, none⟩).off

/-- how data of a type lies in cells: 'rd': it reads so; 'own': besides, its memory is of its own: the blocks fp -/
structure Rp (α : Type) where
  sz : Nat
  rd : World → List Value → α → Prop
  mono : ∀ {w w' : World} {cs : List Value} {x : α}, Below w.heap.size w w' → rd w cs x → rd w' cs x
  own : World → List Value → α → List Nat → Prop
  own_rd : ∀ {w : World} {cs : List Value} {x : α} {fp : List Nat}, own w cs x fp → rd w cs x
  own_keep : ∀ {w w' : World} {cs : List Value} {x : α} {fp : List Nat}, own w cs x fp → (∀ b ∈ fp, w'.heap[b]? = w.heap[b]?) → own w' cs x fp
  own_lt : ∀ {w : World} {cs : List Value} {x : α} {fp : List Nat}, own w cs x fp → ∀ b ∈ fp, b < w.heap.size
  own_nd : ∀ {w : World} {cs : List Value} {x : α} {fp : List Nat}, own w cs x fp → fp.Nodup
  rd_len : ∀ {w : World} {cs : List Value} {x : α}, rd w cs x → cs.length = sz
  own_one : ∀ {w : World} {cs : List Value} {x : α} {fp : List Nat}, own w cs x fp → (cs.all fun v => v.oneCell') = true

/-- a slice, by its address and capacity, reads as xs -/
def SlR {α : Type} (r : Rp α) (w : World) (a : Option Addr) (c : Nat) (xs : List α) : Prop :=
  xs.length ≤ c ∧ xs.length ≤ 9223372036854775807 ∧ ∀ (i : Nat) (x : α), xs[i]? = some x → a = some ⟨ab a, ao a, none⟩ ∧ ab a < w.heap.size ∧ ∃ cs, cs.length = r.sz ∧ Has w (ab a) (ao a + i * r.sz) cs ∧ r.rd w cs x

theorem SlR.below {α : Type} {r : Rp α} {w w' : World} {a : Option Addr} {c : Nat} {xs : List α} (h : SlR r w a c xs) (e : Below w.heap.size w w') : SlR r w' a c xs :=
  ⟨h.1, h.2.1, fun i x hx => by
    obtain ⟨h1, h2, cs, h3, h4, h5⟩ := h.2.2 i x hx
    exact ⟨h1, Nat.lt_of_lt_of_le h2 e.size, cs, h3, h4.below h2 e, r.mono e h5⟩⟩

/-- a slice whose memory is of its own: nil, or the head of a row of cells, one block, which may be written -/
def SlO {α : Type} (r : Rp α) (w : World) (a : Option Addr) (c : Nat) (xs : List α) (fp : List Nat) : Prop :=
  xs.length ≤ c ∧ xs.length ≤ 9223372036854775807 ∧ ((c = 0 ∧ xs = [] ∧ fp = []) ∨
  ∃ (b : Nat) (T : TypeId) (cells : List Value) (fps : List (List Nat)), a = some ⟨b, 0, none⟩ ∧ Box w b T cells ∧ cells.length = c * r.sz ∧ fps.length = xs.length ∧
    (∀ (i : Nat) (x : α) (f : List Nat), xs[i]? = some x → fps[i]? = some f → r.own w ((cells.drop (i * r.sz)).take r.sz) x f) ∧ fp = b :: fps.flatten ∧ fp.Nodup)

theorem SlO.read {α : Type} {r : Rp α} {w : World} {a : Option Addr} {c : Nat} {xs : List α} {fp : List Nat} (h : SlO r w a c xs fp) : SlR r w a c xs := by
  obtain ⟨h1, h2, h⟩ := h
  refine ⟨h1, h2, fun i x hx => ?_⟩
  rcases h with ⟨rfl, rfl, rfl⟩ | ⟨b, T, cells, fps, rfl, hb, hl, hfl, hel, rfl, hnd⟩
  · simp at hx
  · have hlt : i < xs.length := (List.getElem?_eq_some_iff.1 hx).1
    have hf : fps[i]? = some (fps[i]'(by omega)) := List.getElem?_eq_getElem _
    have ho := hel i x _ hx hf
    have hrd := r.own_rd ho
    have hlen := r.rd_len hrd
    refine ⟨rfl, hb.lt, _, hlen, ?_, hrd⟩
    refine hb.has _ _ ?_
    simp only [ao, Option.getD_some, Nat.zero_add]
    rw [hlen]

theorem SlO.keep {α : Type} {r : Rp α} {w w' : World} {a : Option Addr} {c : Nat} {xs : List α} {fp : List Nat} (h : SlO r w a c xs fp) (hk : ∀ b ∈ fp, w'.heap[b]? = w.heap[b]?) : SlO r w' a c xs fp := by
  obtain ⟨h1, h2, h⟩ := h
  refine ⟨h1, h2, ?_⟩
  rcases h with h | ⟨b, T, cells, fps, rfl, hb, hl, hfl, hel, rfl, hnd⟩
  · exact .inl h
  · refine .inr ⟨b, T, cells, fps, rfl, ?_, hl, hfl, fun i x f hx hf => ?_, rfl, hnd⟩
    · unfold Box; rw [hk b List.mem_cons_self]; exact hb
    · exact r.own_keep (hel i x f hx hf) fun b' hb' => hk b' (List.mem_cons_of_mem _ (List.mem_flatten.2 ⟨f, List.mem_of_getElem? hf, hb'⟩))

theorem SlO.lt {α : Type} {r : Rp α} {w : World} {a : Option Addr} {c : Nat} {xs : List α} {fp : List Nat} (h : SlO r w a c xs fp) : ∀ b ∈ fp, b < w.heap.size := by
  obtain ⟨h1, h2, h⟩ := h
  rcases h with ⟨rfl, rfl, rfl⟩ | ⟨b, T, cells, fps, rfl, hb, hl, hfl, hel, rfl, hnd⟩
  · intro b hb; cases hb
  · intro b' hb'
    rcases List.mem_cons.1 hb' with rfl | hb'
    · exact hb.lt
    · obtain ⟨f, hf, hbf⟩ := List.mem_flatten.1 hb'
      obtain ⟨i, hi⟩ := List.mem_iff_getElem?.1 hf
      have hlt : i < xs.length := by have := (List.getElem?_eq_some_iff.1 hi).1; omega
      exact r.own_lt (hel i _ f (List.getElem?_eq_getElem hlt) hi) b' hbf

theorem SlO.nd {α : Type} {r : Rp α} {w : World} {a : Option Addr} {c : Nat} {xs : List α} {fp : List Nat} (h : SlO r w a c xs fp) : fp.Nodup := by
  obtain ⟨h1, h2, h⟩ := h
  rcases h with ⟨rfl, rfl, rfl⟩ | ⟨b, T, cells, fps, rfl, hb, hl, hfl, hel, rfl, hnd⟩
  · exact List.nodup_nil
  · exact hnd

def Rp.slice {α : Type} (r : Rp α) : Rp (List α) where
  sz := 1
  rd w cs xs := ∃ a c, cs = [.slice a xs.length c] ∧ SlR r w a c xs
  mono e h := let ⟨a, c, h1, h2⟩ := h; ⟨a, c, h1, h2.below e⟩
  own w cs xs fp := ∃ a c, cs = [.slice a xs.length c] ∧ SlO r w a c xs fp
  own_rd h := let ⟨a, c, h1, h2⟩ := h; ⟨a, c, h1, h2.read⟩
  own_keep h hk := let ⟨a, c, h1, h2⟩ := h; ⟨a, c, h1, h2.keep hk⟩
  own_lt h := let ⟨_, _, _, h2⟩ := h; h2.lt
  own_nd h := let ⟨_, _, _, h2⟩ := h; h2.nd
  rd_len h := let ⟨_, _, h1, _⟩ := h; h1 ▸ rfl
  own_one h := let ⟨_, _, h1, _⟩ := h; h1 ▸ rfl

/-- data without memory of its own -/
def Rp.flat {α : Type} (n : Nat) (f : α → List Value) (hf : ∀ x, (f x).length = n) (h1 : ∀ x, ((f x).all fun v => v.oneCell') = true) : Rp α where
  sz := n
  rd _ cs x := cs = f x
  mono _ h := h
  own _ cs x fp := cs = f x ∧ fp = []
  own_rd h := h.1
  own_keep h _ := h
  own_lt h b hb := by rw [h.2] at hb; cases hb
  own_nd h := by rw [h.2]; exact List.nodup_nil
  rd_len h := by rw [h]; exact hf _
  own_one h := by rw [h.1]; exact h1 _

def rpInt : Rp Int := Rp.flat 1 (fun n => [.int .i64 n]) (fun _ => rfl) (fun _ => rfl)
def rpByte : Rp UInt8 := Rp.flat 1 (fun n => [.int .u8 (n.toNat : Int)]) (fun _ => rfl) (fun _ => rfl)
def rpBool : Rp Bool := Rp.flat 1 (fun n => [.bool n]) (fun _ => rfl) (fun _ => rfl)
def rpStr : Rp ByteArray := Rp.flat 1 (fun n => [.string n]) (fun _ => rfl) (fun _ => rfl)

theorem Box.cell {w : World} {b : Nat} {T : TypeId} {cs : List Value} (h : Box w b T cs) (o : Nat) (v : Value) (hv : cs[o]? = some v) : w.cell? ⟨b, o, none⟩ = some v := by
  have hb : w.heap[b]? = some (.cells cs.toArray T (0, 0)) := h
  simp [World.cell?, hb, hv]

theorem SlR.nil {α : Type} (r : Rp α) (w : World) : SlR r w none 0 [] := ⟨Nat.le_refl _, by simp, fun i x h => by simp at h⟩

end Go.Proofs.YtbhjkcicpobmhaaDoor
