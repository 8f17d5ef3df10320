/-
  The calculus, second part: rules for the code around regions; what single operations come to; blocks whose content is known.
-/
import Derived.Test.YtjefeigdapcleaaK1
import Derived.Deep.LoopGhost
namespace Go.Proofs.Ytjefeigdapcleaa
open Go.RowKit

/-- code, from a frame of which L is known -/
def GC (P : Program) (N : Nat) (c : Code) (Q : Exit → Act → World → Prop) (L : Sl) (w : World) : Prop := ∀ a, Fr a N L → c.wp P Q a w
/-- the post at a way out -/
def GQ (N : Nat) (Q : Exit → Act → World → Prop) (e : Exit) (L : Sl) (w : World) : Prop := ∀ a, Fr a N L → Q e a w

section
variable {P : Program} {N : Nat} {Q : Exit → Act → World → Prop} {L : Sl} {w : World}

theorem GC.sub {c : Code} (L' : Sl) (hs : L'.map (fun p => getO L p.1) = L'.map (fun p => some p.2)) (h : GC P N c Q L' w) : GC P N c Q L w := fun a ha => h a (ha.sub (Sub.of_map hs))
theorem GQ.sub {e : Exit} (L' : Sl) (hs : L'.map (fun p => getO L p.1) = L'.map (fun p => some p.2)) (h : GQ N Q e L' w) : GQ N Q e L w := fun a ha => h a (ha.sub (Sub.of_map hs))
theorem GC.seq {x y : Code} (h : GC P N x (Exit.then (fun a w => y.wp P Q a w) Q) L w) : GC P N (.seq x y) Q L w := fun a ha => wp_seq (h a ha)
/-- the region ahead has come to its end: on with what stands behind it -/
theorem GQ.on {y : Code} (h : GC P N y Q L w) : GQ N (Exit.then (fun a w => y.wp P Q a w) Q) .normal L w := h
theorem GQ.pass {y : Act → World → Prop} {id : Nat} (h : GQ N Q (.exit id) L w) : GQ N (Exit.then y Q) (.exit id) L w := h
theorem GQ.passRet {y : Act → World → Prop} (h : GQ N Q .ret L w) : GQ N (Exit.then y Q) .ret L w := h
theorem GQ.blockRet {id : Nat} (h : GQ N Q .ret L w) : GQ N (Exit.inBlock id Q) .ret L w := h
theorem GQ.blockEnd {id : Nat} (h : GQ N Q .normal L w) : GQ N (Exit.inBlock id Q) .normal L w := h
theorem GQ.blockOut {id : Nat} (h : GQ N Q .normal L w) : GQ N (Exit.inBlock id Q) (.exit id) L w := fun a ha => by
  simp only [Exit.inBlock, if_true]; exact h a ha
theorem GQ.blockPass {id id' : Nat} (hne : Nat.beq id' id = false) (h : GQ N Q (.exit id') L w) : GQ N (Exit.inBlock id Q) (.exit id') L w := fun a ha => by
  have : id' ≠ id := fun e => by rw [e] at hne; simp at hne
  simp only [Exit.inBlock, if_neg this]; exact h a ha
theorem GC.skip (h : GQ N Q .normal L w) : GC P N .skip Q L w := fun a ha => wp_skip (h a ha)
theorem GC.exit {id : Nat} (h : GQ N Q (.exit id) L w) : GC P N (.exit id) Q L w := fun a ha => wp_exit (h a ha)
theorem GC.ret (h : GQ N Q .ret L w) : GC P N .ret Q L w := fun a ha => wp_ret (h a ha)
theorem GC.block {id : Nat} {c : Code} (h : GC P N c (Exit.inBlock id Q) L w) : GC P N (.block id c) Q L w := fun a ha => wp_block (h a ha)
theorem GC.cond {c : Operand} {x y : Code} (B : Bool) (hc : evO L c = some (.bool B)) (ht : B = true → GC P N x Q L w) (hf : B = false → GC P N y Q L w) : GC P N (.cond c x y) Q L w := fun a ha =>
  wp_cond_split (ha.ev hc) (fun h => ht h a ha) (fun h => hf h a ha)
theorem GC.condT {c : Operand} {x y : Code} (hc : evO L c = some (.bool true)) (h : GC P N x Q L w) : GC P N (.cond c x y) Q L w := fun a ha => wp_cond_true (ha.ev hc) (h a ha)
theorem GC.condF {c : Operand} {x y : Code} (hc : evO L c = some (.bool false)) (h : GC P N y Q L w) : GC P N (.cond c x y) Q L w := fun a ha => wp_cond_false (ha.ev hc) (h a ha)

/-- a loop: its state is an element of ι -/
theorem GC.loop {ι : Type} {c : Code} (Lf : ι → Sl) (I : ι → World → Prop) (μ : ι → Nat) (i0 : ι) (hs : (Lf i0).map (fun p => getO L p.1) = (Lf i0).map (fun p => some p.2)) (h0 : I i0 w)
    (round : ∀ i w, I i w → GC P N c (Exit.then (fun a' w' => ∃ j, Fr a' N (Lf j) ∧ I j w' ∧ μ j < μ i) Q) (Lf i) w) : GC P N (.loop c) Q L w := by
  intro a ha
  refine wp_loop_ghost (fun n a w => ∃ i, μ i = n ∧ Fr a N (Lf i) ∧ I i w) (μ i0) ⟨i0, rfl, ha.sub (Sub.of_map hs), h0⟩ ?_
  rintro n a w ⟨i, rfl, hf, hI⟩
  refine Code.wp_mono ?_ (round i w hI a hf)
  intro e a' w' hq
  cases e with
  | normal => obtain ⟨j, h1, h2, h3⟩ := hq; exact ⟨μ j, h3, j, rfl, h1, h2⟩
  | exit id => exact hq
  | goto l => exact hq
  | ret => exact hq
  | panic ch => exact hq
  | outgrown => exact hq
/-- the round's end -/
theorem GQ.next {ι : Type} {Lf : ι → Sl} {I : ι → World → Prop} {μ : ι → Nat} {i : ι} (j : ι) (hs : (Lf j).map (fun p => getO L p.1) = (Lf j).map (fun p => some p.2)) (hI : I j w) (hm : μ j < μ i) :
    GQ N (Exit.then (fun a' w' => ∃ j, Fr a' N (Lf j) ∧ I j w' ∧ μ j < μ i) Q) .normal L w := fun _ ha => ⟨j, ha.sub (Sub.of_map hs), hI, hm⟩

/-- a region's front, and then what is left of it -/
theorem GC.reg {l : List Oper} {id : Nat} {draw : Bool} (m : Nat) (items : List Item) (hm : P.follows .mixedOrders = true)
    (hk : ∀ vs w, (chk l items m N draw, guardsOk l vs l items L, wlRes P vs w l items L) = (true, true, wlExp vs w l items))
    (hp : Prem P w (msks l []) items l items 0 (fun _ => L))
    (hend : ∀ vs lo hi w', AllUp (if draw then { w with drawn := w.drawn + 1 } else w) w items vs lo hi w' → Rest P N l.toArray Q (l.drop m) (envOf vs (l.take m) items L) w') : GC P N (.region id l.toArray draw) Q L w :=
  region_ok m items hm (stable_all items) hk hp hend

end

/-! ### Entering and leaving a function -/

theorem enter {P : Program} {f : FuncId} {fn : Func} {c : Code} {args : Array Value} {w : World} {R : Ending → World → Prop} (L : Sl) (hf : P.funcs[f]? = some fn) (hb : fn.body = some c)
    (hn : Nat.ble args.size fn.ntmps = true) (hL : L.map (fun p => args[p.1]?) = L.map (fun p => some p.2)) (h : GC P fn.ntmps c (bodyPost P fn R) L w) : Calls P f args w R := by
  refine calls_of_wp hf hb (h _ ⟨?_, rfl, ?_⟩)
  · have := Nat.le_of_ble_eq_true hn
    simp; omega
  · intro t v hv
    have := getO_map hL hv
    have hlt := (Array.getElem?_eq_some_iff.1 this).1
    simp only
    rw [Array.getElem?_append_left hlt]
    exact this

/-! ### What is in memory -/

/-- the cells cs lie at offset o of block b -/
def Has (w : World) (b o : Nat) (cs : List Value) : Prop := ∀ j v, cs[j]? = some v → w.cell? ⟨b, o + j, none⟩ = some v

/-- block b is a row of cells that is known whole, and may be written -/
def Box (w : World) (b : Nat) (T : TypeId) (cs : List Value) : Prop := w.heap[b]? = some (.cells cs.toArray T (0, 0))

theorem Box.has {w : World} {b : Nat} {T : TypeId} {cs : List Value} (h : Box w b T cs) (o : Nat) (cs' : List Value) (hs : (cs.drop o).take cs'.length = cs') : Has w b o cs' := by
  intro j v hj
  have : cs[o + j]? = some v := by
    rw [← hs, List.getElem?_take] at hj
    split at hj
    · simpa using hj
    · cases hj
  have hb : w.heap[b]? = some (.cells cs.toArray T (0, 0)) := h
  simp [World.cell?, hb, this]

theorem Box.lt {w : World} {b : Nat} {T : TypeId} {cs : List Value} (h : Box w b T cs) : b < w.heap.size := by
  rcases Nat.lt_or_ge b w.heap.size with h' | h'
  · exact h'
  · unfold Box at h; rw [Array.getElem?_eq_none h'] at h; cases h

theorem Box.below {w w' : World} {b B : Nat} {T : TypeId} {cs : List Value} (h : Box w b T cs) (hb : Below B w w') (hlt : b < B) : Box w' b T cs := by
  unfold Box; rw [hb.block b hlt]; exact h

/-- a fresh variable -/
def BoxG (T : TypeId) (cs : List Value) (v : Value) (lo hi : Nat) (w : World) : Prop := v = .pointer (some ⟨lo, 0, none⟩) ∧ lo < hi ∧ Box w lo T cs

theorem BoxG.stable (T : TypeId) (cs : List Value) : ∀ (v : Value) (lo hi : Nat) (w w' : World), hi ≤ w.heap.size → Below w.heap.size w w' → BoxG T cs v lo hi w → BoxG T cs v lo hi w' :=
  fun _ _ _ _ _ h hb ⟨h1, h2, h3⟩ => ⟨h1, h2, h3.below hb (Nat.lt_of_lt_of_le h2 h)⟩

/-! ### Single operations -/

/-- is a value of the type an aggregate? -/
def aggOf (P : Program) (T : TypeId) : Option Bool :=
  match P.underlying T with
  | some (.struct _) | some (.array _ _) => some true
  | some _ => some false
  | none => none

theorem run_isAgg {P : Program} {T : TypeId} {b : Bool} (h : aggOf P T = some b) (w : World) : (isAgg T).run P w = .ok b w := by
  unfold aggOf at h
  cases hu : P.underlying T with
  | none => rw [hu] at h; cases h
  | some d =>
    rw [hu] at h
    cases d <;> simp only [Option.some.injEq] at h <;> subst h <;> simp [isAgg, underlying, hu]

theorem addr_add (b o n : Nat) : (⟨b, o, none⟩ : Addr).add n = ⟨b, o + n, none⟩ := by
  unfold Addr.add
  split
  · rename_i h; subst h; rfl
  · rfl

theorem run_loadCellsFrom {P : Program} {w : World} {b o : Nat} {cs : List Value} (h : Has w b o cs) : ∀ (n i : Nat) (acc : Array Value), i + n = cs.length → acc.toList = cs.take i →
    (loadCellsFrom ⟨b, o, none⟩ i n acc).run P w = .ok cs.toArray w
  | 0, i, acc, hi, ha => by
    have : acc = cs.toArray := by
      have h1 : acc.toList = cs := by rw [ha, List.take_of_length_le (by omega)]
      rw [← h1]
    simp [loadCellsFrom, this]
  | n + 1, i, acc, hi, ha => by
    have hlt : i < cs.length := by omega
    have hc := h i cs[i] (List.getElem?_eq_getElem hlt)
    simp only [loadCellsFrom, Sem.run_bind, run_load, addr_add, hc, Result.andThen_ok]
    refine run_loadCellsFrom h n (i + 1) _ (by omega) ?_
    rw [List.take_succ_eq_append_getElem hlt, ← ha]
    simp

theorem run_loadA {P : Program} {w : World} {T : TypeId} {b o : Nat} {cs : List Value} (hT : aggOf P T = some true) (hs : (P.info? T).map (·.size) = some cs.length) (h : Has w b o cs) :
    (loadVar T ⟨b, o, none⟩).run P w = .ok (.agg cs.toArray) w := by
  obtain ⟨inf, hi, hsz⟩ := Option.map_eq_some_iff.1 hs
  simp only [loadVar, Sem.run_bind, run_isAgg hT, Result.andThen_ok, if_true, loadCells, sizeOf, typeInfo, run_program, hi]
  simp only [Sem.run_pure, Result.andThen_ok, hsz]
  rw [run_loadCellsFrom h cs.length 0 #[] (by omega) (by simp)]
  simp

theorem run_load1 {P : Program} {w : World} {T : TypeId} {b o : Nat} {v : Value} (hT : aggOf P T = some false) (h : w.cell? ⟨b, o, none⟩ = some v) :
    (loadVar T ⟨b, o, none⟩).run P w = .ok v w := by
  simp only [loadVar, Sem.run_bind, run_isAgg hT, Result.andThen_ok, Bool.false_eq_true, if_false, run_load, h]

section
variable {P : Program} {w : World} {E : Sl} {d : Option Tmp} {ty : TypeId} {pos : String} {af : Array Edge} {g : Option (Nat × Bool)}

theorem Out.of_run {o : Oper} {v : Value} (h : (execOp (evL E) o).run P w = .ok (.value v) w) : Out P (fun v' w' => v' = v ∧ Below w.heap.size w w') ((execOp (evL E) o).run P w) := by
  rw [h]; exact ⟨rfl, Below.refl _ _⟩

theorem Out.load1 {x : Operand} {T : TypeId} {b o : Nat} {v : Value} (hx : evL E x = .pointer (some ⟨b, o, none⟩)) (hT : aggOf P T = some false) (h : w.cell? ⟨b, o, none⟩ = some v) :
    Out P (fun v' w' => v' = v ∧ Below w.heap.size w w') ((execOp (evL E) ⟨d, .load T x, ty, pos, af, g⟩).run P w) :=
  Out.of_run (by simp [execOp, hx, Instr.loadAt, Instr.sureAddr, run_load1 hT h])

theorem Out.loadA {x : Operand} {T : TypeId} {b o : Nat} {cs : List Value} (hx : evL E x = .pointer (some ⟨b, o, none⟩)) (hT : aggOf P T = some true) (hs : (P.info? T).map (·.size) = some cs.length) (h : Has w b o cs) :
    Out P (fun v' w' => v' = .agg cs.toArray ∧ Below w.heap.size w w') ((execOp (evL E) ⟨d, .load T x, ty, pos, af, g⟩).run P w) :=
  Out.of_run (by simp [execOp, hx, Instr.loadAt, Instr.sureAddr, run_loadA hT hs h])

theorem bpush (w : World) (o : Obj) : Below w.heap.size w { w with heap := w.heap.push o } := (Below.refl w.heap.size w).alloc (Nat.le_refl _) o

theorem Out.box {x : Operand} {T : TypeId} {cs : List Value} (hx : (evL E x).cells.toList = cs) :
    Out P (fun v w' => Below w.heap.size w w' ∧ BoxG T cs v w.heap.size w'.heap.size w') ((execOp (evL E) ⟨d, .box T x, ty, pos, af, g⟩).run P w) := by
  have hr : (execOp (evL E) ⟨d, .box T x, ty, pos, af, g⟩).run P w = .ok (.value (.pointer (some ⟨w.heap.size, 0, none⟩))) { w with heap := w.heap.push (.cells (evL E x).cells T) } := by
    simp [execOp, Instr.box, newVar, newRow]
  rw [hr]
  refine ⟨bpush _ _, rfl, by simp, ?_⟩
  have : cs.toArray = (evL E x).cells := by rw [← hx]
  simp [Box, this]

theorem Out.alloc {T : TypeId} {z : Value} {cs : List Value} (hz : (P.info? T).bind (·.zero) = some z) (hc : z.cells.toList = cs) :
    Out P (fun v w' => Below w.heap.size w w' ∧ BoxG T cs v w.heap.size w'.heap.size w') ((execOp (evL E) ⟨d, .alloc T, ty, pos, af, g⟩).run P w) := by
  obtain ⟨inf, hi, hzz⟩ := Option.bind_eq_some_iff.1 hz
  have hr : (execOp (evL E) ⟨d, .alloc T, ty, pos, af, g⟩).run P w = .ok (.value (.pointer (some ⟨w.heap.size, 0, none⟩))) { w with heap := w.heap.push (.cells z.cells T) } := by
    simp [execOp, Instr.alloc, zeroValue, typeInfo, hi, hzz, newVar, newRow]
  rw [hr]
  refine ⟨bpush _ _, rfl, by simp, ?_⟩
  have : cs.toArray = z.cells := by rw [← hc]
  simp [Box, this]

/-- an element's address -/
theorem Out.idx {x y : Operand} {T U : TypeId} {b o n c k sz : Nat} (hx : evL E x = .slice (some ⟨b, o, none⟩) n c) (hy : evL E y = .int .i64 (k : Int)) (hk : k < n)
    (hT : P.underlying T = some (.slice U)) (hs : (P.info? U).map (·.size) = some sz) :
    Out P (fun v' w' => v' = .pointer (some ⟨b, o + k * sz, none⟩) ∧ Below w.heap.size w w') ((execOp (evL E) ⟨d, .indexAddr T x y, ty, pos, af, g⟩).run P w) := by
  obtain ⟨inf, hi, hsz⟩ := Option.map_eq_some_iff.1 hs
  refine Out.of_run ?_
  have h1 : (0 : Int) ≤ (k : Int) ∧ (k : Int) < (n : Int) := by omega
  simp [execOp, hx, hy, Instr.indexAt, asIntOf, underlying, hT, sizeOf, typeInfo, hi, hsz, addr_add, hk]

theorem wrap_in {n : Int} (h1 : -9223372036854775808 ≤ n) (h2 : n ≤ 9223372036854775807) : IntKind.i64.wrap n = n := IntWalk.i64_in n (by omega)

theorem Out.add {x y : Operand} {T T' : TypeId} {a b : Int} (hx : evL E x = .int .i64 a) (hy : evL E y = .int .i64 b) (h1 : -9223372036854775808 ≤ a + b) (h2 : a + b ≤ 9223372036854775807) :
    Out P (fun v' w' => v' = .int .i64 (a + b) ∧ Below w.heap.size w w') ((execOp (evL E) ⟨d, .binOp .add T x y T', ty, pos, af, g⟩).run P w) :=
  Out.of_run (by simp [execOp, hx, hy, eqGuard, binOp, Op.intArith, wrap_in h1 h2])
theorem Out.subI {x y : Operand} {T T' : TypeId} {a b : Int} (hx : evL E x = .int .i64 a) (hy : evL E y = .int .i64 b) (h1 : -9223372036854775808 ≤ a - b) (h2 : a - b ≤ 9223372036854775807) :
    Out P (fun v' w' => v' = .int .i64 (a - b) ∧ Below w.heap.size w w') ((execOp (evL E) ⟨d, .binOp .sub T x y T', ty, pos, af, g⟩).run P w) :=
  Out.of_run (by simp [execOp, hx, hy, eqGuard, binOp, Op.intArith, wrap_in h1 h2])

/-- a call -/
theorem Out.call {o : Oper} {f : FuncId} {args : Array Value} {R R' : Value → World → Prop} (h : (execOp (evL E) o).run P w = .ok (.enter f args) w)
    (hc : Calls P f args w fun e w' => ∃ v, e = .returned v ∧ R v w') (hr : ∀ v w', R v w' → R' v w') : Out P R' ((execOp (evL E) o).run P w) := by
  rw [h]; exact Calls.mono hc fun _ _ ⟨v, e, r⟩ => ⟨v, e, hr _ _ r⟩
end

/-! ### The results -/

/-- a result reads as v -/
def RV (P : Program) (L : Sl) (w : World) : ResultVar → Value → Prop
  | .tmp t, v => getO L t = some v
  | .cell t T, v => ∃ a, getO L t = some (.pointer (some a)) ∧ (loadVar T a).run P w = .ok v w

def rvSem (tmps : Array Value) : ResultVar → Sem Value
  | .tmp t => pure (tmps.getD t undef)
  | .cell a t => do loadVar t (← asAddr (tmps.getD a undef))

theorem results_eq (fn : Func) (tmps : Array Value) : results fn tmps = (do
    let vs ← fn.results.mapM (rvSem tmps)
    pure (if h : vs.size = 1 then vs[0] else .tuple vs)) := rfl

theorem RV.run {P : Program} {N : Nat} {L : Sl} {w : World} {a : Act} (ha : Fr a N L) : ∀ {r : ResultVar} {v : Value}, RV P L w r v → (rvSem a.tmps r).run P w = .ok v w
  | .tmp t, v, h => by
    have := ha.has t v h
    simp [rvSem, this]
  | .cell t T, v, ⟨ad, h1, h2⟩ => by
    have := ha.has t _ h1
    simp [rvSem, this, asAddr, h2]

section
variable {P : Program} {N : Nat} {L : Sl} {w : World} {fn : Func} {R : Ending → World → Prop}
theorem GQ.ret0 (hr : fn.results = #[]) (h : R (.returned (.tuple #[])) w) : GQ N (bodyPost P fn R) .ret L w := fun a ha =>
  ⟨ha.defers, .tuple #[], by simp [results, hr], h⟩
theorem GQ.end0 (hr : fn.results = #[]) (h : R (.returned (.tuple #[])) w) : GQ N (bodyPost P fn R) .normal L w := fun a ha =>
  ⟨ha.defers, .tuple #[], by simp [results, hr], h⟩
theorem GQ.ret1 {r : ResultVar} (v : Value) (hr : fn.results = #[r]) (hv : RV P L w r v) (h : R (.returned v) w) : GQ N (bodyPost P fn R) .ret L w := fun a ha =>
  ⟨ha.defers, v, by
    have := hv.run ha
    simp [results_eq, hr, this], h⟩
theorem GQ.ret2 {r1 r2 : ResultVar} (v1 v2 : Value) (hr : fn.results = #[r1, r2]) (h1 : RV P L w r1 v1) (h2 : RV P L w r2 v2) (h : R (.returned (.tuple #[v1, v2])) w) : GQ N (bodyPost P fn R) .ret L w := fun a ha =>
  ⟨ha.defers, .tuple #[v1, v2], by
    have t1 := h1.run ha
    have t2 := h2.run ha
    simp [results_eq, hr, t1, t2], h⟩
theorem GQ.ret3 {r1 r2 r3 : ResultVar} (v1 v2 v3 : Value) (hr : fn.results = #[r1, r2, r3]) (h1 : RV P L w r1 v1) (h2 : RV P L w r2 v2) (h3 : RV P L w r3 v3) (h : R (.returned (.tuple #[v1, v2, v3])) w) : GQ N (bodyPost P fn R) .ret L w := fun a ha =>
  ⟨ha.defers, .tuple #[v1, v2, v3], by
    have t1 := h1.run ha
    have t2 := h2.run ha
    have t3 := h3.run ha
    simp [results_eq, hr, t1, t2, t3], h⟩
end

/-! ### Memory that changes -/

/-- w' is w with new blocks, and with whatever in the blocks of SS -/
structure Chg (SS : Nat → Prop) (w w' : World) : Prop where
  os : w'.os = w.os
  tape : w'.tape = w.tape
  output : w'.output = w.output
  size : w.heap.size ≤ w'.heap.size
  block : ∀ k, k < w.heap.size → ¬ SS k → w'.heap[k]? = w.heap[k]?

theorem Chg.below {SS : Nat → Prop} {w w' : World} {B : Nat} (h : Chg SS w w') (hB : B ≤ w.heap.size) (hS : ∀ k, k < B → ¬ SS k) : Below B w w' :=
  ⟨h.os, h.tape, h.output, h.size, fun k hk => h.block k (Nat.lt_of_lt_of_le hk hB) (hS k hk)⟩
theorem Chg.of_below {SS : Nat → Prop} {w w' : World} (h : Below w.heap.size w w') : Chg SS w w' := ⟨h.os, h.tape, h.output, h.size, fun k hk _ => h.block k hk⟩
theorem Chg.trans {SS : Nat → Prop} {w w' w'' : World} (h : Chg SS w w') (h' : Chg SS w' w'') : Chg SS w w'' :=
  ⟨h'.os.trans h.os, h'.tape.trans h.tape, h'.output.trans h.output, Nat.le_trans h.size h'.size, fun k hk hS => (h'.block k (Nat.lt_of_lt_of_le hk h.size) hS).trans (h.block k hk hS)⟩
theorem Chg.mono {SS SS' : Nat → Prop} {w w' : World} (h : Chg SS w w') (hs : ∀ k, k < w.heap.size → SS k → SS' k) : Chg SS' w w' :=
  ⟨h.os, h.tape, h.output, h.size, fun k hk hn => h.block k hk fun hk' => hn (hs k hk hk')⟩
theorem Box.chg {SS : Nat → Prop} {w w' : World} {b : Nat} {T : TypeId} {cs : List Value} (h : Box w b T cs) (hc : Chg SS w w') (hn : ¬ SS b) : Box w' b T cs := by
  have hlt := h.lt
  unfold Box
  rw [hc.block b hlt hn]
  exact h

def splice (cs : List Value) (o : Nat) (vs : List Value) : List Value := cs.take o ++ vs ++ cs.drop (o + vs.length)

def setBlk (w : World) (b : Nat) (o : Obj) : World := { w with heap := w.heap.setIfInBounds b o }

theorem setBlk_box {w : World} {b : Nat} (h : b < w.heap.size) (T : TypeId) (cs : List Value) : Box (setBlk w b (.cells cs.toArray T (0, 0))) b T cs := by
  simp [Box, setBlk, h]

theorem setBlk_chg (w : World) (b : Nat) (o : Obj) : Chg (· = b) w (setBlk w b o) :=
  ⟨rfl, rfl, rfl, by simp [setBlk], fun k hk hn => by
    have : b ≠ k := fun e => hn e.symm
    simp [setBlk, Array.getElem?_setIfInBounds_ne this]⟩

theorem setCell_box {w : World} {b : Nat} {T : TypeId} {cs : List Value} (h : Box w b T cs) (j : Nat) (v : Value) : w.setCell ⟨b, j, none⟩ v = setBlk w b (.cells (cs.set j v).toArray T (0, 0)) := by
  have hb : w.heap[b]? = some (.cells cs.toArray T (0, 0)) := h
  have hh : (w.setCell ⟨b, j, none⟩ v).heap = w.heap.setIfInBounds b (.cells (cs.set j v).toArray T (0, 0)) := by
    refine Array.ext_getElem? fun k => ?_
    simp only [World.setCell]
    rw [Array.getElem?_modify, Array.getElem?_setIfInBounds]
    by_cases hk : b = k
    · subst hk
      rw [if_pos rfl, if_pos rfl, if_pos h.lt, hb]
      simp
    · rw [if_neg hk, if_neg hk]
  have e : w.setCell ⟨b, j, none⟩ v = { w with heap := (w.setCell ⟨b, j, none⟩ v).heap } := rfl
  rw [e, hh]; rfl

theorem setBlk_twice (w : World) (b : Nat) (o o' : Obj) : setBlk (setBlk w b o) b o' = setBlk w b o' := by
  simp [setBlk]

theorem run_storeCells {P : Program} {b T : Nat} {o : Nat} : ∀ (vs : List Value) (i : Nat) (w : World) (cs : List Value), Box w b T cs → o + i + vs.length ≤ cs.length → (vs.all fun v => v.oneCell') = true →
    (storeCells ⟨b, o, none⟩ vs i).run P w = .ok () (if vs = [] then w else setBlk w b (.cells (splice cs (o + i) vs).toArray T (0, 0)))
  | [], i, w, cs, _, _, _ => by simp [storeCells]
  | v :: vs, i, w, cs, hb, hlen, hone => by
    simp only [List.all_cons, Bool.and_eq_true] at hone
    simp only [List.length_cons] at hlen
    have hc : w.cell? ⟨b, o + i, none⟩ = some cs[o + i] := by
      have hb' : w.heap[b]? = some (.cells cs.toArray T (0, 0)) := hb
      simp [World.cell?, hb', List.getElem?_eq_getElem (by omega : o + i < cs.length)]
    have hf : w.frozen? ⟨b, o + i, none⟩ = false := by
      have hb' : w.heap[b]? = some (.cells cs.toArray T (0, 0)) := hb
      simp [World.frozen?, hb']
    simp only [storeCells, Sem.run_bind, addr_add, run_store P w _ v .plain hone.1, hc, hf, Result.andThen_ok, Bool.false_eq_true, if_false]
    rw [setCell_box hb]
    have hb2 : Box (setBlk w b (.cells (cs.set (o + i) v).toArray T (0, 0))) b T (cs.set (o + i) v) := setBlk_box hb.lt _ _
    rw [run_storeCells vs (i + 1) _ (cs.set (o + i) v) hb2 (by simp; omega) hone.2]
    by_cases hvs : vs = []
    · subst hvs
      simp only [if_true, List.cons_ne_nil, if_false, splice, List.length_cons, List.length_nil]
      rw [List.set_eq_take_append_cons_drop]
      simp [show o + i < cs.length from by omega]
    · simp only [hvs, if_false, List.cons_ne_nil, setBlk_twice]
      congr 4
      unfold splice
      rw [List.set_eq_take_append_cons_drop, if_pos (by omega)]
      simp only [List.length_cons]
      have e1 : (List.take (o + i) cs ++ v :: List.drop (o + i + 1) cs).take (o + (i + 1)) = List.take (o + i) cs ++ [v] := by
        rw [List.take_append, List.length_take, Nat.min_eq_left (by omega), List.take_of_length_le (by simp; omega), show o + (i + 1) - (o + i) = 1 from by omega]
        simp
      have e2 : (List.take (o + i) cs ++ v :: List.drop (o + i + 1) cs).drop (o + (i + 1) + vs.length) = List.drop (o + i + (vs.length + 1)) cs := by
        rw [List.drop_append, List.length_take, Nat.min_eq_left (by omega), List.drop_of_length_le (by simp; omega), show o + (i + 1) + vs.length - (o + i) = vs.length + 1 from by omega]
        simp only [List.nil_append, List.drop_succ_cons, List.drop_drop]
        congr 1; omega
      rw [e1, e2]
      simp

section
variable {P : Program} {N : Nat} {ops : Array Oper} {Q : Exit → Act → World → Prop} {E : Sl} {w : World} {rest : List Oper} {ty : TypeId} {pos : String} {af : Array Edge}

theorem Rest.nil (h : GQ N Q .normal E w) : Rest P N ops Q [] E w := fun a ha => h a ha
theorem Rest.sub (L' : Sl) (hs : L'.map (fun p => getO E p.1) = L'.map (fun p => some p.2)) {l : List Oper} (h : Rest P N ops Q l L' w) : Rest P N ops Q l E w := fun a ha => h a (ha.sub (Sub.of_map hs))
/-- a store into a variable that is known whole -/
theorem Rest.store {x y : Operand} {T T0 : TypeId} {b o : Nat} {cs : List Value} (vs cs' : List Value) (hx : evO E x = some (.pointer (some ⟨b, o, none⟩))) (hy : (evO E y).map (fun v => v.cells.toList) = some vs)
    (hb : Box w b T0 cs) (hs : (P.info? T).map (·.size) = some vs.length) (hlen : Nat.ble (o + vs.length) cs.length = true) (hone : (vs.all fun v => v.oneCell') = true) (hcs : splice cs o vs = cs')
    (h : ∀ w', Chg (· = b) w w' → Box w' b T0 cs' → Rest P N ops Q rest E w') : Rest P N ops Q (⟨none, .store T x y, ty, pos, af, none⟩ :: rest) E w := by
  intro a ha
  obtain ⟨inf, hi, hsz⟩ := Option.map_eq_some_iff.1 hs
  obtain ⟨yv, hyv, hyc⟩ := Option.map_eq_some_iff.1 hy
  unfold wpList
  rw [if_pos (by simp [Region.wanted])]
  left
  have hx' := ha.ev hx
  have hy' := ha.ev hyv
  have hsz2 : yv.cells.size = inf.size := by rw [hsz, ← hyc]; simp
  have hrun : (execOp a.eval ⟨none, .store T x y, ty, pos, af, none⟩).run P w = .ok .skip (if vs = [] then w else setBlk w b (.cells cs'.toArray T0 (0, 0))) := by
    have := run_storeCells (P := P) (o := o) vs 0 w cs hb (by simpa using hlen) hone
    simp only [Nat.add_zero, hcs] at this
    simp [execOp, hx', hy', Instr.storeAt, Instr.sureAddr, storeVar, sizeOf, typeInfo, hi, hsz2, hyc, this]
  unfold Oper.wp
  rw [hrun]
  show wpList P ops Q rest (a.put none undef) _
  by_cases hv : vs = []
  · subst hv
    have hcc : cs = cs' := by rw [← hcs]; simp [splice]
    simp only [if_true]
    exact h w (Chg.of_below (Below.refl _ _)) (hcc ▸ hb) a ha
  · rw [if_neg hv]
    exact h _ (setBlk_chg _ _ _) (setBlk_box hb.lt _ _) a ha
end

theorem GC.abs {P : Program} {N : Nat} {Q : Exit → Act → World → Prop} {L : Sl} {w : World} {c : Code} (L' : Sl) (I : World → Prop)
    (h1 : ∀ Q' : Exit → Act → World → Prop, (∀ w', I w' → GQ N Q' .normal L' w') → GC P N c Q' L w) (h2 : ∀ w', I w' → GQ N Q .normal L' w') : GC P N c Q L w := h1 Q h2

theorem Out.asB {P : Program} {w : World} {e b : Bool} {r : Result Next} (h : Out P (fun v' w' => v' = .bool e ∧ Below w.heap.size w w') r) (he : e = b) : Out P (fun v' w' => v' = .bool b ∧ Below w.heap.size w w') r := he ▸ h

/-! ### Data that is only read -/

theorem bto {B : Nat} {w w1 w2 : World} (e : Below B w w1) (hB : B ≤ w.heap.size) (h : Below w1.heap.size w1 w2) : Below B w w2 := e.trans (h.mono (Nat.le_trans hB e.size))

theorem Has.below {w w' : World} {b o : Nat} {cs : List Value} (h : Has w b o cs) (hb : b < w.heap.size) (e : Below w.heap.size w w') : Has w' b o cs := fun j v hj => by
  rw [e.cell (p := ⟨b, o + j, none⟩) hb]; exact h j v hj

def ab (a : Option Addr) : Nat := (a.getD ⟨0, 0, none⟩).block
def ao (a : Option Addr) : Nat := (a.getD ⟨0, 0, none⟩).off

/-- how data of a type lies in cells: 'rd': it reads so; 'own': besides, its memory is of its own: the blocks fp -/
structure Rp (α : Type) where
  sz : Nat
  rd : World → List Value → α → Prop
  mono : ∀ {w w' : World} {cs : List Value} {x : α}, Below w.heap.size w w' → rd w cs x → rd w' cs x
  own : World → List Value → α → List Nat → Prop
  own_rd : ∀ {w : World} {cs : List Value} {x : α} {fp : List Nat}, own w cs x fp → rd w cs x
  own_keep : ∀ {w w' : World} {cs : List Value} {x : α} {fp : List Nat}, own w cs x fp → (∀ b ∈ fp, w'.heap[b]? = w.heap[b]?) → own w' cs x fp
  own_lt : ∀ {w : World} {cs : List Value} {x : α} {fp : List Nat}, own w cs x fp → ∀ b ∈ fp, b < w.heap.size
  own_nd : ∀ {w : World} {cs : List Value} {x : α} {fp : List Nat}, own w cs x fp → fp.Nodup
  rd_len : ∀ {w : World} {cs : List Value} {x : α}, rd w cs x → cs.length = sz
  own_one : ∀ {w : World} {cs : List Value} {x : α} {fp : List Nat}, own w cs x fp → (cs.all fun v => v.oneCell') = true

/-- a slice, by its address and capacity, reads as xs -/
def SlR {α : Type} (r : Rp α) (w : World) (a : Option Addr) (c : Nat) (xs : List α) : Prop :=
  xs.length ≤ c ∧ xs.length ≤ 9223372036854775807 ∧ ∀ (i : Nat) (x : α), xs[i]? = some x → a = some ⟨ab a, ao a, none⟩ ∧ ab a < w.heap.size ∧ ∃ cs, cs.length = r.sz ∧ Has w (ab a) (ao a + i * r.sz) cs ∧ r.rd w cs x

theorem SlR.below {α : Type} {r : Rp α} {w w' : World} {a : Option Addr} {c : Nat} {xs : List α} (h : SlR r w a c xs) (e : Below w.heap.size w w') : SlR r w' a c xs :=
  ⟨h.1, h.2.1, fun i x hx => by
    obtain ⟨h1, h2, cs, h3, h4, h5⟩ := h.2.2 i x hx
    exact ⟨h1, Nat.lt_of_lt_of_le h2 e.size, cs, h3, h4.below h2 e, r.mono e h5⟩⟩

/-- a slice whose memory is of its own: nil, or the head of a row of cells, one block, which may be written -/
def SlO {α : Type} (r : Rp α) (w : World) (a : Option Addr) (c : Nat) (xs : List α) (fp : List Nat) : Prop :=
  xs.length ≤ c ∧ xs.length ≤ 9223372036854775807 ∧ ((c = 0 ∧ xs = [] ∧ fp = []) ∨
  ∃ (b : Nat) (T : TypeId) (cells : List Value) (fps : List (List Nat)), a = some ⟨b, 0, none⟩ ∧ Box w b T cells ∧ cells.length = c * r.sz ∧ fps.length = xs.length ∧
    (∀ (i : Nat) (x : α) (f : List Nat), xs[i]? = some x → fps[i]? = some f → r.own w ((cells.drop (i * r.sz)).take r.sz) x f) ∧ fp = b :: fps.flatten ∧ fp.Nodup)

theorem SlO.read {α : Type} {r : Rp α} {w : World} {a : Option Addr} {c : Nat} {xs : List α} {fp : List Nat} (h : SlO r w a c xs fp) : SlR r w a c xs := by
  obtain ⟨h1, h2, h⟩ := h
  refine ⟨h1, h2, fun i x hx => ?_⟩
  rcases h with ⟨rfl, rfl, rfl⟩ | ⟨b, T, cells, fps, rfl, hb, hl, hfl, hel, rfl, hnd⟩
  · simp at hx
  · have hlt : i < xs.length := (List.getElem?_eq_some_iff.1 hx).1
    have hf : fps[i]? = some (fps[i]'(by omega)) := List.getElem?_eq_getElem _
    have ho := hel i x _ hx hf
    have hrd := r.own_rd ho
    have hlen := r.rd_len hrd
    refine ⟨rfl, hb.lt, _, hlen, ?_, hrd⟩
    refine hb.has _ _ ?_
    simp only [ao, Option.getD_some, Nat.zero_add]
    rw [hlen]

theorem SlO.keep {α : Type} {r : Rp α} {w w' : World} {a : Option Addr} {c : Nat} {xs : List α} {fp : List Nat} (h : SlO r w a c xs fp) (hk : ∀ b ∈ fp, w'.heap[b]? = w.heap[b]?) : SlO r w' a c xs fp := by
  obtain ⟨h1, h2, h⟩ := h
  refine ⟨h1, h2, ?_⟩
  rcases h with h | ⟨b, T, cells, fps, rfl, hb, hl, hfl, hel, rfl, hnd⟩
  · exact .inl h
  · refine .inr ⟨b, T, cells, fps, rfl, ?_, hl, hfl, fun i x f hx hf => ?_, rfl, hnd⟩
    · unfold Box; rw [hk b List.mem_cons_self]; exact hb
    · exact r.own_keep (hel i x f hx hf) fun b' hb' => hk b' (List.mem_cons_of_mem _ (List.mem_flatten.2 ⟨f, List.mem_of_getElem? hf, hb'⟩))

theorem SlO.lt {α : Type} {r : Rp α} {w : World} {a : Option Addr} {c : Nat} {xs : List α} {fp : List Nat} (h : SlO r w a c xs fp) : ∀ b ∈ fp, b < w.heap.size := by
  obtain ⟨h1, h2, h⟩ := h
  rcases h with ⟨rfl, rfl, rfl⟩ | ⟨b, T, cells, fps, rfl, hb, hl, hfl, hel, rfl, hnd⟩
  · intro b hb; cases hb
  · intro b' hb'
    rcases List.mem_cons.1 hb' with rfl | hb'
    · exact hb.lt
    · obtain ⟨f, hf, hbf⟩ := List.mem_flatten.1 hb'
      obtain ⟨i, hi⟩ := List.mem_iff_getElem?.1 hf
      have hlt : i < xs.length := by have := (List.getElem?_eq_some_iff.1 hi).1; omega
      exact r.own_lt (hel i _ f (List.getElem?_eq_getElem hlt) hi) b' hbf

theorem SlO.nd {α : Type} {r : Rp α} {w : World} {a : Option Addr} {c : Nat} {xs : List α} {fp : List Nat} (h : SlO r w a c xs fp) : fp.Nodup := by
  obtain ⟨h1, h2, h⟩ := h
  rcases h with ⟨rfl, rfl, rfl⟩ | ⟨b, T, cells, fps, rfl, hb, hl, hfl, hel, rfl, hnd⟩
  · exact List.nodup_nil
  · exact hnd

theorem SlO.below {α : Type} {r : Rp α} {w w' : World} {a : Option Addr} {c : Nat} {xs : List α} {fp : List Nat} (h : SlO r w a c xs fp) (e : Below w.heap.size w w') : SlO r w' a c xs fp :=
  h.keep fun b hb => e.block b (h.lt b hb)
theorem SlO.chg {α : Type} {r : Rp α} {SS : Nat → Prop} {w w' : World} {a : Option Addr} {c : Nat} {xs : List α} {fp : List Nat} (h : SlO r w a c xs fp) (e : Chg SS w w') (hn : ∀ b ∈ fp, ¬ SS b) : SlO r w' a c xs fp :=
  h.keep fun b hb => e.block b (h.lt b hb) (hn b hb)

def Rp.slice {α : Type} (r : Rp α) : Rp (List α) where
  sz := 1
  rd w cs xs := ∃ a c, cs = [.slice a xs.length c] ∧ SlR r w a c xs
  mono e h := let ⟨a, c, h1, h2⟩ := h; ⟨a, c, h1, h2.below e⟩
  own w cs xs fp := ∃ a c, cs = [.slice a xs.length c] ∧ SlO r w a c xs fp
  own_rd h := let ⟨a, c, h1, h2⟩ := h; ⟨a, c, h1, h2.read⟩
  own_keep h hk := let ⟨a, c, h1, h2⟩ := h; ⟨a, c, h1, h2.keep hk⟩
  own_lt h := let ⟨_, _, _, h2⟩ := h; h2.lt
  own_nd h := let ⟨_, _, _, h2⟩ := h; h2.nd
  rd_len h := let ⟨_, _, h1, _⟩ := h; h1 ▸ rfl
  own_one h := let ⟨_, _, h1, _⟩ := h; h1 ▸ rfl

/-- data without memory of its own -/
def Rp.flat {α : Type} (n : Nat) (f : α → List Value) (hf : ∀ x, (f x).length = n) (h1 : ∀ x, ((f x).all fun v => v.oneCell') = true) : Rp α where
  sz := n
  rd _ cs x := cs = f x
  mono _ h := h
  own _ cs x fp := cs = f x ∧ fp = []
  own_rd h := h.1
  own_keep h _ := h
  own_lt h b hb := by rw [h.2] at hb; cases hb
  own_nd h := by rw [h.2]; exact List.nodup_nil
  rd_len h := by rw [h]; exact hf _
  own_one h := by rw [h.1]; exact h1 _

def rpInt : Rp Int := Rp.flat 1 (fun n => [.int .i64 n]) (fun _ => rfl) (fun _ => rfl)
def rpByte : Rp UInt8 := Rp.flat 1 (fun n => [.int .u8 (n.toNat : Int)]) (fun _ => rfl) (fun _ => rfl)
def rpBool : Rp Bool := Rp.flat 1 (fun n => [.bool n]) (fun _ => rfl) (fun _ => rfl)
def rpStr : Rp ByteArray := Rp.flat 1 (fun n => [.string n]) (fun _ => rfl) (fun _ => rfl)

/-- an element's address, the slice's address being some -/
theorem Out.idxS {P : Program} {w : World} {E : Sl} {d : Option Tmp} {ty : TypeId} {pos : String} {af : Array Edge} {g : Option (Nat × Bool)} {x y : Operand} {T U : TypeId} {a : Option Addr} {n c sz : Nat} (k : Nat)
    (hx : evL E x = .slice a n c) (hy : evL E y = .int .i64 (k : Int)) (hk : k < n) (ha : a = some ⟨ab a, ao a, none⟩)
    (hT : P.underlying T = some (.slice U)) (hs : (P.info? U).map (·.size) = some sz) :
    Out P (fun v' w' => v' = .pointer (some ⟨ab a, ao a + k * sz, none⟩) ∧ Below w.heap.size w w') ((execOp (evL E) ⟨d, .indexAddr T x y, ty, pos, af, g⟩).run P w) :=
  Out.idx (by rw [hx]; exact congrArg (fun z => Value.slice z n c) ha) hy hk hT hs

theorem AllUp.same {ws w0 : World} {items : List Item} {vs : Nat → Value} {lo hi : Nat → Nat} {w : World} (h : AllUp ws w0 items vs lo hi w) (hall : (items.all fun it => match it.kind with | .wl | .skip => true | _ => false) = true) : w = ws :=
  h.2.2.2 fun i it hit => by
    have := List.all_eq_true.1 hall it (List.mem_of_getElem? hit)
    cases hk : it.kind <;> simp only [hk] at this ⊢ <;> first | trivial | cases this

/-- a region that touches no memory -/
theorem GC.regW {P : Program} {N : Nat} {Q : Exit → Act → World → Prop} {L : Sl} {w : World} {l : List Oper} {id : Nat} (items : List Item) (L' : Sl) (hm : P.follows .mixedOrders = true)
    (hall : (items.all fun it => match it.kind with | .wl | .skip => true | _ => false) = true)
    (hk : ∀ vs w, (chk l items items.length N false, guardsOk l vs l items L, wlRes P vs w l items L) = (true, true, wlExp vs w l items)) (hlen : l.length = items.length)
    (hs : ∀ vs, L'.map (fun p => getO (envOf vs l items L) p.1) = L'.map (fun p => some p.2)) (h : GQ N Q .normal L' w) : GC P N (.region id l.toArray false) Q L w := by
  refine GC.reg items.length items hm hk ?_ ?_
  · clear hk hs hlen
    have : ∀ (os : List Oper) (its : List Item) (i : Nat) (E : (Nat → Value) → Sl), (its.all fun it => match it.kind with | .wl | .skip => true | _ => false) = true → Prem P w (msks l []) items os its i E := by
      intro os
      induction os with
      | nil => intro its i E _; cases its <;> exact trivial
      | cons o os ih =>
        intro its i E ha
        cases its with
        | nil => exact trivial
        | cons it its =>
          simp only [List.all_cons, Bool.and_eq_true] at ha
          simp only [Prem]
          cases hk : it.kind <;> simp only [hk] at ha ⊢ <;> first | exact ih its _ _ ha.2 | exact absurd ha.1 (by simp)
    exact this l items 0 _ hall
  · intro vs lo hi w' hup
    obtain rfl : w' = w := hup.same hall
    rw [List.drop_of_length_le (by omega), List.take_of_length_le (by omega)]
    exact Rest.nil (h.sub L' (hs vs))

/-- number i, a fresh variable -/
def RB (i : Nat) (T : TypeId) (cs : List Value) : Item := R i (BoxG T cs) (BoxG.stable T cs)

theorem Has.sub {w : World} {b o : Nat} {cs : List Value} (h : Has w b o cs) (j : Nat) (cs' : List Value) (hs : (cs.drop j).take cs'.length = cs') : Has w b (o + j) cs' := by
  intro i v hv
  rw [← hs, List.getElem?_take] at hv
  split at hv
  · rw [List.getElem?_drop] at hv
    have := h (j + i) v hv
    rwa [← Nat.add_assoc] at this
  · cases hv

theorem Box.cell {w : World} {b : Nat} {T : TypeId} {cs : List Value} (h : Box w b T cs) (o : Nat) (v : Value) (hv : cs[o]? = some v) : w.cell? ⟨b, o, none⟩ = some v := by
  have hb : w.heap[b]? = some (.cells cs.toArray T (0, 0)) := h
  simp [World.cell?, hb, hv]

theorem Box.to {w w' : World} {b : Nat} {T : TypeId} {cs : List Value} (h : Box w b T cs) (e : Below w.heap.size w w') : Box w' b T cs := h.below e h.lt
theorem brefl (w : World) : Below w.heap.size w w := Below.refl _ _
/-- a base and two steps -/
theorem btr {w w1 w2 : World} (e : Below w.heap.size w w1) (h : Below w1.heap.size w1 w2) : Below w.heap.size w w2 := e.trans (h.mono e.size)

theorem bchg1 {B b : Nat} {w w1 w2 : World} (e : Below B w w1) (hB : B ≤ w.heap.size) (h : Chg (· = b) w1 w2) (hb : B ≤ b) : Below B w w2 :=
  e.trans (h.below (Nat.le_trans hB e.size) fun k hk he => Nat.lt_irrefl k (Nat.lt_of_lt_of_le hk (he ▸ hb)))

theorem ltg {α : Type} {xs : List α} {k : Nat} {x : α} (h : xs[k]? = some x) : k < xs.length := (List.getElem?_eq_some_iff.1 h).1

theorem SlR.nil {α : Type} (r : Rp α) (w : World) : SlR r w none 0 [] := ⟨Nat.le_refl _, by simp, fun i x h => by simp at h⟩

theorem Out.idxE {P : Program} {w : World} {E : Sl} {d : Option Tmp} {ty : TypeId} {pos : String} {af : Array Edge} {g : Option (Nat × Bool)} {x y : Operand} {T U : TypeId} {a : Option Addr} {n c sz : Nat} {i : Int} (k : Nat)
    (hx : evL E x = .slice a n c) (hy : evL E y = .int .i64 i) (hi : i = (k : Int)) (hk : k < n) (ha : a = some ⟨ab a, ao a, none⟩)
    (hT : P.underlying T = some (.slice U)) (hs : (P.info? U).map (·.size) = some sz) :
    Out P (fun v' w' => v' = .pointer (some ⟨ab a, ao a + k * sz, none⟩) ∧ Below w.heap.size w w') ((execOp (evL E) ⟨d, .indexAddr T x y, ty, pos, af, g⟩).run P w) :=
  Out.idxS k hx (by rw [hy, hi]) hk ha hT hs

theorem AllUp.ne {ws w0 : World} {items : List Item} {vs : Nat → Value} {lo hi : Nat → Nat} {w : World} (h : AllUp ws w0 items vs lo hi w) (i j : Nat) {iti itj : Item} (hi' : items[i]? = some iti) (hj : items[j]? = some itj)
    (ki : (match iti.kind with | .rel => True | _ => False)) (kj : (match itj.kind with | .rel => True | _ => False)) (hne : i ≠ j) (hli : lo i < hi i) (hlj : lo j < hi j) : lo i ≠ lo j := by
  rcases h.2.2.1 i j iti itj hi' hj ki kj hne with h | h <;> omega

end Go.Proofs.Ytjefeigdapcleaa
