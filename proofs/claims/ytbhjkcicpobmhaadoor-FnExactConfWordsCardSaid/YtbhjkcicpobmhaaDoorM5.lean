/-
  The machine, fifth part: operations that make new memory.
-/
import Derived.Test.YtbhjkcicpobmhaaDoorM4
namespace Go.Proofs.YtbhjkcicpobmhaaDoor
open Go.RowKit
set_option linter.unusedVariables false
set_option linter.unusedSimpArgs false

section
variable {P : Program} {fs fsA : Nat → Option Fact} {β : Nat → Nat → Value} {φ : Nat → List Nat} {dom ψ IN : Nat → Prop} {w0 w w' : World} {base : Nat}

/-! ### Variables -/

def eBoxC (T : TypeId) (base : Nat) (cs : List AV) : Option OpR := bif cs.all AV.one then some ⟨[], .p base 0, [(base, some (.box T cs))]⟩ else none

theorem eBoxC_ok (R : Rel P fsA β φ dom ψ IN w0 w) (hb : ∀ id, base ≤ id → id < base + stride → ¬ dom id) {T : TypeId} {cs : List AV} {r : OpR} (h : eBoxC T base cs = some r) (hw : AVs.wf dom cs) {run : Result Next}
    (hrun : run = .ok (.value (.pointer (some ⟨w.heap.size, 0, none⟩))) { w with heap := w.heap.push (.cells (vals β cs).toArray T) }) : Snd P fsA base r β φ dom ψ IN w0 run := by
  unfold eBoxC at h
  cases hc : cs.all AV.one with
  | false => rw [hc] at h; cases h
  | true =>
    rw [hc] at h
    cases h
    have hnb : ¬ dom base := hb base (Nat.le_refl _) (by unfold stride; omega)
    refine Snd.new1 R hb (.box T cs) (fun _ => .pointer (some ⟨w.heap.size, 0, none⟩)) [w.heap.size] (bpush w (.cells (vals β cs).toArray T)) (fun _ => rfl) ⟨⟨AVs.wf_mono (fun i h => .inl h) cs hw, hc⟩, w.heap.size, by rw [up_self], ?_, by rw [up_self]⟩ (fun _ _ e => by cases e) (fun _ b hbb => ?_) (.inr rfl) ?_
    · have : vals (up β base fun _ => .pointer (some ⟨w.heap.size, 0, none⟩)) cs = vals β cs := vals_congr (β := β) (dom := dom) (fun id hid => up_ne _ _ _ (fun e : id = base => hnb (e ▸ hid))) cs hw
      rw [this]
      simp [Box]
    · simp only [List.mem_singleton] at hbb
      subst hbb
      simp
    · rw [hrun]
      simp [val, up_self, padd]

def eAlloc (P : Program) (base : Nat) (T : TypeId) : Option OpR := match (P.info? T).bind (·.zero) with
  | some z => eBoxC T base (z.cells.toList.map .v)
  | none => none
theorem eAlloc_ok (R : Rel P fsA β φ dom ψ IN w0 w) (hb : ∀ id, base ≤ id → id < base + stride → ¬ dom id) {T : TypeId} {r : OpR} (h : eAlloc P base T = some r) {f : Value → Next} (hf : f = Next.value) :
    Snd P fsA base r β φ dom ψ IN w0 ((do pure (f (← Instr.alloc T true (.tuple #[]))) : Sem Next).run P w) := by
  unfold eAlloc at h
  split at h
  · rename_i z hz
    obtain ⟨inf, hi, hzz⟩ := Option.bind_eq_some_iff.1 hz
    refine eBoxC_ok R hb h (AVs.wf_v _) ?_
    subst hf
    simp [Instr.alloc, zeroValue, typeInfo, hi, hzz, newVar, newRow, vals_v]
  · cases h

def eBox (base : Nat) (T : TypeId) (a : AV) : Option OpR := eBoxC T base a.cells
theorem eBox_ok (R : Rel P fsA β φ dom ψ IN w0 w) (hb : ∀ id, base ≤ id → id < base + stride → ¬ dom id) {T : TypeId} {a : AV} {r : OpR} (h : eBox base T a = some r) (hw : a.wf dom) :
    Snd P fsA base r β φ dom ψ IN w0 ((do pure (Next.value (← Instr.box T (val β a))) : Sem Next).run P w) := by
  refine eBoxC_ok R hb h (AV.cells_wf hw) ?_
  have := AV.cells_val R.one hw
  have e : (val β a).cells = (vals β a.cells).toArray := by rw [← this]
  simp [Instr.box, newVar, newRow, e]

/-! ### Structs from their parts -/

def places (P : Program) : List Field → Option (List (Nat × Nat))
  | [] => some []
  | f :: r => match tSize P f.type, places P r with
    | some n, some ps => some ((f.offset, n) :: ps)
    | _, _ => none

def fillA (pl : Nat → Option (Nat × Nat)) : List AV → List (Nat × AV) → Option (List AV)
  | cells, [] => some cells
  | cells, (i, a) :: rest => match pl i with
    | some (off, size) => bif Nat.beq a.cells.length size && Nat.ble (off + size) cells.length then fillA pl (cells.take off ++ a.cells ++ cells.drop (off + size)) rest else none
    | none => none

theorem fold_set (off : Nat) : ∀ (l : List Value) (k : Nat) (cells : List Value), off + k + l.length ≤ cells.length →
    (l.zipIdx k).foldl (fun (cs : Array Value) (x : Value × Nat) => cs.setIfInBounds (off + x.2) x.1) cells.toArray = (cells.take (off + k) ++ l ++ cells.drop (off + k + l.length)).toArray
  | [], k, cells, h => by simp
  | c :: l, k, cells, h => by
    simp only [List.length_cons] at h
    simp only [List.zipIdx_cons, List.foldl_cons, List.setIfInBounds_toArray]
    rw [fold_set off l (k + 1) (cells.set (off + k) c) (by simp; omega)]
    congr 1
    have e1 : (cells.set (off + k) c).take (off + (k + 1)) = cells.take (off + k) ++ [c] := by
      rw [List.set_eq_take_append_cons_drop, if_pos (by omega), List.take_append, List.length_take, Nat.min_eq_left (by omega), List.take_of_length_le (by simp; omega), show off + (k + 1) - (off + k) = 1 from by omega]
      simp
    have e2 : (cells.set (off + k) c).drop (off + (k + 1) + l.length) = cells.drop (off + k + (c :: l).length) := by
      rw [List.drop_set_of_lt (by omega)]
      congr 1; simp; omega
    rw [e1, e2]
    simp

theorem fillA_ok (h1 : ∀ id, dom id → ∀ j, (β id j).oneCell' = true) (pl : Nat → Option (Nat × Nat)) : ∀ (ps : List (Nat × AV)) (cells out : List AV), fillA pl cells ps = some out → (∀ p ∈ ps, p.2.wf dom) → AVs.wf dom cells →
    Instr.fill pl (vals β cells).toArray (ps.map fun p => (p.1, val β p.2)) = some (vals β out).toArray ∧ AVs.wf dom out
  | [], cells, out, h, _, hc => by
    simp only [fillA, Option.some.injEq] at h
    subst h
    exact ⟨rfl, hc⟩
  | (i, a) :: ps, cells, out, h, hw, hc => by
    simp only [fillA] at h
    split at h
    · rename_i off size hp
      cases hb : (Nat.beq a.cells.length size && Nat.ble (off + size) cells.length) with
      | false => rw [hb] at h; cases h
      | true =>
        rw [hb] at h
        simp only [cond_true] at h
        simp only [Bool.and_eq_true] at hb
        have hs := Nat.eq_of_beq_eq_true hb.1
        have hl := Nat.le_of_ble_eq_true hb.2
        have hwa := hw _ List.mem_cons_self
        have hcv := AV.cells_val (β := β) h1 hwa
        have e : (val β a).cells = (vals β a.cells).toArray := by rw [← hcv]
        have hwo : AVs.wf dom (cells.take off ++ a.cells ++ cells.drop (off + size)) := AVs.wf_app (AVs.wf_app (AVs.wf_take _ hc) (AV.cells_wf hwa)) (AVs.wf_drop _ hc)
        obtain ⟨g1, g2⟩ := fillA_ok h1 pl ps _ out h (fun p hp => hw p (List.mem_cons_of_mem _ hp)) hwo
        refine ⟨?_, g2⟩
        have hfs := fold_set off (vals β a.cells) 0 (vals β cells) (by simp only [vals_len]; omega)
        simp only [List.map_cons, Instr.fill, hp, e, List.size_toArray, vals_len, hs]
        rw [if_neg (by simp; omega)]
        rw [← g1]
        congr 1
        simp only [vals_app, vals_take, vals_drop]
        have hz : (vals β a.cells).toArray.zipIdx = ((vals β a.cells).zipIdx 0).toArray := by simp
        rw [hz, List.foldl_toArray]
        simp only [Nat.add_zero, vals_len, hs] at hfs
        exact hfs
    · cases h

theorem places_ok : ∀ {l : List Field} {ps : List (Nat × Nat)}, places P l = some ps → (l.mapM fun f => (do pure (f.offset, ← sizeOf f.type) : Sem (Nat × Nat))).run P w = .ok ps w
  | [], ps, h => by simp only [places, Option.some.injEq] at h; subst h; rfl
  | f :: l, ps, h => by
    simp only [places] at h
    split at h
    · rename_i n ps' h1 h2
      simp only [Option.some.injEq] at h
      subst h
      obtain ⟨inf, hi, hs⟩ := Option.map_eq_some_iff.1 h1
      have ih := places_ok h2
      rw [List.mapM_cons]
      simp [sizeOf, typeInfo, hi, hs] at ih ⊢
      simp [ih]
    · cases h

def eBuild (P : Program) (T : TypeId) (ps : List (Nat × AV)) : Option OpR := match P.underlying T, (P.info? T).bind (·.zero) with
  | some (.struct fs), some z => (match places P fs.toList with
    | some pl => (match fillA (pl[·]?) (z.cells.toList.map .v) ps with | some out => some ⟨[], .ag out, []⟩ | none => none)
    | none => none)
  | _, _ => none

theorem eBuild_ok (R : Rel P fsA β φ dom ψ IN w0 w) {T : TypeId} {ps : List (Nat × AV)} {r : OpR} (h : eBuild P T ps = some r) (hw : ∀ p ∈ ps, p.2.wf dom) :
    (Instr.build T (ps.map fun p => (p.1, val β p.2)).toArray).run P w = .ok (val β r.av) w ∧ r.av.wf dom ∧ r.sets = [] ∧ r.vcs = [] := by
  unfold eBuild at h
  split at h
  · rename_i fs z hu hz
    split at h
    · rename_i pl hpl
      split at h
      · rename_i out ho
        cases h
        obtain ⟨inf, hi, hzz⟩ := Option.bind_eq_some_iff.1 hz
        obtain ⟨g1, g2⟩ := fillA_ok R.one _ ps _ out ho hw (AVs.wf_v _)
        rw [vals_v] at g1
        refine ⟨?_, g2, rfl, rfl⟩
        have hp := places_ok (w := w) hpl
        have hp2 : (fs.mapM fun f => (do pure (f.offset, ← sizeOf f.type) : Sem (Nat × Nat))).run P w = .ok pl.toArray w := by
          rw [Array.mapM_eq_mapM_toList]
          simp only [Sem.run_map, hp, Result.andThen_ok]
        simp only [Instr.build, Sem.run_bind, zeroValue, typeInfo, run_program, hi, Sem.run_pure, Result.andThen_ok, hzz, run_underlying hu, hp2]
        have e : (fun x : Nat => pl.toArray[x]?) = (fun x => pl[x]?) := funext fun x => by simp
        have e2 : z.cells.toList.toArray = z.cells := by simp
        rw [e2] at g1
        rw [e]
        simp [g1, val]
      · cases h
    · cases h
  · cases h

end
end Go.Proofs.YtbhjkcicpobmhaaDoor
