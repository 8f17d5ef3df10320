/-
  From the row's reading of the arguments to the calculus' own; the row of a law.
-/
import Derived.Test.YtbhjkcicpobmhaaDoorK2
import Derived.ProofKit
namespace Go.Proofs.YtbhjkcicpobmhaaDoor
open Go.RowKit Go.ChangeShapes Go.WideShapes Go.ChangeAt

/-- what reads by the row reads by r -/
def Opens {α : Type} (P : Program) (t : TypeId) (r : Rp α) : Prop :=
  ∀ (H : Type) (enc : TypeId × Value → H) (W : World) (fuel : Nat) (cs : List Value) (y : DataW H × List MemPlace), DataW.trod enc P W 0 (fun _ => true) true fuel t cs = some y → ∃ x, r.rd W cs x

section
variable {P : Program} {t : TypeId}
theorem Opens.int (hu : P.underlying t = some (.int .i64)) : Opens P t rpInt := by
  intro H enc W fuel cs y h
  cases fuel with
  | zero => simp [DataW.trod] at h
  | succ fuel =>
    simp only [DataW.trod, hu] at h
    split at h <;> simp_all [rpInt, Rp.flat]
theorem Opens.byte (hu : P.underlying t = some (.int .u8)) : Opens P t rpByte := by
  intro H enc W fuel cs y h
  cases fuel with
  | zero => simp [DataW.trod] at h
  | succ fuel =>
    have key : ∀ n : Int, (Lit.int .u8 n).wf = true → ∃ x : UInt8, n = (x.toNat : Int) := by
      intro n h1
      simp only [Lit.wf, Bool.and_eq_true, decide_eq_true_eq] at h1
      have a : IntKind.u8.min = 0 := rfl
      have b : IntKind.u8.max = 255 := rfl
      rw [a, b] at h1
      refine ⟨UInt8.ofNat n.toNat, ?_⟩
      rw [UInt8.toNat_ofNat']
      omega
    simp only [DataW.trod, hu] at h
    split at h <;> simp_all [rpByte, Rp.flat]
    all_goals
      obtain ⟨⟨h0, h1⟩, _⟩ := h
      first | (subst h0; exact key _ h1) | exact key _ h1
theorem Opens.bool (hu : P.underlying t = some .bool) : Opens P t rpBool := by
  intro H enc W fuel cs y h
  cases fuel with
  | zero => simp [DataW.trod] at h
  | succ fuel =>
    simp only [DataW.trod, hu] at h
    split at h <;> simp_all [rpBool, Rp.flat]
theorem Opens.str (hu : P.underlying t = some .string) : Opens P t rpStr := by
  intro H enc W fuel cs y h
  cases fuel with
  | zero => simp [DataW.trod] at h
  | succ fuel =>
    simp only [DataW.trod, hu] at h
    split at h <;> simp_all [rpStr, Rp.flat]

theorem mapM_all {α β : Type} {f : α → Option β} : ∀ (l : List α) (ys : List β), l.mapM f = some ys → ∀ x ∈ l, ∃ y, f x = some y
  | [], _, _, x, hx => by cases hx
  | a :: l, ys, h, x, hx => by
    rw [List.mapM_cons] at h
    cases hf : f a with
    | none => rw [hf] at h; cases h
    | some b =>
      rw [hf] at h
      cases hl : l.mapM f with
      | none => simp [hl] at h
      | some bs =>
        rcases List.mem_cons.1 hx with rfl | hx
        · exact ⟨b, hf⟩
        · exact mapM_all l bs hl x hx

theorem mapM_at {α β : Type} {f : α → Option β} : ∀ (l : List α) (ys : List β), l.mapM f = some ys → ys.length = l.length ∧ ∀ (i : Nat) (x : α), l[i]? = some x → f x = ys[i]?
  | [], ys, h => by simp at h; subst h; simp
  | a :: l, ys, h => by
    rw [List.mapM_cons] at h
    cases hf : f a with
    | none => rw [hf] at h; cases h
    | some b =>
      rw [hf] at h
      cases hl : l.mapM f with
      | none => simp [hl] at h
      | some bs =>
        simp [hl] at h
        subst h
        obtain ⟨h1, h2⟩ := mapM_at l bs hl
        refine ⟨by simp [h1], fun i x hx => ?_⟩
        cases i with
        | zero => simp at hx; subst hx; simpa using hf
        | succ i => simpa using h2 i x (by simpa using hx)

theorem trod_struct {H : Type} {enc : TypeId × Value → H} {W : World} {fs : Array Field} (hu : P.underlying t = some (.struct fs)) {fuel : Nat} {cs : List Value} {y : DataW H × List MemPlace}
    (h : DataW.trod enc P W 0 (fun _ => true) true fuel t cs = some y) : cs.length = P.cellsOf t ∧ ∀ (i : Nat) (f : Field), fs[i]? = some f → ∃ n z, DataW.trod enc P W 0 (fun _ => true) true n f.type ((cs.drop f.offset).take (P.cellsOf f.type)) = some z := by
  cases fuel with
  | zero => simp [DataW.trod] at h
  | succ fuel =>
    have e : DataW.trod enc P W 0 (fun _ => true) true (fuel + 1) t cs = if cs.length = P.cellsOf t then (fs.toList.mapM fun f => DataW.trod enc P W 0 (fun _ => true) true fuel f.type ((cs.drop f.offset).take (P.cellsOf f.type))).map fun xs => (.agg (xs.map (·.1)), xs.flatMap (·.2)) else none := by
      have e0 : P.underlying t = some (.struct fs) := hu
      rw [DataW.trod.eq_def]
      simp only [e0]
    rw [e] at h
    split at h
    · rename_i hlen
      refine ⟨hlen, fun i f hf => ?_⟩
      obtain ⟨xs, hx, _⟩ := Option.map_eq_some_iff.1 h
      obtain ⟨z, hz⟩ := mapM_all _ _ hx f (Array.mem_toList_iff.2 (Array.mem_of_getElem? hf))
      exact ⟨fuel, z, hz⟩
    · cases h

theorem exists_list {α : Type} {Q : Nat → α → Prop} : ∀ n, (∀ i, i < n → ∃ x, Q i x) → ∃ xs : List α, xs.length = n ∧ ∀ (i : Nat) (x : α), xs[i]? = some x → Q i x
  | 0, _ => ⟨[], rfl, fun i x h => by simp at h⟩
  | n + 1, h => by
    obtain ⟨xs, hl, hq⟩ := exists_list n (fun i hi => h i (by omega))
    obtain ⟨x, hx⟩ := h n (by omega)
    refine ⟨xs ++ [x], by simp [hl], fun i y hy => ?_⟩
    by_cases hi : i < n
    · rw [List.getElem?_append_left (by omega)] at hy; exact hq i y hy
    · have hin : i = n := by
        have := (List.getElem?_eq_some_iff.1 hy).1
        simp at this; omega
      subst hin
      rw [List.getElem?_append_right (by omega)] at hy
      simp [hl] at hy
      exact hy ▸ hx

theorem cells?_has {w : World} {a : Addr} {n : Nat} {cs : List Value} (h : w.cells? 0 a n = some cs) : cs.length = n ∧ ∀ (j : Nat) (v : Value), cs[j]? = some v → w.cell? (a.add j) = some v := by
  simp only [World.cells?, Nat.zero_le, if_true] at h
  obtain ⟨h1, h2⟩ := mapM_at _ _ h
  refine ⟨by simpa using h1, fun j v hj => ?_⟩
  have hlt := (List.getElem?_eq_some_iff.1 hj).1
  have := h2 j j (by rw [List.getElem?_range (by simpa [h1] using hlt)])
  rw [this, hj]

theorem Opens.slice {α : Type} {e : TypeId} {r : Rp α} (hu : P.underlying t = some (.slice e)) (ho : Opens P e r) (hsz : P.cellsOf e = r.sz) (hpos : 0 < r.sz) : Opens P t r.slice := by
  intro H enc W fuel cs y h
  cases fuel with
  | zero => simp [DataW.trod] at h
  | succ fuel =>
    simp only [DataW.trod, hu] at h
    split at h <;> try (simp_all; done)
    · exact ⟨[], none, 0, rfl, SlR.nil r W⟩
    · rename_i e' a len cap heq
      simp only [Option.some.injEq, TypeDesc.slice.injEq] at heq
      subst heq
      split at h
      · rename_i hcap
        cases hm : (List.range len).mapM (fun i => (W.cells? 0 (a.add (i * P.cellsOf e)) (P.cellsOf e)).bind (DataW.trod enc P W 0 (fun _ => true) true fuel e)) with
        | none => rw [hm] at h; simp at h
        | some els =>
          have hat : ∀ i, i < len → ∃ cs, W.cells? 0 (a.add (i * r.sz)) r.sz = some cs ∧ ∃ x, r.rd W cs x := by
            intro i hi
            obtain ⟨z, hz⟩ := mapM_all _ _ hm i (by simpa using hi)
            obtain ⟨cs, hc, hz⟩ := Option.bind_eq_some_iff.1 hz
            rw [hsz] at hc
            exact ⟨cs, hc, ho H enc W fuel cs z hz⟩
          obtain ⟨xs, hlen, hxs⟩ := exists_list (Q := fun i x => ∃ cs, W.cells? 0 (a.add (i * r.sz)) r.sz = some cs ∧ r.rd W cs x) len (fun i hi => by
            obtain ⟨cs, h1, x, h2⟩ := hat i hi; exact ⟨x, cs, h1, h2⟩)
          refine ⟨xs, some a, cap, by rw [hlen], by omega, by have := hcap.2.2; unfold maxLen at this; omega, fun i x hx => ?_⟩
          have hi : i < len := by have := (List.getElem?_eq_some_iff.1 hx).1; omega
          -- the address is plain
          have hspot : a.spot = none := by
            obtain ⟨c0, h1, _⟩ := hat 0 (by omega)
            obtain ⟨hl, hc⟩ := cells?_has h1
            have hz : c0[0]? = some (c0[0]'(by omega)) := List.getElem?_eq_getElem _
            have := hc 0 _ hz
            simp only [Nat.zero_mul, Addr.add, if_true] at this
            unfold World.cell? at this
            split at this
            · split at this
              · cases this
              · rename_i hs; simpa using hs
            · cases this
          have ha : a = ⟨a.block, a.off, none⟩ := by cases a; simp_all
          obtain ⟨cs', h1, h2⟩ := hxs i x hx
          obtain ⟨hl, hc⟩ := cells?_has h1
          have hhas : Has W a.block (a.off + i * r.sz) cs' := by
            intro j v hj
            have := hc j v hj
            rw [ha] at this
            simpa [addr_add] using this
          refine ⟨by simp only [ab, ao, Option.getD_some]; exact congrArg some ha, ?_, cs', hl, hhas, h2⟩
          have hz : cs'[0]? = some (cs'[0]'(by omega)) := List.getElem?_eq_getElem _
          have hlt := World.block_lt_of_cell? W _ (hhas 0 _ hz)
          simpa [ab] using hlt
      · cases h
end

/-- the row's post, of a law that answered true and left all that was there -/
theorem law_post {H : Type} {enc : TypeId × Value → H} {P : Program} {f : Func} {s : ChangeSpec} {W W' : World} {args : Array Value} {ds : List (DataW H)} {before : List MemPlace} {b : Nat}
    (hv : s.vars = []) (hW : DataW.Whole enc P f.params.toList s.vars false W args.toList ds [] before) (hb : Below W.heap.size W W')
    (hres : f.resultTypes = #[b]) (hbt : P.underlying b = some .bool) (hsr : (s.fn H (ds ++ [])).results = [.lit (.bool true)]) (hsa : (s.fn H (ds ++ [])).args = ds) (hsv : (s.fn H (ds ++ [])).vars = [])
    (hl : laidOutB P = true) (hr : ∀ t ∈ f.params.toList, P.readableRec t = true ∧ t < P.types.size) :
    s.post enc P f false true false false W args (.bool true) W' := by
  have hW' := hW
  obtain ⟨p, q, hA, hV, rfl, hfz, hnd⟩ := hW
  rw [hv] at hV
  have hq : q = [] := hV
  subst hq
  refine ⟨ds, [], p ++ [], [], p, [], hW', ?_, ?_, ?_, hb.frame _, fun h => by cases h⟩
  · rw [hsr, hres]
    refine ⟨[], [], ⟨1, ?_⟩, rfl, rfl⟩
    simp [Value.cells, DataW.trod, hbt]
  · rw [hsa]
    have hlt : ∀ x ∈ p, x.block < W.heap.size := fun x hx => by simpa using hW'.lt x (by simpa using hx)
    have key : ∀ (ts : List TypeId) (vs : List Value) (ds : List (DataW H)) (p : List MemPlace), (∀ t ∈ ts, P.readableRec t = true ∧ t < P.types.size) → (∀ x ∈ p, x.block < W.heap.size) →
        DataW.TrodAll enc P W 0 (fun _ => true) true ts vs ds p → DataW.TrodAll enc P W' 0 (fun b => decide (b < W.heap.size)) true ts vs ds p := by
      intro ts
      induction ts with
      | nil => intro vs ds p _ _ h; cases vs <;> cases ds <;> first | exact h | exact h.elim
      | cons t ts ih =>
        intro vs ds p hr hlt h
        cases vs with
        | nil => exact h.elim
        | cons v vs =>
          cases ds with
          | nil => exact h.elim
          | cons d ds =>
            obtain ⟨p1, q1, h1, h2, rfl⟩ := h
            exact ⟨p1, q1, Below.trod hl (hr t List.mem_cons_self).1 (hr t List.mem_cons_self).2 h1 hb (fun x hx => hlt x (List.mem_append_left _ hx)),
              ih vs ds q1 (fun t ht => hr t (List.mem_cons_of_mem _ ht)) (fun x hx => hlt x (List.mem_append_right _ hx)) h2, rfl⟩
    exact key _ _ _ _ hr hlt hA
  · rw [hsv, hv]; exact rfl

end Go.Proofs.YtbhjkcicpobmhaaDoor
