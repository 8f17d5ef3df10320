/-
  The calculus, fourth part: slices that the code makes: make, a store into an element.
-/
import Derived.Test.YtfehpdcfndhniaaK2
namespace Go.Proofs.Ytfehpdcfndhniaa
open Go.RowKit

/-- the cells of n zero elements -/
def zeros (zc : List Value) (n : Nat) : List Value := (List.replicate n zc).flatten

theorem zeros_len (zc : List Value) (n : Nat) : (zeros zc n).length = n * zc.length := by
  simp [zeros, List.length_flatten]

theorem flat_chunk {sz : Nat} : ∀ (cells : List (List Value)) (i : Nat) (c : List Value), (∀ x ∈ cells, x.length = sz) → cells[i]? = some c → (cells.flatten.drop (i * sz)).take sz = c
  | [], i, c, _, h => by simp at h
  | x :: cells, 0, c, hl, h => by
    simp only [List.getElem?_cons_zero, Option.some.injEq] at h
    subst h
    have := hl x List.mem_cons_self
    simp [this]
  | x :: cells, i + 1, c, hl, h => by
    have hx := hl x List.mem_cons_self
    have := flat_chunk cells i c (fun y hy => hl y (List.mem_cons_of_mem _ hy)) (by simpa using h)
    rw [← this, List.flatten_cons, List.drop_append, List.drop_of_length_le (by rw [hx, Nat.succ_mul]; omega), hx, Nat.succ_mul, Nat.add_sub_cancel]
    rfl

theorem madeCells_eq (z : Array Value) (n : Nat) (hz : 0 < z.size) : ((Array.range (n * z.size)).map (z[· % z.size]!)) = (zeros z.toList n).toArray := by
  refine Array.ext (by simp [zeros_len]) fun i h1 h2 => ?_
  simp only [Array.size_map, Array.size_range] at h1
  simp only [Array.getElem_map, Array.getElem_range, List.getElem_toArray]
  have hm : i % z.size < z.size := Nat.mod_lt _ hz
  rw [getElem!_pos z (i % z.size) hm]
  have hi : i / z.size < n := Nat.div_lt_of_lt_mul (by rw [Nat.mul_comm]; exact h1)
  have hc := flat_chunk (sz := z.size) (List.replicate n z.toList) (i / z.size) z.toList (by intro x hx; rw [List.eq_of_mem_replicate hx]; simp) (by simp [hi])
  have h3 := congrArg (fun l : List Value => l[i % z.size]?) hc
  simp only [List.getElem?_take, hm, if_true, List.getElem?_drop, Array.getElem?_toList] at h3
  have e : i / z.size * z.size + i % z.size = i := by rw [Nat.mul_comm]; exact Nat.div_add_mod i z.size
  rw [e] at h3
  have h4 : (zeros z.toList n)[i]? = some z[i % z.size] := by
    show (List.replicate n z.toList).flatten[i]? = _
    rw [h3]; simp [hm]
  exact (List.getElem?_eq_some_iff.1 h4).2.symm

/-- a slice that make has just laid -/
def MakeG {α : Type} (r : Rp α) (z : α) (n : Nat) (v : Value) (lo hi : Nat) (w : World) : Prop :=
  v = .slice (some ⟨lo, 0, none⟩) n n ∧ lo < hi ∧ ∃ fp, SlO r w (some ⟨lo, 0, none⟩) n (List.replicate n z) fp ∧ ∀ b ∈ fp, lo ≤ b ∧ b < hi

theorem MakeG.stable {α : Type} (r : Rp α) (z : α) (n : Nat) : ∀ (v : Value) (lo hi : Nat) (w w' : World), hi ≤ w.heap.size → Below w.heap.size w w' → MakeG r z n v lo hi w → MakeG r z n v lo hi w' :=
  fun _ _ _ _ _ _ hb ⟨h1, h2, fp, h3, h4⟩ => ⟨h1, h2, fp, h3.below hb, h4⟩

def RM {α : Type} (i : Nat) (r : Rp α) (z : α) (n : Nat) : Item := R i (MakeG r z n) (MakeG.stable r z n)

section
variable {P : Program} {w : World} {E : Sl} {d : Option Tmp} {ty : TypeId} {pos : String} {af : Array Edge} {g : Option (Nat × Bool)}

theorem Out.make {α : Type} {x y : Operand} {T U : TypeId} {n by' : Nat} (r : Rp α) (z : α) {zv : Value} (hx : evL E x = .int .i64 (n : Int)) (hy : evL E y = .int .i64 (n : Int))
    (hT : P.underlying T = some (.slice U)) (hi : (P.info? U).map (fun i => (i.zero, i.size, i.bytes)) = some (some zv, r.sz, by')) (hz : r.own w zv.cells.toList z []) (hpos : 0 < r.sz) (hroom : by' * n ≤ 281474976710656) (hn : n ≤ 9223372036854775807) :
    Out P (fun v w' => Below w.heap.size w w' ∧ MakeG r z n v w.heap.size w'.heap.size w') ((execOp (evL E) ⟨d, .makeSlice T x y, ty, pos, af, g⟩).run P w) := by
  obtain ⟨inf, hinf, hrow⟩ := Option.map_eq_some_iff.1 hi
  simp only [Prod.mk.injEq] at hrow
  obtain ⟨hz0, hsz, hby⟩ := hrow
  have hlen := r.rd_len (r.own_rd hz)
  have hzs : zv.cells.size = r.sz := by simpa using hlen
  have hwr : IntKind.i64.wrap (n : Int) = (n : Int) := wrap_in (by omega) (by omega)
  have hb1 : ¬ ((n : Int) < 0) := by omega
  have hb2 : ¬ ((by' : Int) * (n : Int) > 281474976710656) := by
    rw [← Int.natCast_mul]; omega
  have hr : (execOp (evL E) ⟨d, .makeSlice T x y, ty, pos, af, g⟩).run P w = .ok (.value (.slice (some ⟨w.heap.size, 0, none⟩) n n)) { w with heap := w.heap.push (.cells (zeros zv.cells.toList n).toArray U) } := by
    have hm := madeCells_eq zv.cells n (by omega)
    rw [hzs] at hm
    by_cases h0 : n = 0
    · subst h0
      have h00 : IntKind.i64.wrap 0 = 0 := rfl
      simp [execOp, hx, hy, Instr.makeSlice, asInt, asIntOf, underlying, hT, typeInfo, hinf, h00, sizeOf, newRow, zeros]
      have hr0 : Array.range 0 = #[] := by simp
      rw [hr0]; simp
    · have hns : ¬ (n * r.sz = 0) := by
        intro h; rcases Nat.mul_eq_zero.1 h with h | h <;> omega
      simp [execOp, hx, hy, Instr.makeSlice, asInt, asIntOf, underlying, hT, typeInfo, hinf, hby, hwr, hb1, hb2, sizeOf, hsz, zeroValue, hz0, newRow, hzs]
      rw [if_neg hns, hm]
  rw [hr]
  refine ⟨bpush _ _, rfl, by simp, [w.heap.size], ⟨by simp, by simpa using hn, .inr ⟨w.heap.size, U, zeros zv.cells.toList n, List.replicate n [], rfl, by simp [Box], ?_, by simp, ?_, by simp, by simp⟩⟩, ?_⟩
  · rw [zeros_len, hlen]
  · intro i x f hx hf
    have hi : i < n := by have := (List.getElem?_eq_some_iff.1 hx).1; simpa using this
    have e1 : x = z := by have := (List.getElem?_eq_some_iff.1 hx).2; simpa using this.symm
    have e2 : f = [] := by have := (List.getElem?_eq_some_iff.1 hf).2; simpa using this.symm
    subst e1; subst e2
    have := flat_chunk (sz := r.sz) (List.replicate n zv.cells.toList) i zv.cells.toList (by intro y hy; rw [List.eq_of_mem_replicate hy]; exact hlen) (by simp [hi])
    show r.own _ (((List.replicate n zv.cells.toList).flatten.drop (i * r.sz)).take r.sz) x []
    rw [this]
    exact r.own_keep hz fun b hb => by cases hb
  · intro b hb
    have : b = w.heap.size := by simpa using hb
    subst this
    simp
end

/-- an element is set -/
theorem SlO.set {α : Type} {r : Rp α} {w w' : World} {b c : Nat} {xs : List α} {fp : List Nat} (h : SlO r w (some ⟨b, 0, none⟩) c xs fp) {k : Nat} (hk : k < xs.length) {cs : List Value} {x : α} {f : List Nat} (hx : r.own w cs x f) (hd : ∀ b' ∈ f, b' ∉ fp)
    (hc : Chg (· = b) w w') (hbx : ∀ T cells, Box w b T cells → Box w' b T (splice cells (k * r.sz) cs)) :
    ∃ fp', SlO r w' (some ⟨b, 0, none⟩) c (xs.set k x) fp' ∧ ∀ b' ∈ fp', b' ∈ fp ∨ b' ∈ f := by
  obtain ⟨h1, h2, h⟩ := h
  rcases h with ⟨_, rfl, _⟩ | ⟨b0, T, cells, fps, hb0, hb, hl, hfl, hel, rfl, hnd⟩
  · simp at hk
  simp only [Option.some.injEq, Addr.mk.injEq, and_true] at hb0
  subst hb0
  have hlen := r.rd_len (r.own_rd hx)
  have hbf : b ∉ f := fun hm => hd b hm List.mem_cons_self
  have hsub : ∀ b', b' ∈ (fps.set k f).flatten → b' ∈ fps.flatten ∨ b' ∈ f := by
    intro b' hb'
    obtain ⟨g, hg, hbg⟩ := List.mem_flatten.1 hb'
    rcases List.mem_or_eq_of_mem_set hg with hg | rfl
    · exact .inl (List.mem_flatten.2 ⟨g, hg, hbg⟩)
    · exact .inr hbg
  obtain ⟨hbn, hfn⟩ := List.nodup_cons.1 hnd
  have hcl : k * r.sz + r.sz ≤ cells.length := by
    rw [hl]
    calc k * r.sz + r.sz = (k + 1) * r.sz := by rw [Nat.succ_mul]
      _ ≤ c * r.sz := Nat.mul_le_mul_right _ (by omega)
  refine ⟨b :: (fps.set k f).flatten, ⟨by simpa using h1, by simpa using h2, .inr ⟨b, T, splice cells (k * r.sz) cs, fps.set k f, rfl, hbx T cells hb, ?_, by simpa using hfl, ?_, rfl, ?_⟩⟩, ?_⟩
  · have hcl' := hcl
    rw [hl] at hcl'
    unfold splice
    simp only [List.length_append, List.length_take, List.length_drop, hlen, hl]
    omega
  · intro i y g hy hg
    have hin : i < xs.length := by have := (List.getElem?_eq_some_iff.1 hy).1; simpa using this
    by_cases hik : i = k
    · subst hik
      rw [List.getElem?_set_self hin] at hy
      rw [List.getElem?_set_self (by omega)] at hg
      cases hy; cases hg
      have e : ((splice cells (i * r.sz) cs).drop (i * r.sz)).take r.sz = cs := by
        unfold splice
        rw [List.append_assoc, List.drop_append, List.length_take, Nat.min_eq_left (by omega), List.drop_of_length_le (by simp; omega), Nat.sub_self]
        simp [hlen]
      rw [e]
      exact r.own_keep hx fun b' hb' => hc.block b' (r.own_lt hx b' hb') fun e => hbf (e ▸ hb')
    · rw [List.getElem?_set_ne (Ne.symm hik)] at hy hg
      have e : ((splice cells (k * r.sz) cs).drop (i * r.sz)).take r.sz = (cells.drop (i * r.sz)).take r.sz := by
        refine List.ext_getElem? fun j => ?_
        simp only [List.getElem?_take, List.getElem?_drop]
        split
        · rename_i hj
          unfold splice
          rcases Nat.lt_or_gt_of_ne hik with hlt | hgt
          · have : i * r.sz + j < k * r.sz := by
              calc i * r.sz + j < i * r.sz + r.sz := by omega
                _ = (i + 1) * r.sz := by rw [Nat.succ_mul]
                _ ≤ k * r.sz := Nat.mul_le_mul_right _ hlt
            rw [List.append_assoc, List.getElem?_append_left (by simp; omega), List.getElem?_take, if_pos this]
          · have : k * r.sz + r.sz ≤ i * r.sz + j := by
              calc k * r.sz + r.sz = (k + 1) * r.sz := by rw [Nat.succ_mul]
                _ ≤ i * r.sz := Nat.mul_le_mul_right _ hgt
                _ ≤ i * r.sz + j := Nat.le_add_right _ _
            rw [List.getElem?_append_right (by simp [hlen]; omega), List.getElem?_drop]
            congr 1
            simp [hlen]; omega
        · rfl
      rw [e]
      refine r.own_keep (hel i y g hy hg) fun b' hb' => hc.block b' (r.own_lt (hel i y g hy hg) b' hb') fun e => ?_
      exact hbn (e ▸ List.mem_flatten.2 ⟨g, List.mem_of_getElem? hg, hb'⟩)
  · refine List.nodup_cons.2 ⟨fun hm => ?_, ?_⟩
    · rcases hsub b hm with h | h
      · exact hbn h
      · exact hbf h
    · -- the footprints stay apart
      have hpw : fps.Pairwise (fun p q => ∀ b', b' ∈ p → b' ∉ q) ∧ ∀ p ∈ fps, p.Nodup := by
        have := List.pairwise_flatten.1 hfn
        exact ⟨this.2.imp fun h b' hp hq => h b' hp b' hq rfl, this.1⟩
      have hset : ∀ (l : List (List Nat)) (k : Nat), l.Pairwise (fun p q => ∀ b', b' ∈ p → b' ∉ q) → (∀ p ∈ l, ∀ b' ∈ p, b' ∉ f) → (l.set k f).Pairwise (fun p q => ∀ b', b' ∈ p → b' ∉ q) := by
        intro l
        induction l with
        | nil => intro k _ _; simp
        | cons p l ih =>
          intro k hp hf
          obtain ⟨h1, h2⟩ := List.pairwise_cons.1 hp
          cases k with
          | zero =>
            refine List.pairwise_cons.2 ⟨fun q hq b' hb' hb2 => hf q (List.mem_cons_of_mem _ hq) b' hb2 hb', h2⟩
          | succ k =>
            refine List.pairwise_cons.2 ⟨fun q hq b' hb' => ?_, ih k h2 fun q hq => hf q (List.mem_cons_of_mem _ hq)⟩
            rcases List.mem_or_eq_of_mem_set hq with hq | rfl
            · exact h1 q hq b' hb'
            · exact hf p List.mem_cons_self b' hb'
      refine List.pairwise_flatten.2 ⟨fun p hp => ?_, (hset fps k hpw.1 fun p hp b' hb' hm => hd b' hm (List.mem_cons_of_mem _ (List.mem_flatten.2 ⟨p, hp, hb'⟩))).imp fun h b' hp c' hq => (by intro e; subst e; exact h _ hp hq)⟩
      rcases List.mem_or_eq_of_mem_set hp with hp | rfl
      · exact hpw.2 p hp
      · exact r.own_nd hx
  · intro b' hb'
    rcases List.mem_cons.1 hb' with rfl | hb'
    · exact .inl List.mem_cons_self
    · rcases hsub b' hb' with h | h
      · exact .inl (List.mem_cons_of_mem _ h)
      · exact .inr h

/-- a struct in new memory -/
def FreshS {α : Type} (r : Rp α) (x : α) (v : Value) (lo hi : Nat) (w : World) : Prop := ∃ cs fp, v = .agg cs.toArray ∧ r.own w cs x fp ∧ ∀ b ∈ fp, lo ≤ b ∧ b < hi
/-- a slice in new memory -/
def FreshL {α : Type} (r : Rp α) (xs : List α) (v : Value) (lo hi : Nat) (w : World) : Prop := ∃ a c fp, v = .slice a xs.length c ∧ SlO r w a c xs fp ∧ ∀ b ∈ fp, lo ≤ b ∧ b < hi

theorem FreshS.stable {α : Type} (r : Rp α) (x : α) : ∀ (v : Value) (lo hi : Nat) (w w' : World), hi ≤ w.heap.size → Below w.heap.size w w' → FreshS r x v lo hi w → FreshS r x v lo hi w' :=
  fun _ _ _ _ _ _ hb ⟨cs, fp, h1, h2, h3⟩ => ⟨cs, fp, h1, r.own_keep h2 fun b hb' => hb.block b (r.own_lt h2 b hb'), h3⟩
theorem FreshL.stable {α : Type} (r : Rp α) (xs : List α) : ∀ (v : Value) (lo hi : Nat) (w w' : World), hi ≤ w.heap.size → Below w.heap.size w w' → FreshL r xs v lo hi w → FreshL r xs v lo hi w' :=
  fun _ _ _ _ _ _ hb ⟨a, c, fp, h1, h2, h3⟩ => ⟨a, c, fp, h1, h2.below hb, h3⟩
def RFS {α : Type} (i : Nat) (r : Rp α) (x : α) : Item := R i (FreshS r x) (FreshS.stable r x)
def RFL {α : Type} (i : Nat) (r : Rp α) (xs : List α) : Item := R i (FreshL r xs) (FreshL.stable r xs)

theorem FreshS.mk {α : Type} {r : Rp α} {x : α} {w : World} {cs : List Value} {fp : List Nat} {lo : Nat} (h : r.own w cs x fp) (hl : ∀ b ∈ fp, lo ≤ b) : FreshS r x (.agg cs.toArray) lo w.heap.size w :=
  ⟨cs, fp, rfl, h, fun b hb => ⟨hl b hb, r.own_lt h b hb⟩⟩
theorem FreshL.mk {α : Type} {r : Rp α} {xs : List α} {w : World} {a : Option Addr} {n c : Nat} {fp : List Nat} {lo : Nat} (hn : n = xs.length) (h : SlO r w a c xs fp) (hl : ∀ b ∈ fp, lo ≤ b) : FreshL r xs (.slice a n c) lo w.heap.size w :=
  ⟨a, c, fp, by rw [hn], h, fun b hb => ⟨hl b hb, h.lt b hb⟩⟩

theorem sep_lo {fp : List Nat} {lo hi b : Nat} (hf : ∀ x ∈ fp, lo ≤ x ∧ x < hi) (h : b < lo) : ∀ x ∈ fp, ¬ x = b := fun x hx e => by have := hf x hx; omega
theorem sep_hi {fp : List Nat} {lo hi b : Nat} (hf : ∀ x ∈ fp, lo ≤ x ∧ x < hi) (h : hi ≤ b) : ∀ x ∈ fp, ¬ x = b := fun x hx e => by have := hf x hx; omega
theorem sep_lt {fp : List Nat} {B b : Nat} (hf : ∀ x ∈ fp, x < B) (h : B ≤ b) : ∀ x ∈ fp, ¬ x = b := fun x hx e => by have := hf x hx; omega
theorem low_of {fp : List Nat} {lo hi B : Nat} (hf : ∀ x ∈ fp, lo ≤ x ∧ x < hi) (h : B ≤ lo) : ∀ x ∈ fp, B ≤ x := fun x hx => Nat.le_trans h (hf x hx).1
theorem low_app {f g : List Nat} {B : Nat} (hf : ∀ x ∈ f, B ≤ x) (hg : ∀ x ∈ g, B ≤ x) : ∀ x ∈ f ++ g, B ≤ x := fun x hx => by rcases List.mem_append.1 hx with h | h; exact hf x h; exact hg x h
theorem low_l {f g : List Nat} {lo hi : Nat} (h : ∀ x ∈ f ++ g, lo ≤ x ∧ x < hi) : ∀ x ∈ f, lo ≤ x ∧ x < hi := fun x hx => h x (List.mem_append_left _ hx)
theorem low_r {f g : List Nat} {lo hi : Nat} (h : ∀ x ∈ f ++ g, lo ≤ x ∧ x < hi) : ∀ x ∈ g, lo ≤ x ∧ x < hi := fun x hx => h x (List.mem_append_right _ hx)

theorem chg_tr1 {SS : Nat → Prop} {b : Nat} {w w1 w2 : World} (h : Chg SS w w1) (h' : Chg (· = b) w1 w2) (hb : w.heap.size ≤ b ∨ SS b) : Chg SS w w2 :=
  ⟨h'.os.trans h.os, h'.tape.trans h.tape, h'.output.trans h.output, Nat.le_trans h.size h'.size, fun k hk hn => by
    have hne : ¬ k = b := fun e => by
      subst e
      rcases hb with hb | hb
      · omega
      · exact hn hb
    rw [h'.block k (Nat.lt_of_lt_of_le hk h.size) hne, h.block k hk hn]⟩
theorem chg_trb {SS : Nat → Prop} {w w1 w2 : World} (h : Chg SS w w1) (h' : Below w1.heap.size w1 w2) : Chg SS w w2 := h.trans (Chg.of_below h')
theorem chg_below {SS : Nat → Prop} {B : Nat} {w wl w' : World} (e : Below B w wl) (hB : B ≤ w.heap.size) (h : Chg SS wl w') (hS : ∀ k, SS k → B ≤ k) : Below B w w' :=
  e.trans (h.below (Nat.le_trans hB e.size) fun k hk hs => by have := hS k hs; omega)
theorem chg_refl (SS : Nat → Prop) (w : World) : Chg SS w w := Chg.of_below (Below.refl _ _)

/-- the own slice behind a store into an element: the walk's rule -/
theorem Rest.storeO {P : Program} {N : Nat} {ops : Array Oper} {Q : Exit → Act → World → Prop} {E : Sl} {w : World} {rest : List Oper} {ty : TypeId} {pos : String} {af : Array Edge} {α : Type} {r : Rp α} {x y : Operand} {T : TypeId} {a : Option Addr} {c o : Nat} {xs : List α} {fp : List Nat}
    (k : Nat) (z : α) (vs : List Value) (f : List Nat) (h : SlO r w a c xs fp) (hk : k < xs.length) (hx : evO E x = some (.pointer (some ⟨ab a, o, none⟩))) (ho : o = k * r.sz) (hy : (evO E y).map (fun v => v.cells.toList) = some vs)
    (hs : (P.info? T).map (·.size) = some vs.length) (hz : r.own w vs z f) (hd : ∀ b' ∈ f, b' ∉ fp)
    (hn : ∀ w' fp', Chg (· ∈ fp) w w' → SlO r w' a c (xs.set k z) fp' → (∀ b' ∈ fp', b' ∈ fp ∨ b' ∈ f) → Rest P N ops Q rest E w') : Rest P N ops Q (⟨none, .store T x y, ty, pos, af, none⟩ :: rest) E w := by
  have h0 := h
  obtain ⟨h1, h2, h3⟩ := h0
  rcases h3 with ⟨_, rfl, _⟩ | ⟨b, T0, cells, fps, rfl, hb, hl, hfl, hel, rfl, hnd⟩
  · simp at hk
  have hlen := r.rd_len (r.own_rd hz)
  have hcl : k * r.sz + r.sz ≤ cells.length := by
    rw [hl]
    calc k * r.sz + r.sz = (k + 1) * r.sz := by rw [Nat.succ_mul]
      _ ≤ c * r.sz := Nat.mul_le_mul_right _ (by omega)
  subst ho
  refine Rest.store vs (splice cells (k * r.sz) vs) hx hy hb hs (Nat.ble_eq_true_of_le (by omega)) (r.own_one hz) rfl fun w' hc hb' => ?_
  have hc : Chg (· = b) w w' := hc
  obtain ⟨fp', hs', hf'⟩ := h.set hk hz hd hc (fun T' cells' hb2 => by
    have e : some (Obj.cells cells.toArray T0 (0, 0)) = some (Obj.cells cells'.toArray T' (0, 0)) := hb.symm.trans hb2
    simp only [Option.some.injEq, Obj.cells.injEq, and_true] at e
    obtain ⟨e1, rfl⟩ := e
    obtain rfl : cells = cells' := by have := congrArg Array.toList e1; simpa using this
    exact hb')
  exact hn w' fp' ⟨hc.os, hc.tape, hc.output, hc.size, fun q hq hnq => hc.block q hq fun e => hnq (e ▸ List.mem_cons_self)⟩ hs' hf'

theorem mem_sub {fp fp' f : List Nat} {Pr : Nat → Prop} (hs : ∀ b ∈ fp', b ∈ fp ∨ b ∈ f) (h1 : ∀ b ∈ fp, Pr b) (h2 : ∀ b ∈ f, Pr b) : ∀ b ∈ fp', Pr b := fun b hb => (hs b hb).elim (h1 b) (h2 b)
theorem mem_nil {Pr : Nat → Prop} : ∀ b ∈ ([] : List Nat), Pr b := fun _ h => by cases h
theorem dis_new {fp f : List Nat} {B lo hi : Nat} (h1 : ∀ b ∈ fp, b < B) (h2 : ∀ b ∈ f, lo ≤ b ∧ b < hi) (h : B ≤ lo) : ∀ b ∈ f, b ∉ fp := fun b hb hm => by have := h1 b hm; have := h2 b hb; omega
theorem Rp.own_below {α : Type} {r : Rp α} {w w' : World} {cs : List Value} {x : α} {fp : List Nat} (h : r.own w cs x fp) (e : Below w.heap.size w w') : r.own w' cs x fp := r.own_keep h fun b hb => e.block b (r.own_lt h b hb)
theorem Rp.own_chg {α : Type} {r : Rp α} {SS : Nat → Prop} {w w' : World} {cs : List Value} {x : α} {fp : List Nat} (h : r.own w cs x fp) (e : Chg SS w w') (hn : ∀ b ∈ fp, ¬ SS b) : r.own w' cs x fp := r.own_keep h fun b hb => e.block b (r.own_lt h b hb) (hn b hb)

theorem set_take {α : Type} {xs : List α} {z x : α} {k : Nat} (h : xs[k]? = some x) : (xs.take k ++ List.replicate (xs.length - k) z).set k x = xs.take (k + 1) ++ List.replicate (xs.length - (k + 1)) z := by
  have hk := ltg h
  obtain ⟨m, hm⟩ : ∃ m, xs.length - k = m + 1 := ⟨xs.length - (k + 1), by omega⟩
  have hl : (xs.take k).length = k := by simp; omega
  rw [hm, List.replicate_succ, List.set_append_right _ _ (by omega), hl, Nat.sub_self, List.set_cons_zero, show xs.length - (k + 1) = m from by omega]
  have : xs.take (k + 1) = xs.take k ++ [x] := by
    rw [List.take_add_one, h]; rfl
  rw [this]; simp
theorem set_start {α : Type} (xs : List α) (z : α) : xs.take 0 ++ List.replicate (xs.length - 0) z = List.replicate xs.length z := by simp
theorem set_end {α : Type} (xs : List α) (z : α) : xs.take xs.length ++ List.replicate (xs.length - xs.length) z = xs := by simp

theorem sep_dis {fp : List Nat} {lo hi lo' hi' : Nat} (hf : ∀ x ∈ fp, lo ≤ x ∧ x < hi) (hd : hi ≤ lo' ∨ hi' ≤ lo) (h : lo' < hi') : ∀ x ∈ fp, ¬ x = lo' := fun x hx e => by have := hf x hx; omega
theorem dis_dis {fp f : List Nat} {lo hi lo' hi' : Nat} (hf : ∀ x ∈ fp, lo ≤ x ∧ x < hi) (hg : ∀ x ∈ f, lo' ≤ x ∧ x < hi') (hd : hi ≤ lo' ∨ hi' ≤ lo) : ∀ x ∈ fp, x ∉ f := fun x hx hm => by have := hf x hx; have := hg x hm; omega
theorem nd_app {f g : List Nat} (hf : f.Nodup) (hg : g.Nodup) (hd : ∀ x ∈ f, x ∉ g) : (f ++ g).Nodup := List.nodup_append.2 ⟨hf, hg, fun a ha _ hb e => hd a ha (e ▸ hb)⟩
theorem dis_comm {f g : List Nat} (hd : ∀ x ∈ f, x ∉ g) : ∀ x ∈ g, x ∉ f := fun x hx hm => hd x hm hx
theorem dis_app {f g h : List Nat} (h1 : ∀ x ∈ f, x ∉ g) (h2 : ∀ x ∈ f, x ∉ h) : ∀ x ∈ f, x ∉ g ++ h := fun x hx hm => by rcases List.mem_append.1 hm with h | h; exact h1 x hx h; exact h2 x hx h

theorem Rest.wl {P : Program} {N : Nat} {ops : Array Oper} {Q : Exit → Act → World → Prop} {E : Sl} {w : World} {rest : List Oper} {o : Oper} {d : Nat} (v : Value) (hd : o.dst = some d) (hg : o.guard = none) (hN : Nat.blt d N = true)
    (hs : (match o.op with | .select _ _ => false | _ => true) = true) (hk : ∀ w, ((opTmps o).all (fun t => (getO E t).isSome), (execOp (evL E) o).run P w) = (true, .ok (.value v) w)) (h : Rest P N ops Q rest ((d, v) :: E) w) : Rest P N ops Q (o :: rest) E w := by
  intro a ha
  have h1 : (opTmps o).all (fun t => (getO E t).isSome) = true := congrArg (·.1) (hk w)
  have h2 : (execOp (evL E) o).run P w = .ok (.value v) w := congrArg (·.2) (hk w)
  have he : execOp a.eval o = execOp (evL E) o := by
    refine execOp_congr o (fun cs b hc => by rw [hc] at hs; cases hs) fun x hx => ?_
    cases x with
    | const v => rfl
    | global g => rfl
    | func f => rfl
    | tmp t =>
      have hmt : t ∈ opTmps o := List.mem_filterMap.2 ⟨.tmp t, by simpa using hx, rfl⟩
      obtain ⟨u, hu⟩ := Option.isSome_iff_exists.1 (List.all_eq_true.1 h1 t hmt)
      have := ha.has t u hu
      simp [Act.eval, evL, evO, hu, this]
  unfold wpList
  rw [if_pos (by simp [Region.wanted, hg])]
  left
  unfold Oper.wp
  rw [he, h2]
  show wpList P ops Q rest (a.put o.dst v) w
  rw [hd]
  exact h _ (ha.put (by simpa [dstOk] using hN) v)

theorem SlO.nila {α : Type} (r : Rp α) (w : World) (a : Option Addr) : SlO r w a 0 [] [] := ⟨Nat.le_refl _, by simp, .inl ⟨rfl, rfl, rfl⟩⟩
theorem SlO.nil {α : Type} (r : Rp α) (w : World) : SlO r w none 0 [] [] := SlO.nila r w none
theorem ne_of_sep {fp : List Nat} {b b' : Nat} (h : ∀ x ∈ fp, ¬ x = b') (hb : b ∈ fp) : ¬ b' = b := fun e => h b hb e.symm
theorem sep_of_dis {fp f : List Nat} {b : Nat} (h : ∀ x ∈ f, x ∉ fp) (hb : b ∈ fp) : ∀ x ∈ f, ¬ x = b := fun x hx e => h x hx (e ▸ hb)

section
variable {P : Program} {w : World} {E : Sl} {d : Option Tmp} {ty : TypeId} {pos : String} {af : Array Edge} {g : Option (Nat × Bool)}
theorem Out.mul {x y : Operand} {T T' : TypeId} {a b : Int} (hx : evL E x = .int .i64 a) (hy : evL E y = .int .i64 b) (h1 : -9223372036854775808 ≤ a * b) (h2 : a * b ≤ 9223372036854775807) :
    Out P (fun v' w' => v' = .int .i64 (a * b) ∧ Below w.heap.size w w') ((execOp (evL E) ⟨d, .binOp .mul T x y T', ty, pos, af, g⟩).run P w) :=
  Out.of_run (by simp [execOp, hx, hy, eqGuard, binOp, Op.intArith, wrap_in h1 h2])
theorem Out.rem {x y : Operand} {T T' : TypeId} {a b : Int} (hx : evL E x = .int .i64 a) (hy : evL E y = .int .i64 b) (hb : ¬ b = 0) :
    Out P (fun v' w' => v' = .int .i64 (a.tmod b) ∧ Below w.heap.size w w') ((execOp (evL E) ⟨d, .binOp .rem T x y T', ty, pos, af, g⟩).run P w) :=
  Out.of_run (by simp [execOp, hx, hy, eqGuard, binOp, Op.intDiv, hb])
theorem Out.quo {x y : Operand} {T T' : TypeId} {a b : Int} (hx : evL E x = .int .i64 a) (hy : evL E y = .int .i64 b) (hb : ¬ b = 0) (h1 : -9223372036854775808 ≤ a.tdiv b) (h2 : a.tdiv b ≤ 9223372036854775807) :
    Out P (fun v' w' => v' = .int .i64 (a.tdiv b) ∧ Below w.heap.size w w') ((execOp (evL E) ⟨d, .binOp .quo T x y T', ty, pos, af, g⟩).run P w) :=
  Out.of_run (by simp [execOp, hx, hy, eqGuard, binOp, Op.intDiv, hb, wrap_in h1 h2])
end
/-- a call of which an argument is known by what it is -/
theorem Out.callR {P : Program} {w : World} {E : Sl} {o : Oper} {f : FuncId} {args : Array Value} {R : Value → World → Prop} (h : (execOp (evL E) o).run P w = .ok (.enter f args) w)
    (hc : Calls P f args w fun e w' => ∃ v, e = .returned v ∧ R v w') : Out P R ((execOp (evL E) o).run P w) := Out.call h hc (fun _ _ h => h)

theorem cndT {α : Type} {c : Bool} {r a b : α} (h : c = true) (e : r = a) : r = bif c then a else b := by rw [h]; exact e
theorem cndF {α : Type} {c : Bool} {r a b : α} (h : c = false) (e : r = b) : r = bif c then a else b := by rw [h]; exact e
theorem eqL_len {α : Type} [DecidableEq α] {a b : List α} (h : ¬ a.length = b.length) : Value.bool false = .bool (decide (a = b)) := by
  congr 1; symm; rw [decide_eq_false_iff_not]; rintro rfl; exact h rfl
theorem eqL_el {α : Type} [DecidableEq α] {a b : List α} {k : Nat} {x y : α} (hx : a[k]? = some x) (hy : b[k]? = some y) (h : ¬ x = y) : Value.bool false = .bool (decide (a = b)) := by
  congr 1; symm; rw [decide_eq_false_iff_not]; rintro rfl; rw [hx] at hy; exact h (Option.some.inj hy)
theorem eqL_all {α : Type} [DecidableEq α] {a b : List α} {k : Nat} (h : a.take k = b.take k) (h1 : a.length ≤ k) (h2 : b.length ≤ k) : Value.bool true = .bool (decide (a = b)) := by
  congr 1; symm; rw [decide_eq_true_iff]; rwa [List.take_of_length_le h1, List.take_of_length_le h2] at h
theorem take_next {α : Type} {a b : List α} {k : Nat} {x y : α} (h : a.take k = b.take k) (hx : a[k]? = some x) (hy : b[k]? = some y) (e : x = y) : a.take (k + 1) = b.take (k + 1) := by
  rw [List.take_add_one, List.take_add_one, hx, hy, h, e]

end Go.Proofs.Ytfehpdcfndhniaa
