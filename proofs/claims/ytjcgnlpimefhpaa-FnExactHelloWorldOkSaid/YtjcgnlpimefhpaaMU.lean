/-
  The machine: slices.SortFunc at structs of cells without an address.
-/
import Derived.Test.YtjcgnlpimefhpaaMT
import Derived.Shelf.SlSortCmp.NoneTotal
namespace Go.Proofs.Ytjcgnlpimefhpaa
open Go.RowKit Go.Shelf Go.Sort
set_option linter.unusedVariables false
set_option linter.unusedSimpArgs false

def datV : Dat → Value
  | .v x => x
  | _ => default
/-- a type of cells that are known values -/
def Plain {α : Type} (k : Nat) (e : α → List Dat) : Prop := ∀ x, (e x).length = k ∧ ∀ d ∈ e x, ∃ v, d = .v v ∧ v.oneCell' = true
def encV {α : Type} (e : α → List Dat) (x : α) : List Value := (e x).map datV
theorem Plain.len {α : Type} {k : Nat} {e : α → List Dat} (h : Plain k e) (x : α) : (encV e x).length = k := by rw [encV, List.length_map, (h x).1]
theorem Plain.one {α : Type} {k : Nat} {e : α → List Dat} (h : Plain k e) (x : α) : ∀ v ∈ encV e x, v.oneCell' = true := fun v hv => by
  obtain ⟨d, hd, rfl⟩ := List.mem_map.1 hv
  obtain ⟨v, rfl, h1⟩ := (h x).2 d hd
  exact h1
theorem rd_plain {S : Nat → Prop} {w : World} : ∀ {ds : List Dat} {vs : List Value}, (∀ d ∈ ds, ∃ v, d = .v v ∧ v.oneCell' = true) → (RdVs S w ds vs ↔ vs = ds.map datV)
  | [], vs, _ => ⟨fun h => h, fun h => h⟩
  | d :: ds, vs, h => by
    obtain ⟨v, rfl, hv⟩ := h d List.mem_cons_self
    have ih := fun us => rd_plain (S := S) (w := w) (ds := ds) (vs := us) fun d hd => h d (List.mem_cons_of_mem _ hd)
    constructor
    · rintro ⟨u, us, rfl, ⟨rfl, _⟩, h2⟩
      rw [(ih us).1 h2]; rfl
    · rintro rfl
      exact ⟨v, _, rfl, ⟨rfl, hv⟩, (ih _).2 rfl⟩
theorem ow_plain {w : World} : ∀ {ds : List Dat} {vs : List Value} {fp : List Nat}, (∀ d ∈ ds, ∃ v, d = .v v ∧ v.oneCell' = true) → (OwVs w ds vs fp ↔ vs = ds.map datV ∧ fp = [])
  | [], vs, fp, _ => ⟨fun h => h, fun h => h⟩
  | d :: ds, vs, fp, h => by
    obtain ⟨v, rfl, hv⟩ := h d List.mem_cons_self
    have ih := fun us f => ow_plain (w := w) (ds := ds) (vs := us) (fp := f) fun d hd => h d (List.mem_cons_of_mem _ hd)
    constructor
    · rintro ⟨u, us, f, g, rfl, ⟨rfl, _, rfl⟩, h2, rfl, _⟩
      obtain ⟨e1, e2⟩ := (ih us _).1 h2
      rw [e1, e2]; exact ⟨rfl, rfl⟩
    · rintro ⟨rfl, rfl⟩
      exact ⟨v, _, [], [], rfl, ⟨rfl, hv, rfl⟩, (ih _ _).2 ⟨rfl, rfl⟩, rfl, List.nodup_nil⟩

/-- what sorting asks of a comparison at a list: an order, in which equals are one -/
structure SortPre {α : Type} (cf : α → α → Int) (xs : List α) : Prop where
  irr : ∀ x ∈ xs, ¬ cf x x < 0
  tr : ∀ x ∈ xs, ∀ y ∈ xs, ∀ z ∈ xs, cf x y < 0 → cf y z < 0 → cf x z < 0
  ntr : ∀ x ∈ xs, ∀ y ∈ xs, ∀ z ∈ xs, ¬ cf x y < 0 → ¬ cf y z < 0 → ¬ cf x z < 0
  tot : ∀ x ∈ xs, ∀ y ∈ xs, ¬ cf x y < 0 → ¬ cf y x < 0 → x = y
def sortLe {α : Type} (cf : α → α → Int) (x y : α) : Bool := !decide (cf y x < 0)
def sortL {α : Type} (cf : α → α → Int) (xs : List α) : List α := xs.mergeSort (sortLe cf)
theorem sortL_perm {α : Type} (cf : α → α → Int) (xs : List α) : (sortL cf xs).Perm xs := List.mergeSort_perm _ _
theorem sortL_len {α : Type} (cf : α → α → Int) (xs : List α) : (sortL cf xs).length = xs.length := (sortL_perm cf xs).length_eq

/-- a permutation that is in order -/
theorem sortL_unique {α : Type} [Inhabited α] {cf : α → α → Int} {xs ys : List α} (h : SortPre cf xs) (hp : ys.Perm xs) (hs : ys.Pairwise fun x y => ¬ cf y x < 0) : ys = sortL cf xs := by
  have hm : (sortL cf xs).Pairwise fun x y => ¬ cf y x < 0 := by
    -- on the members the order is one
    let β := {x // x ∈ xs}
    let le : β → β → Bool := fun x y => sortLe cf x.1 y.1
    have h1 := List.pairwise_mergeSort (le := le) (fun a b c hab hbc => by
        simp only [le, sortLe, Bool.not_eq_true', decide_eq_false_iff_not] at *
        exact h.ntr _ c.2 _ b.2 _ a.2 hbc hab) (fun a b => by
        simp only [le, sortLe, Bool.or_eq_true, Bool.not_eq_true', decide_eq_false_iff_not]
        by_cases hc : cf b.1 a.1 < 0
        · right
          intro hd
          exact h.irr _ a.2 (h.tr _ a.2 _ b.2 _ a.2 hd hc)
        · exact .inl hc) xs.attach
    have h2 : (xs.attach.mergeSort le).map (·.1) = sortL cf xs := by
      unfold sortL
      rw [List.map_mergeSort (s := sortLe cf) (fun a _ b _ => rfl)]
      congr 1
      exact List.attach_map_subtype_val xs
    rw [← h2, List.pairwise_map]
    refine h1.imp fun {a b} hab => ?_
    simp only [le, sortLe, Bool.not_eq_true', decide_eq_false_iff_not] at hab
    exact hab
  exact List.Perm.eq_of_pairwise (le := fun x y => ¬ cf y x < 0) (fun a b ha hb h1 h2 => h.tot _ (hp.subset ha) _ ((sortL_perm cf xs).subset hb) h2 h1) hs hm (hp.trans (sortL_perm cf xs).symm)

/-- behind a call that changes nothing that was there: new blocks, and draws -/
theorem Bel.grow {w w' : World} (h : Bel w.heap.size w w') : ∃ q os, w' = grow (w.drewN q) os := by
  refine ⟨w'.drawn - w.drawn, w'.heap.extract w.heap.size w'.heap.size, ?_⟩
  have hh : w'.heap = w.heap ++ w'.heap.extract w.heap.size w'.heap.size := by
    refine Array.ext_getElem? fun i => ?_
    rw [Array.getElem?_append]
    by_cases hi : i < w.heap.size
    · rw [if_pos hi, h.block i hi]
    · rw [if_neg hi, Array.getElem?_extract]
      by_cases h2 : i < w'.heap.size
      · rw [if_pos (by omega)]; congr 1; omega
      · rw [if_neg (by omega), Array.getElem?_eq_none (by omega)]
  have hd := h.drawn
  cases w with
  | mk heap tape drawn os output =>
    cases w' with
    | mk heap' tape' drawn' os' output' =>
      obtain ⟨⟨h1, h2, h3, _, _⟩, _⟩ := h
      simp only at h1 h2 h3 hh hd
      subst h1 h2 h3
      show _ = World.mk _ _ _ _ _
      simp only [grow, World.drewN]
      rw [← hh]
      congr 1
      omega

theorem sort_ok {P : Program} {ρ : Go.Shelf.Ren} (L : SlLaysF0.n6 P ρ) {k : Nat} (aE : ∀ w, (isAgg (ρ.t 24)).run P w = .ok true w) (zE : ∀ w, (Go.sizeOf (ρ.t 24)).run P w = .ok k w) {α : Type} [Inhabited α] (e : α → List Dat) (he : Plain k e)
    (cf : α → α → Int) (xs : List α) : Spec.ok P (ρ.f 6) ⟨[.ow (.l k e xs) (some (.l k e (sortL cf xs))), .fn ⟨α × α, fun i => [.g (e i.1), .g (e i.2)], fun i => .int .i64 (cf i.1 i.2)⟩], .tu [], SortPre cf xs ∧ xs.length ≤ 4000000000000000000⟩ := by
  intro ⟨hp, hl⟩ S w vs fp hS hA
  obtain ⟨u, us, f, g, rfl, hO, ⟨u2, us2, f2, g2, rfl, ⟨hF, rfl⟩, ⟨rfl, rfl⟩, rfl, _⟩, rfl, hnd⟩ := hA
  simp only [List.append_nil] at hnd hS ⊢
  obtain ⟨a, c, rfl, hc, h63, hO⟩ := hO
  obtain ⟨gf, cap, rfl, hcal, hF⟩ := hF
  by_cases hx : xs = []
  · subst hx
    refine (AnyF.slices_SortFunc_none L a c _ w).mono fun e' w' ⟨h1, h2⟩ => ⟨_, [], f, h1, ⟨[], rfl, rfl, rfl⟩, ⟨_, _, f, [], rfl, ?_, ⟨_, _, [], [], rfl, rfl, rfl, rfl⟩, by simp⟩, by simpa using hnd, fun b hb => ?_, ?_⟩
    · subst h2
      have : sortL cf [] = ([] : List α) := List.eq_nil_of_length_eq_zero (by rw [sortL_len]; rfl)
      show OwV w' (.l k e (sortL cf [])) _ f
      rw [this]; exact ⟨a, c, rfl, hc, h63, hO⟩
    · subst h2
      have hb : b ∈ f := by simpa using hb
      refine ⟨?_, .inl hb⟩
      exact OwV.lt (.l k e ([] : List α)) _ f ⟨a, c, rfl, hc, h63, hO⟩ b hb
    · subst h2; exact Chg.of_below (Bel.refl _ _)
  rcases hO with ⟨_, rfl, _⟩ | ⟨b, o, T, cells, fps, rfl, hbox, hlen, hfl, hel, rfl, hnd'⟩
  · exact absurd rfl hx
  let β := {x // x ∈ xs}
  have : Inhabited β := ⟨⟨xs.head hx, List.head_mem hx⟩⟩
  let d : Array β := xs.attach.toArray
  have hds : d.size = xs.length := by simp only [d, List.size_toArray]; exact List.length_attach
  have hdi : ∀ i (hi : i < xs.length), d[i]!.1 = xs[i] := fun i hi => by
    rw [getElem!_pos d i (by omega)]; simp only [d, List.getElem_toArray]; exact congrArg Subtype.val (List.getElem_attach _)
  let enc' : β → List Value := fun x => encV e x.1
  let cf' : β → β → Int := fun x y => cf x.1 y.1
  have hlen' : ∀ i, i < xs.length → o + i * k + k ≤ cells.length := fun i hi => by
    rw [hlen, Nat.add_assoc, ← Nat.succ_mul]
    exact Nat.add_le_add_left (Nat.mul_le_mul_right _ (by omega)) _
  have hchunk : ∀ i (hi : i < xs.length), (cells.drop (o + i * k)).take k = encV e xs[i] := fun i hi => by
    have := hel i xs[i] (fps[i]'(by omega)) (List.getElem?_eq_getElem hi) (List.getElem?_eq_getElem _)
    exact ((ow_plain (he _).2).1 this.2).1
  have hk0 : 0 < k ∨ k = 0 := by omega
  have hH : HoldsK enc' k w b o d := by
    intro j hj
    rw [size_flatK, hds] at hj
    have kp : 0 < k := by rcases hk0 with h | h; exact h; subst h; simp at hj
    have hq : j / k < xs.length := Nat.div_lt_of_lt_mul (by rw [Nat.mul_comm]; exact hj)
    have hr : j % k < k := Nat.mod_lt _ kp
    have hjk : o + j / k * k + j % k = o + j := by rw [Nat.add_assoc, Nat.div_add_mod' j k]
    have hcell : cells[o + j]? = some ((encV e xs[j / k])[j % k]'(by rw [he.len]; exact hr)) := by
      rw [← hjk]
      have := congrArg (fun l : List Value => l[j % k]?) (hchunk _ hq)
      simp only [List.getElem?_take, hr, if_true, List.getElem?_drop] at this
      rw [this, List.getElem?_eq_getElem]
    refine ⟨?_, ?_⟩
    · rw [get_flatK _ _ _ _ (by rw [hds]; exact hj)]
      have hb' : w.heap[b]? = some (.cells cells.toArray T (0, 0)) := hbox
      simp only [World.cell?, hb', id]
      simp only [Option.isSome_none, Bool.false_eq_true, if_false, List.getElem?_toArray]
      rw [hcell]
      congr 1
      show _ = (encV e d[j / k]!.1)[j % k]!
      rw [hdi _ hq, getElem!_pos (encV e xs[j / k]) _ (by rw [he.len]; exact hr)]
    · have hb' : w.heap[b]? = some (.cells cells.toArray T (0, 0)) := hbox
      simp [World.frozen?, hb']
  have hsort : ∀ m os (dk : Array β), (∀ b', b' < w.heap.size → b' ≠ b → (sortWorldK enc' k w b o m dk os).heap[b']? = w.heap[b']?) ∧ w.heap.size ≤ (sortWorldK enc' k w b o m dk os).heap.size := by
    intro m os dk
    have hsz : ((putRowK enc' k (Sort.ahead w m) b o dk)).heap.size = w.heap.size := by simp [putRowK, putRow, mapBlock, Sort.ahead]
    refine ⟨fun b' hb' hne => ?_, ?_⟩
    · show ((putRowK enc' k (Sort.ahead w m) b o dk).heap ++ os)[b']? = _
      rw [Array.getElem?_append_left (by rw [hsz]; exact hb')]
      simp only [putRowK, putRow, mapBlock, Sort.ahead, Array.getElem?_modify]
      rw [if_neg (Ne.symm hne)]
    · show _ ≤ ((putRowK enc' k (Sort.ahead w m) b o dk).heap ++ os).size
      rw [Array.size_append, hsz]; omega
  have hcmp : CmpLays P gf cap enc' k cf' b o d.size w := by
    intro m os dk _ x y
    obtain ⟨s1, s2⟩ := hsort m os dk
    have := hF (x.1, y.1) (sortWorldK enc' k w b o m dk os) (fun _ => False) [.agg (enc' x).toArray, .agg (enc' y).toArray] (fun b' hb' => s1 b' (hS b' hb').1 fun e => (hS b' hb').2 (by rw [e]; exact List.mem_cons_self)) s2 (fun _ h => h.elim)
      ⟨_, _, rfl, ⟨_, rfl, (rd_plain (he _).2).2 rfl⟩, _, _, rfl, ⟨_, rfl, (rd_plain (he _).2).2 rfl⟩, rfl⟩
    exact this.mono fun e' w' ⟨h1, h2⟩ => ⟨h1, h2.grow⟩
  have hO' : SWO (ltOf cf') := by
    constructor
    · intro x; exact decide_eq_false (hp.irr _ x.2)
    · intro x y z h1 h2
      exact decide_eq_true (hp.tr _ x.2 _ y.2 _ z.2 (of_decide_eq_true h1) (of_decide_eq_true h2))
    · intro x y z h1 h2
      exact decide_eq_false (hp.ntr _ x.2 _ y.2 _ z.2 (of_decide_eq_false h1) (of_decide_eq_false h2))
  have hcall := AnyQ.slices_SortFunc L k aE zE enc' (fun x => he.len x.1) (fun x => he.one x.1) cf' hO' gf cap b o c d w (fun args w => callable_ok hcal args) hcmp hH hbox.lt (by rw [hds]; omega)
  rw [hds] at hcall
  refine hcall.mono fun e' w' ⟨h1, d', n, os, hP, hSo, hw'⟩ => ?_
  obtain ⟨hsz, _, hperm⟩ := hP
  have hsz' : d'.size = xs.length := by rw [hsz, hds]
  have hres : d'.toList.map (·.1) = sortL cf xs := by
    have e1 : d'.extract 0 xs.length = d' := by rw [← hsz']; exact Array.extract_size
    have e2 : d.extract 0 xs.length = d := by rw [← hds]; exact Array.extract_size
    rw [e1, e2] at hperm
    refine sortL_unique hp ?_ ?_
    · have := hperm.map (·.1)
      refine this.trans ?_
      show ((xs.attach.toArray).toList.map (·.1)).Perm xs
      rw [List.toList_toArray, List.attach_map_subtype_val]
    · rw [List.pairwise_map, List.pairwise_iff_getElem]
      intro i j hi hj hij
      have hi' : i < d'.size := by simpa using hi
      have hj' : j < d'.size := by simpa using hj
      have := hSo i j (Nat.zero_le _) hij (by rw [← hsz']; exact hj')
      rw [getElem!_pos d' i hi', getElem!_pos d' j hj'] at this
      simpa using of_decide_eq_false this
  obtain ⟨s1, s2⟩ := hsort n os d'
  rw [← hw'] at s1 s2
  let F' : Array Value := flatK enc' k d'
  let cells' : List Value := (putCells id o F' cells.toArray).toList
  have hcl : cells'.length = cells.length := by simp [cells', putCells]
  have hbox' : Box w' b T cells' := by
    show w'.heap[b]? = _
    rw [hw']
    show ((putRowK enc' k (Sort.ahead w n) b o d').heap ++ os)[b]? = _
    have hb' : w.heap[b]? = some (.cells cells.toArray T (0, 0)) := hbox
    rw [Array.getElem?_append_left (by simp only [putRowK, putRow, mapBlock, Sort.ahead, Array.size_modify]; exact hbox.lt)]
    simp only [putRowK, putRow, mapBlock, Sort.ahead, Array.getElem?_modify, if_true, hb', Option.map_some, onCells]
    simp [cells', F']
  have hchunk' : ∀ i (hi : i < xs.length), ((cells'.drop (o + i * k)).take k) = encV e (sortL cf xs)[i]! := by
    intro i hi
    have hh := hlen' i hi
    refine List.ext_getElem? fun j => ?_
    rw [List.getElem?_take]
    by_cases hj : j < k
    · rw [if_pos hj, List.getElem?_drop]
      have kp : 0 < k := by omega
      have hik : i * k + j < xs.length * k := by
        have := Nat.mul_le_mul_right k (show i + 1 ≤ xs.length from hi)
        rw [Nat.add_mul, Nat.one_mul] at this; omega
      have hc' : cells'[o + i * k + j]? = some (if o ≤ o + i * k + j ∧ o + i * k + j < o + F'.size then F'[o + i * k + j - o]! else cells.toArray[o + i * k + j]'(by simp; omega)) := by
        simp only [cells', putCells, Array.getElem?_toList, Array.getElem?_mapIdx, id]
        rw [Array.getElem?_eq_getElem (by simp; omega)]
        rfl
      rw [hc', if_pos ⟨by omega, by simp only [F', size_flatK]; rw [hsz']; omega⟩]
      have e1 : o + i * k + j - o = i * k + j := by omega
      rw [e1, get_flatK _ _ _ _ (by rw [hsz']; exact hik)]
      have e2 : (i * k + j) / k = i := by rw [Nat.mul_comm, Nat.mul_add_div kp, Nat.div_eq_of_lt hj, Nat.add_zero]
      have e3 : (i * k + j) % k = j := by rw [Nat.mul_comm, Nat.mul_add_mod, Nat.mod_eq_of_lt hj]
      rw [e2, e3]
      have e4 : d'[i]!.1 = (sortL cf xs)[i]! := by
        rw [← hres, getElem!_pos d' i (by omega), getElem!_pos (d'.toList.map (·.1)) i (by simp; omega)]
        simp
      show some ((encV e d'[i]!.1)[j]!) = _
      rw [e4, getElem!_pos (encV e _) j (by rw [he.len]; exact hj), List.getElem?_eq_getElem]
    · rw [if_neg hj, List.getElem?_eq_none (by rw [he.len]; omega)]
  refine ⟨_, [], b :: fps.flatten, h1, ⟨[], rfl, rfl, rfl⟩, ⟨_, _, b :: fps.flatten, [], rfl, ?_, ⟨_, _, [], [], rfl, rfl, rfl, rfl⟩, by simp⟩, by simpa using hnd', fun b' hb' => ?_, ?_⟩
  · have hflat : fps.flatten = [] := by
      rw [List.flatten_eq_nil_iff]
      intro f hf
      obtain ⟨i, hi, rfl⟩ := List.getElem_of_mem hf
      have := hel i (xs[i]'(by omega)) fps[i] (List.getElem?_eq_getElem _) (List.getElem?_eq_getElem hi)
      exact ((ow_plain (he _).2).1 this.2).2
    show OwV w' (.l k e (sortL cf xs)) _ _
    refine ⟨_, c, by rw [sortL_len], by rw [sortL_len]; exact hc, by rw [sortL_len]; exact h63, .inr ⟨b, o, T, cells', List.replicate xs.length [], rfl, hbox', by rw [hcl, hlen], by simp [sortL_len], fun i x f hx hf => ?_, by rw [hflat]; simp, hnd'⟩⟩
    have hi : i < xs.length := by have := (List.getElem?_eq_some_iff.1 hx).1; rwa [sortL_len] at this
    have hf' : f = [] := by
      rw [List.getElem?_replicate, if_pos hi] at hf
      exact (Option.some.inj hf).symm
    have hxe : (sortL cf xs)[i]! = x := by
      obtain ⟨h2, h3⟩ := List.getElem?_eq_some_iff.1 hx
      rw [getElem!_pos _ i h2]; exact h3
    rw [hchunk' i hi, hxe]
    exact ⟨he.len x, (ow_plain (he _).2).2 ⟨rfl, hf'⟩⟩
  · have hb2 : b' ∈ b :: fps.flatten := by simpa using hb'
    refine ⟨Nat.lt_of_lt_of_le ?_ s2, .inl hb2⟩
    rcases List.mem_cons.1 hb2 with rfl | h
    · exact hbox.lt
    · exact OwV.lt (.l k e xs) _ _ ⟨_, c, rfl, hc, h63, .inr ⟨b, o, T, cells, fps, rfl, hbox, hlen, hfl, hel, rfl, hnd'⟩⟩ b' (List.mem_cons_of_mem _ h)
  · refine ⟨by rw [hw']; rfl, by rw [hw']; rfl, by rw [hw']; rfl, s2, fun k' hk' hn => s1 k' hk' fun e => hn (by rw [e]; exact List.mem_cons_self), ?_⟩
    rw [hw']
    show w.drawn ≤ w.drawn + n
    omega

end Go.Proofs.Ytjcgnlpimefhpaa
