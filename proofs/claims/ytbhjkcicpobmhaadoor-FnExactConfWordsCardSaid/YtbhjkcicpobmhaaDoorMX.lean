/-
  The machine: the library's functions on strings, as calls.
-/
import Derived.Test.YtbhjkcicpobmhaaDoorMP
import Derived.Shelf.Strings.Cut
import Derived.Shelf.Strings.Split
import Derived.Shelf.Strings.OnBuilder
import Derived.Shelf.Slices.In.SortAlone
import Derived.Shelf.Slices.In.SortNone
import Derived.Sort.EveryDepth
namespace Go.Proofs.YtbhjkcicpobmhaaDoor
open Go.RowKit Go.Shelf
set_option linter.unusedVariables false
set_option linter.unusedSimpArgs false

section
variable {P : Program} {ρ : Go.Shelf.Ren}

theorem chg_drewN (SS : Nat → Prop) (w : World) (n : Nat) : Chg SS w (w.drewN n) := ⟨rfl, rfl, rfl, Nat.le_refl _, fun _ _ _ => rfl, Nat.le_add_right _ _⟩
theorem chg_alloc (SS : Nat → Prop) (w : World) (o : Obj) : Chg SS w (w.alloc o) := Chg.of_below (bpush w o)

/-- strings.Cut -/
def cut3 (s sep : ByteArray) : ByteArray × ByteArray × Bool := (⟨(Lib.cut s.data.toList sep.data.toList).1.toArray⟩, ⟨(Lib.cut s.data.toList sep.data.toList).2.1.toArray⟩, (Lib.cut s.data.toList sep.data.toList).2.2)
theorem cut_ok (L : Lays.n145 P ρ) (hg : ρ.g 1 ∈ GBi) (s sep : ByteArray) : Spec.ok P (ρ.f 145) ⟨[.r (.c (.v (.string s))), .r (.c (.v (.string sep)))], .tu [.v (.string (cut3 s sep).1), .v (.string (cut3 s sep).2.1), .v (.bool (cut3 s sep).2.2)], s.size ≤ 4294967280⟩ := by
  intro hs S w vs fp hS hG hA
  obtain ⟨u, us, f, g, rfl, ⟨⟨rfl, _⟩, rfl⟩, ⟨u2, us2, f2, g2, rfl, ⟨⟨rfl, _⟩, rfl⟩, ⟨rfl, rfl⟩, rfl, _⟩, rfl, _⟩ := hA
  obtain ⟨m, hm⟩ := hG.1.2.1 _ hg
  have hs : s.size ≤ 4294967280 := hs
  refine (Any.strings_Cut L s sep m w (by omega) hm).mono fun e w' ⟨h1, n, h2⟩ => ?_
  subst h2
  exact ⟨_, [], [], h1, ⟨[_, _, _], rfl, _, _, [], [], rfl, ⟨rfl, rfl, rfl⟩, ⟨_, _, [], [], rfl, ⟨rfl, rfl, rfl⟩, ⟨_, _, [], [], rfl, ⟨rfl, rfl, rfl⟩, ⟨rfl, rfl⟩, rfl⟩, rfl⟩, rfl⟩,
    ⟨_, _, [], [], rfl, rfl, ⟨_, _, [], [], rfl, rfl, rfl, rfl⟩, rfl⟩, List.nodup_nil, fun b hb => by simp at hb, chg_drewN _ w n⟩

/-- strings.Split -/
def splitS (s sep : ByteArray) : List ByteArray := Lib.splitB sep 0 (Lib.countB s sep) s
theorem ow_strs (w : World) : ∀ ys : List ByteArray, OwVs w (ys.map eStr).flatten (ys.map Value.string) []
  | [] => ⟨rfl, rfl⟩
  | y :: ys => ⟨.string y, ys.map Value.string, [], [], rfl, ⟨rfl, rfl, rfl⟩, ow_strs w ys, rfl, List.nodup_nil⟩
theorem splitS_len (s sep : ByteArray) (h1 : 1 ≤ sep.size) : (splitS s sep).length = Lib.countB s sep + 1 := Lib.splitB_all sep h1 0 _ s rfl
theorem split_ok (L : Lays.n146 P ρ) (hi9 : (P.info? (ρ.t 9)).map (fun i => (i.zero, i.size, i.bytes)) = some (some (.string ByteArray.empty), 1, 16)) (hg : ρ.g 1 ∈ GBi) (s sep : ByteArray) :
    Spec.ok P (ρ.f 146) ⟨[.r (.c (.v (.string s))), .r (.c (.v (.string sep)))], .ow (.l 1 eStr (splitS s sep)), s.size ≤ 4294967280 ∧ 1 ≤ sep.size⟩ := by
  intro ⟨hs, h1⟩ S w vs fp hS hG hA
  obtain ⟨u, us, f, g, rfl, ⟨⟨rfl, _⟩, rfl⟩, ⟨u2, us2, f2, g2, rfl, ⟨⟨rfl, _⟩, rfl⟩, ⟨rfl, rfl⟩, rfl, _⟩, rfl, _⟩ := hA
  obtain ⟨m, hm⟩ := hG.1.2.1 _ hg
  have hle := Lib.countB_le sep h1 s.size s (Nat.le_refl _)
  have hlen := splitS_len s sep h1
  refine (Any.strings_Split L hi9 s sep m w (by omega) hm h1).mono fun e w' ⟨h2, h3⟩ => ?_
  subst h3
  refine ⟨_, [w.heap.size], [], h2, ?_, ⟨_, _, [], [], rfl, rfl, ⟨_, _, [], [], rfl, rfl, rfl, rfl⟩, rfl⟩, by simp, fun b hb => ?_, (chg_alloc _ w _).toD _⟩
  · rw [← hlen]
    refine own_of_split (ys := splitS s sep) (vs := (splitS s sep).map Value.string) (rest := []) (c := (splitS s sep).length) (T := ρ.t 9) (ow_strs _ _) (fun y _ => rfl) (bpush w _) (by simp) ?_ (by simp) (Nat.le_refl _) (by omega)
    simp only [List.append_nil]
    exact heap_alloc_new w _
  · have hb : b = w.heap.size := by simpa using hb
    subst hb
    exact ⟨by simp, .inr (Nat.le_refl _)⟩

theorem splitS_le (s sep : ByteArray) (h1 : 1 ≤ sep.size) : (splitS s sep).length ≤ s.size + 1 := by
  rw [splitS_len s sep h1]
  have := Lib.countB_le sep h1 s.size s (Nat.le_refl _)
  omega
theorem cut3_le1 (s sep : ByteArray) : ((cut3 s sep).1.size : Int) ≤ (s.size : Int) := by
  have : (cut3 s sep).1.size ≤ s.size := by
    show (Lib.cut s.data.toList sep.data.toList).1.toArray.size ≤ s.data.size
    unfold Lib.cut
    split
    · simp only [List.size_toArray, List.length_take, List.length_drop]
      have : s.data.toList.length = s.data.size := by simp
      omega
    · simp
  omega
theorem cut3_le2 (s sep : ByteArray) : ((cut3 s sep).2.1.size : Int) ≤ (s.size : Int) := by
  have : (cut3 s sep).2.1.size ≤ s.size := by
    show (Lib.cut s.data.toList sep.data.toList).2.1.toArray.size ≤ s.data.size
    unfold Lib.cut
    split
    · simp only [List.size_toArray, List.length_take, List.length_drop]
      have : s.data.toList.length = s.data.size := by simp
      omega
    · simp
  omega

/-- strings.Join -/
def joinS (xs : List ByteArray) (sep : ByteArray) : ByteArray := ⟨(Lib.join (xs.map (·.data.toList)) sep.data.toList).toArray⟩
theorem join_ok (L : Lays.n156 P ρ) (X : Builder.Extra P ρ) (xs : List ByteArray) (sep : ByteArray) :
    Spec.ok P (ρ.f 156) ⟨[.r (.c (.l 1 eStr xs)), .r (.c (.v (.string sep)))], .v (.string (joinS xs sep)), xs.length ≤ 140737488355328 ∧ (joinS xs sep).size ≤ 140737488355328⟩ false := by
  intro ⟨hl, hj⟩ S w vs fp hS hG hA
  obtain ⟨u, us, f, g, rfl, ⟨⟨a, c, rfl, hc, h63, hx⟩, rfl⟩, ⟨u2, us2, f2, g2, rfl, ⟨⟨rfl, _⟩, rfl⟩, ⟨rfl, rfl⟩, rfl, _⟩, rfl, _⟩ := hA
  have fin : ∀ (e : Ending) (w' : World), e = .returned (.string (joinS xs sep)) → Below w.heap.size w w' → ∃ rv fr fb, e = .returned rv ∧ RTOK w' (.v (.string (joinS xs sep))) rv fr ∧ BehsOK w' [.r (.c (.l 1 eStr xs)), .r (.c (.v (.string sep)))] [.slice a xs.length c, .string sep] fb ∧ (fr ++ fb).Nodup ∧ (∀ b ∈ fr ++ fb, b < w'.heap.size ∧ (b ∈ ([] ++ ([] ++ []) : List Nat) ∨ w.heap.size ≤ b)) ∧ Chg (· ∈ ([] ++ ([] ++ []) : List Nat)) (atD false w) w' :=
    fun e w' h1 h2 => ⟨_, [], [], h1, ⟨rfl, rfl, rfl⟩, ⟨_, _, [], [], rfl, rfl, ⟨_, _, [], [], rfl, rfl, rfl, rfl⟩, rfl⟩, List.nodup_nil, fun b hb => by simp at hb, ⟨h2.os, h2.tape, h2.output, h2.size, fun k hk _ => h2.block k hk, Nat.zero_le _⟩⟩
  cases xs with
  | nil =>
    refine (Any.strings_Join_none L X a c sep w).mono fun e w' ⟨h1, h2⟩ => fin e w' ?_ (h2 ▸ Below.refl _ _)
    rw [h1]; rfl
  | cons x xs =>
    obtain ⟨ha, hSb, _⟩ := hx 0 x rfl
    rw [ha]
    refine (Any.strings_Join L X (ab a) (ao a) c (x :: xs) sep w (fun j y hy => ?_) (hS _ hSb).1 hl hc (by simpa [joinS, ByteArray.size] using hj)).mono fun e w' ⟨h1, h2⟩ => ?_
    · obtain ⟨_, _, cs, h1, h2, h3⟩ := hx j y hy
      obtain ⟨u, us, rfl, ⟨rfl, _⟩, _⟩ := h3
      have := h2 0 _ rfl
      simpa using this
    · have := fin e w' h1 h2
      rw [ha] at this
      exact this

/-- slices.Sort at strings -/
def sortS (xs : List ByteArray) : List ByteArray := ((xs.map (·.data.toList)).mergeSort fun x y => decide (x ≤ y)).map fun l => ⟨l.toArray⟩
theorem sortS_len (xs : List ByteArray) : (sortS xs).length = xs.length := by simp [sortS, List.length_mergeSort]
open Go.Sort in
theorem sortS_ok (L : Lays.n190 P ρ) (xs : List ByteArray) :
    Spec.ok P (ρ.f 190) ⟨[.ow (.l 1 eStr xs) (some (.l 1 eStr (sortS xs)))], .tu [], xs.length ≤ 4000000000000000000⟩ := by
  intro hl S w vs fp hS hG hA
  have hl : xs.length ≤ 4000000000000000000 := hl
  obtain ⟨u, us, f, g, rfl, hO, ⟨rfl, rfl⟩, rfl, hnd⟩ := hA
  simp only [List.append_nil] at hnd hS ⊢
  obtain ⟨a, c, rfl, hc, h63, hO⟩ := hO
  by_cases hx : xs = []
  · subst hx
    refine (calls_of_every_depth fun D => AnyS.slices_Sort_string_none_in L D a c w).mono fun e' w' ⟨h1, h2⟩ => ?_
    subst h2
    have hs : sortS [] = [] := by simp [sortS]
    refine ⟨_, [], f, h1, ⟨[], rfl, rfl, rfl⟩, ⟨_, _, f, [], rfl, ?_, rfl, by simp⟩, by simpa using hnd, fun b hb => ?_, (Chg.of_below (Bel.refl _ _)).toD _⟩
    · show OwV w' (.l 1 eStr (sortS [])) _ f
      rw [hs]; exact ⟨a, c, rfl, hc, h63, hO⟩
    · have hb : b ∈ f := by simpa using hb
      exact ⟨OwV.lt (.l 1 eStr ([] : List ByteArray)) _ f ⟨a, c, rfl, hc, h63, hO⟩ b hb, .inl hb⟩
  rcases hO with ⟨_, rfl, _⟩ | ⟨b, o, T, cells, fps, rfl, hbox, hlen, hfl, hel, rfl, hnd'⟩
  · exact absurd rfl hx
  let zs : List (List UInt8) := xs.map (·.data.toList)
  have hzl : zs.length = xs.length := by simp [zs]
  let ss : List (List UInt8) := zs.mergeSort fun x y => decide (x ≤ y)
  have hsl : ss.length = xs.length := by simp [ss, List.length_mergeSort, hzl]
  have hcell : ∀ i (hi : i < xs.length), cells[o + i]? = some (.string xs[i]) ∧ fps[i]'(by omega) = [] := fun i hi => by
    obtain ⟨h1, h2⟩ := hel i xs[i] (fps[i]'(by omega)) (List.getElem?_eq_getElem hi) (List.getElem?_eq_getElem _)
    obtain ⟨v, vs', f1, f2, h3, ⟨rfl, _, rfl⟩, ⟨rfl, rfl⟩, h4, _⟩ := h2
    refine ⟨?_, by rw [h4]; rfl⟩
    have := congrArg (fun l : List Value => l[0]?) h3
    simpa [List.getElem?_take, List.getElem?_drop] using this
  have hH : Go.Sort.Holds encStr w b o zs.toArray := by
    intro j hj
    have hj' : j < xs.length := by simpa [zs] using hj
    have hb' : w.heap[b]? = some (.cells cells.toArray T (0, 0)) := hbox
    refine ⟨?_, by simp [World.frozen?, hb']⟩
    rw [getElem!_pos zs.toArray j hj]
    simp only [World.cell?, hb']
    simp only [Option.isSome_none, Bool.false_eq_true, if_false, List.getElem?_toArray]
    rw [(hcell j hj').1]
    simp [zs, encStr]
  have hcall := calls_of_every_depth fun D => AnyS.slices_Sort_string_alone L D b o c zs w hH hbox.lt (by omega)
  rw [hzl] at hcall
  refine hcall.mono fun e' w' ⟨h1, n, os, hw'⟩ => ?_
  have hsz : (putRow encStr (Sort.ahead w n) b o ss.toArray).heap.size = w.heap.size := by simp [putRow, mapBlock, Sort.ahead]
  have s1 : ∀ b', b' < w.heap.size → b' ≠ b → w'.heap[b']? = w.heap[b']? := fun b' hb' hne => by
    rw [hw']
    show ((putRow encStr (Sort.ahead w n) b o ss.toArray).heap ++ os)[b']? = _
    rw [Array.getElem?_append_left (by rw [hsz]; exact hb')]
    simp only [putRow, mapBlock, Sort.ahead, Array.getElem?_modify]
    rw [if_neg (Ne.symm hne)]
  have s2 : w.heap.size ≤ w'.heap.size := by
    rw [hw']
    show _ ≤ ((putRow encStr (Sort.ahead w n) b o ss.toArray).heap ++ os).size
    rw [Array.size_append, hsz]; omega
  let cells' : List Value := (putCells encStr o ss.toArray cells.toArray).toList
  have hcl : cells'.length = cells.length := by simp [cells', putCells]
  have hbox' : Box w' b T cells' := by
    show w'.heap[b]? = _
    rw [hw']
    show ((putRow encStr (Sort.ahead w n) b o ss.toArray).heap ++ os)[b]? = _
    have hb' : w.heap[b]? = some (.cells cells.toArray T (0, 0)) := hbox
    rw [Array.getElem?_append_left (by rw [hsz]; exact hbox.lt)]
    simp only [putRow, mapBlock, Sort.ahead, Array.getElem?_modify, if_true, hb', Option.map_some, onCells]
    simp [cells']
  have hc' : ∀ i (hi : i < xs.length), cells'[o + i]? = some (.string ((sortS xs)[i]'(by rw [sortS_len]; exact hi))) := fun i hi => by
    have hin : o + i < cells.length := by omega
    simp only [cells', putCells, Array.getElem?_toList, Array.getElem?_mapIdx]
    rw [Array.getElem?_eq_getElem (by simp; omega)]
    simp only [Option.map_some]
    rw [if_pos ⟨by omega, by simp only [List.size_toArray]; omega⟩]
    have e1 : o + i - o = i := by omega
    rw [e1, getElem!_pos ss.toArray i (by simp only [List.size_toArray]; omega)]
    simp [encStr, sortS, ss, zs]
  refine ⟨_, [], b :: fps.flatten, h1, ⟨[], rfl, rfl, rfl⟩, ⟨_, _, b :: fps.flatten, [], rfl, ?_, rfl, by simp⟩, by simpa using hnd', fun b' hb' => ?_, Chg.toD _ ?_⟩
  · have hflat : fps.flatten = [] := by
      rw [List.flatten_eq_nil_iff]
      intro f hf
      obtain ⟨i, hi, rfl⟩ := List.getElem_of_mem hf
      exact (hcell i (by omega)).2
    show OwV w' (.l 1 eStr (sortS xs)) _ _
    refine ⟨_, c, by rw [sortS_len], by rw [sortS_len]; exact hc, by rw [sortS_len]; exact h63, .inr ⟨b, o, T, cells', List.replicate xs.length [], rfl, hbox', by rw [hcl, hlen], by simp [sortS_len], fun i x f hx hf => ?_, by rw [hflat]; simp, hnd'⟩⟩
    have hi : i < xs.length := by have := (List.getElem?_eq_some_iff.1 hx).1; rwa [sortS_len] at this
    have hf' : f = [] := by
      rw [List.getElem?_replicate, if_pos hi] at hf
      exact (Option.some.inj hf).symm
    have hxe : (sortS xs)[i]'(by rw [sortS_len]; exact hi) = x := (List.getElem?_eq_some_iff.1 hx).2
    have htk : (cells'.drop (o + i * 1)).take 1 = [.string x] := by
      have h2 := hc' i hi
      rw [hxe] at h2
      refine List.ext_getElem? fun j => ?_
      rw [List.getElem?_take, Nat.mul_one]
      cases j with
      | zero => simp [List.getElem?_drop, h2]
      | succ j => simp
    rw [htk, hf']
    exact ⟨rfl, _, _, [], [], rfl, ⟨rfl, rfl, rfl⟩, ⟨rfl, rfl⟩, rfl, List.nodup_nil⟩
  · have hb2 : b' ∈ b :: fps.flatten := by simpa using hb'
    refine ⟨Nat.lt_of_lt_of_le ?_ s2, .inl hb2⟩
    rcases List.mem_cons.1 hb2 with rfl | h
    · exact hbox.lt
    · exact OwV.lt (.l 1 eStr xs) _ _ ⟨_, c, rfl, hc, h63, .inr ⟨b, o, T, cells, fps, rfl, hbox, hlen, hfl, hel, rfl, hnd'⟩⟩ b' (List.mem_cons_of_mem _ h)
  · refine ⟨by rw [hw']; rfl, by rw [hw']; rfl, by rw [hw']; rfl, s2, fun k' hk' hn => s1 k' hk' fun e => hn (by rw [e]; exact List.mem_cons_self), ?_⟩
    rw [hw']
    show w.drawn ≤ w.drawn + n
    omega

end
end Go.Proofs.YtbhjkcicpobmhaaDoor