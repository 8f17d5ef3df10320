/-
  The machine: slices of structs of plain cells as flat rows; copy at any size. What slices.Insert and slices.Delete stand on.
-/
import Derived.Test.YtjcgnlpimefhpaaMP
import Derived.Shelf.Spec.SlicesInsertGrow
namespace Go.Proofs.Ytjcgnlpimefhpaa
open Go.RowKit Go.Shelf
set_option linter.unusedVariables false
set_option linter.unusedSimpArgs false

/-- the cells of a list -/
def flat {α : Type} (e : α → List Dat) (xs : List α) : List Value := xs.flatMap (encV e)
theorem flat_app {α : Type} (e : α → List Dat) (xs ys : List α) : flat e (xs ++ ys) = flat e xs ++ flat e ys := List.flatMap_append
theorem flat_cons {α : Type} (e : α → List Dat) (x : α) (xs : List α) : flat e (x :: xs) = encV e x ++ flat e xs := List.flatMap_cons
section
variable {α : Type} {k : Nat} {e : α → List Dat} (he : Plain k e)
include he
theorem flat_len : ∀ xs : List α, (flat e xs).length = xs.length * k
  | [] => by simp [flat]
  | x :: xs => by rw [flat_cons, List.length_append, he.len, flat_len xs, List.length_cons, Nat.succ_mul, Nat.add_comm]
theorem flat_one : ∀ xs : List α, ∀ v ∈ flat e xs, v.oneCell' = true := fun xs v hv => by
  obtain ⟨x, _, hx⟩ := List.mem_flatMap.1 hv
  exact he.one x v hx
theorem flat_all (xs : List α) : ((flat e xs).all fun v => v.oneCell') = true := List.all_eq_true.2 (flat_one he xs)
theorem flat_take (xs : List α) (i : Nat) (hi : i ≤ xs.length) : (flat e xs).take (i * k) = flat e (xs.take i) := by
  conv => lhs; rw [← List.take_append_drop i xs, flat_app]
  have : (flat e (xs.take i)).length = i * k := by rw [flat_len he, List.length_take, Nat.min_eq_left hi]
  rw [← this, List.take_left]
theorem flat_drop (xs : List α) (i : Nat) (hi : i ≤ xs.length) : (flat e xs).drop (i * k) = flat e (xs.drop i) := by
  conv => lhs; rw [← List.take_append_drop i xs, flat_app]
  have : (flat e (xs.take i)).length = i * k := by rw [flat_len he, List.length_take, Nat.min_eq_left hi]
  rw [← this, List.drop_left]
theorem flat_get (xs : List α) (i : Nat) (x : α) (hx : xs[i]? = some x) : ((flat e xs).drop (i * k)).take k = encV e x := by
  obtain ⟨hi, rfl⟩ := List.getElem?_eq_some_iff.1 hx
  rw [flat_drop he xs i (by omega), List.drop_eq_getElem_cons hi, flat_cons, ← he.len xs[i], List.take_left]
/-- a slice of its own, as one row -/
theorem own_flat [Inhabited α] {w : World} {xs : List α} {v : Value} {fp : List Nat} (h : OwV w (.l k e xs) v fp) (hx : xs ≠ []) :
    ∃ b T c A R, v = .slice (some ⟨b, A.length, none⟩) xs.length c ∧ fp = [b] ∧ Box w b T (A ++ flat e xs ++ R) ∧ R.length = (c - xs.length) * k ∧ xs.length ≤ c ∧ xs.length ≤ 9223372036854775807 := by
  obtain ⟨a, c, rfl, hc, h63, hO⟩ := h
  rcases hO with ⟨_, rfl, _⟩ | ⟨b, o, T, cells, fps, rfl, hbox, hlen, hfl, hel, rfl, hnd⟩
  · exact absurd rfl hx
  have hle : o + xs.length * k ≤ cells.length := by rw [hlen]; exact Nat.add_le_add_left (Nat.mul_le_mul_right _ hc) _
  have hfe : fps.flatten = [] := by
    rw [List.flatten_eq_nil_iff]
    intro l hl
    obtain ⟨i, hi, rfl⟩ := List.getElem_of_mem hl
    exact ((ow_plain (he _).2).1 (hel i (xs[i]'(by omega)) fps[i] (List.getElem?_eq_getElem (by omega)) (List.getElem?_eq_getElem hi)).2).2
  have hch : ∀ m, m ≤ xs.length → (cells.drop o).take (m * k) = flat e (xs.take m) := by
    intro m
    induction m with
    | zero => intro _; simp [flat]
    | succ m ih =>
      intro hm
      have h1 := ih (by omega)
      have hxm : xs[m]? = some (xs[m]'(by omega)) := List.getElem?_eq_getElem (by omega)
      have h2 := ((ow_plain (he _).2).1 (hel m _ (fps[m]'(by omega)) hxm (List.getElem?_eq_getElem _)).2).1
      have e3 : xs.take (m + 1) = xs.take m ++ [xs[m]'(by omega)] := by rw [List.take_add_one, hxm]; rfl
      rw [Nat.succ_mul, List.take_add, h1, List.drop_drop, h2, e3, flat_app, flat_cons]
      show _ = _ ++ (encV e _ ++ [])
      rw [List.append_nil]; rfl
  refine ⟨b, T, c, cells.take o, cells.drop (o + xs.length * k), ?_, by rw [hfe], ?_, ?_, hc, h63⟩
  · rw [List.length_take, Nat.min_eq_left (by omega)]
  · have e1 := hch xs.length (Nat.le_refl _)
    rw [List.take_length] at e1
    rw [← e1, List.append_assoc, ← List.drop_drop, List.take_append_drop, List.take_append_drop]
    exact hbox
  · rw [List.length_drop, hlen, Nat.sub_mul]; omega
/-- .. and back -/
theorem flat_own [Inhabited α] {w : World} {xs : List α} {b T c : Nat} {A R : List Value} (hb : Box w b T (A ++ flat e xs ++ R)) (hR : R.length = (c - xs.length) * k) (hc : xs.length ≤ c) (h63 : xs.length ≤ 9223372036854775807) :
    OwV w (.l k e xs) (.slice (some ⟨b, A.length, none⟩) xs.length c) [b] := by
  refine ⟨_, c, rfl, hc, h63, .inr ⟨b, A.length, T, _, List.replicate xs.length [], rfl, hb, ?_, by simp, fun i x f hx hf => ?_, by simp, by simp⟩⟩
  · rw [List.length_append, List.length_append, flat_len he, hR, Nat.add_assoc, ← Nat.add_mul]
    congr 2; omega
  · have hf' : f = [] := by
      rw [List.getElem?_replicate] at hf
      split at hf
      · cases hf; rfl
      · cases hf
    have hi : i < xs.length := (List.getElem?_eq_some_iff.1 hx).1
    have h1 : ((A ++ flat e xs ++ R).drop (A.length + i * k)).take k = encV e x := by
      rw [List.append_assoc, ← List.drop_drop, List.drop_left, List.drop_append_of_le_length (by rw [flat_len he]; exact Nat.mul_le_mul_right _ (by omega)), List.take_append_of_le_length (by
        rw [flat_drop he xs i (by omega), flat_len he, List.length_drop]
        calc k = 1 * k := by omega
          _ ≤ _ := Nat.mul_le_mul_right _ (by omega)), flat_get he xs i x hx]
    rw [h1, hf']
    exact ⟨he.len x, (ow_plain (he x).2).2 ⟨rfl, rfl⟩⟩
end

theorem run_copyK {P : Program} {w : World} {t t' ty el b o T dLen dc sLen sc : Nat} {a : Addr} {i : TypeInfo} {cells news : List Value} (ht : P.underlying t = some (.slice el)) (hi : P.info? el = some i) (hb : Box w b T cells)
    (hl : news.length = Nat.min sLen dLen * i.size) (hn : news ≠ []) (hB : ∀ j v, news[j]? = some v → w.cell? (a.add j) = some v) (h1 : (news.all fun v => v.oneCell') = true) (hfit : o + news.length ≤ cells.length) :
    (Builtin.copy_ #[t, t'] ty #[.slice (some ⟨b, o, none⟩) dLen dc, .slice (some a) sLen sc]).run P w = .ok (goInt (Nat.min sLen dLen)) (setBlk w b (.cells (splice cells o news).toArray T (0, 0))) := by
  have hf := firstCells_ok (P := P) (w := w) (size := i.size) (m := Nat.min sLen dLen) (c := sc) (ay := some a) hl (fun h => by cases h) (fun a' h => by cases h; exact hB)
  have hf' := run_firstCells_some (P := P) w i.size (Nat.min sLen dLen) a sLen sc news hl hB
  have hst := run_storeCells (P := P) (o := o) news 0 w cells hb (by simpa using hfit) h1
  simp only [Nat.add_zero, if_neg hn] at hst
  simp [Builtin.copy_, run_underlying ht, sizeOf, typeInfo, hi, Builtin.lenOf, hf', hst]
end Go.Proofs.Ytjcgnlpimefhpaa
