/-
  The machine, first part: data as trees, and how they lie in memory: read, or of their own.
-/
import Derived.Test.YtbhjkcicpobmhaaDoorM0
import Derived.ArgAppend
namespace Go.Proofs.YtbhjkcicpobmhaaDoor
open Go.RowKit

/-- data of one cell that is known by what it does: in memory that does not change -/
structure FX : Type 1 where
  rd : (Nat → Prop) → World → Value → Prop
  ow : World → Value → List Nat → Prop
  mono : ∀ (S S' : Nat → Prop) (w w' : World) (y : Value), (∀ b, S b → S' b ∧ w'.heap[b]? = w.heap[b]?) → rd S w y → rd S' w' y
  one : ∀ (S : Nat → Prop) (w : World) (y : Value), rd S w y → y.oneCell' = true
  keep : ∀ (w w' : World) (y : Value) (fp : List Nat), (∀ b ∈ fp, w'.heap[b]? = w.heap[b]?) → ow w y fp → ow w' y fp
  lt : ∀ (w : World) (y : Value) (fp : List Nat), ow w y fp → ∀ b ∈ fp, b < w.heap.size
  nd : ∀ (w : World) (y : Value) (fp : List Nat), ow w y fp → fp.Nodup
  rdo : ∀ (w : World) (y : Value) (fp : List Nat), ow w y fp → rd (· ∈ fp) w y

/-- data: one cell (a value without an address), or a slice of rows of cells -/
inductive Dat : Type 1 where
  | v (x : Value)
  | l {α : Type} [Inhabited α] (sz : Nat) (enc : α → List Dat) (xs : List α)
  | any
  | x (X : FX)
  | b (d : Dat)

mutual
/-- a value reads as data, in blocks of S -/
def RdV (S : Nat → Prop) (w : World) : Dat → Value → Prop
  | .v x, y => y = x ∧ x.oneCell' = true
  | .any, y => y.oneCell' = true
  | .x X, y => X.rd S w y
  | .b d, y => RdV S w d y
  | @Dat.l α _ sz enc xs, y => ∃ (a : Option Addr) (c : Nat), y = .slice a xs.length c ∧ xs.length ≤ c ∧ xs.length ≤ 9223372036854775807 ∧ ∀ (i : Nat) (x : α), xs[i]? = some x → a = some ⟨ab a, ao a, none⟩ ∧ S (ab a) ∧
      ∃ cs : List Value, cs.length = sz ∧ Has w (ab a) (ao a + i * sz) cs ∧ RdVs S w (enc x) cs
def RdVs (S : Nat → Prop) (w : World) : List Dat → List Value → Prop
  | [], vs => vs = []
  | d :: ds, vs => ∃ u us, vs = u :: us ∧ RdV S w d u ∧ RdVs S w ds us
end

mutual
/-- a value reads as data, and all its memory is of its own: the blocks fp -/
def OwV (w : World) : Dat → Value → List Nat → Prop
  | .v x, y, fp => y = x ∧ x.oneCell' = true ∧ fp = []
  | .any, y, fp => y.oneCell' = true ∧ fp = []
  | .x X, y, fp => X.ow w y fp
  | .b d, y, fp => RdV (· ∈ fp) w d y ∧ fp.Nodup ∧ ∀ b ∈ fp, b < w.heap.size
  | @Dat.l α _ sz enc xs, y, fp => ∃ (a : Option Addr) (c : Nat), y = .slice a xs.length c ∧ xs.length ≤ c ∧ xs.length ≤ 9223372036854775807 ∧ ((c = 0 ∧ xs = [] ∧ fp = []) ∨
      ∃ (b o : Nat) (T : TypeId) (cells : List Value) (fps : List (List Nat)), a = some ⟨b, o, none⟩ ∧ Box w b T cells ∧ cells.length = o + c * sz ∧ fps.length = xs.length ∧
      (∀ (i : Nat) (x : α) (f : List Nat), xs[i]? = some x → fps[i]? = some f → ((cells.drop (o + i * sz)).take sz).length = sz ∧ OwVs w (enc x) ((cells.drop (o + i * sz)).take sz) f) ∧ fp = b :: fps.flatten ∧ fp.Nodup)
def OwVs (w : World) : List Dat → List Value → List Nat → Prop
  | [], vs, fp => vs = [] ∧ fp = []
  | d :: ds, vs, fp => ∃ u us f g, vs = u :: us ∧ OwV w d u f ∧ OwVs w ds us g ∧ fp = f ++ g ∧ fp.Nodup
end

theorem cell?_congr {w w' : World} {b : Nat} (h : w'.heap[b]? = w.heap[b]?) (o : Nat) : w'.cell? ⟨b, o, none⟩ = w.cell? ⟨b, o, none⟩ := by
  simp [World.cell?, h]
theorem Has.congr {w w' : World} {b o : Nat} {cs : List Value} (h : Has w b o cs) (e : w'.heap[b]? = w.heap[b]?) : Has w' b o cs := fun j v hj => by
  rw [cell?_congr e]; exact h j v hj
theorem Box.congr {w w' : World} {b : Nat} {T : TypeId} {cs : List Value} (h : Box w b T cs) (e : w'.heap[b]? = w.heap[b]?) : Box w' b T cs := by
  unfold Box; rw [e]; exact h

mutual
theorem RdV.mono {S S' : Nat → Prop} {w w' : World} (hs : ∀ b, S b → S' b ∧ w'.heap[b]? = w.heap[b]?) : ∀ (d : Dat) (y : Value), RdV S w d y → RdV S' w' d y
  | .v _, _, h => h
  | .any, _, h => h
  | .x X, y, h => X.mono _ _ _ _ y hs h
  | .b d, y, h => RdV.mono hs d y h
  | @Dat.l _ _ sz enc xs, y, h => by
    obtain ⟨a, c, h1, h2, h3, h4⟩ := h
    refine ⟨a, c, h1, h2, h3, fun i x hx => ?_⟩
    obtain ⟨g1, g2, cs, g3, g4, g5⟩ := h4 i x hx
    exact ⟨g1, (hs _ g2).1, cs, g3, g4.congr (hs _ g2).2, RdVs.mono hs (enc x) cs g5⟩
theorem RdVs.mono {S S' : Nat → Prop} {w w' : World} (hs : ∀ b, S b → S' b ∧ w'.heap[b]? = w.heap[b]?) : ∀ (ds : List Dat) (vs : List Value), RdVs S w ds vs → RdVs S' w' ds vs
  | [], _, h => h
  | d :: ds, vs, h => by
    obtain ⟨u, us, rfl, h1, h2⟩ := h
    exact ⟨u, us, rfl, RdV.mono hs d u h1, RdVs.mono hs ds us h2⟩
end

theorem lt_of_same {w w' : World} {b : Nat} (h : b < w.heap.size) (e : w'.heap[b]? = w.heap[b]?) : b < w'.heap.size := by
  rw [Array.getElem?_eq_getElem h] at e
  exact (Array.getElem?_eq_some_iff.1 e).1

mutual
theorem OwV.keep {w w' : World} : ∀ (d : Dat) (y : Value) (fp : List Nat), (∀ b ∈ fp, w'.heap[b]? = w.heap[b]?) → OwV w d y fp → OwV w' d y fp
  | .v _, _, _, _, h => h
  | .any, _, _, _, h => h
  | .x X, y, fp, hk, h => X.keep _ _ y fp hk h
  | .b d, y, fp, hk, h => ⟨RdV.mono (fun b hb => ⟨hb, hk b hb⟩) d y h.1, h.2.1, fun b hb => lt_of_same (h.2.2 b hb) (hk b hb)⟩
  | @Dat.l _ _ sz enc xs, y, fp, hk, h => by
    obtain ⟨a, c, h1, h2, h3, h4⟩ := h
    refine ⟨a, c, h1, h2, h3, ?_⟩
    rcases h4 with h4 | ⟨b, o, T, cells, fps, g1, g2, g3, g4, g5, rfl, g7⟩
    · exact .inl h4
    · refine .inr ⟨b, o, T, cells, fps, g1, g2.congr (hk b List.mem_cons_self), g3, g4, fun i x f hx hf => ?_, rfl, g7⟩
      obtain ⟨k1, k2⟩ := g5 i x f hx hf
      exact ⟨k1, OwVs.keep (enc x) _ f (fun b' hb' => hk b' (List.mem_cons_of_mem _ (List.mem_flatten.2 ⟨f, List.mem_of_getElem? hf, hb'⟩))) k2⟩
theorem OwVs.keep {w w' : World} : ∀ (ds : List Dat) (vs : List Value) (fp : List Nat), (∀ b ∈ fp, w'.heap[b]? = w.heap[b]?) → OwVs w ds vs fp → OwVs w' ds vs fp
  | [], _, _, _, h => h
  | d :: ds, vs, fp, hk, h => by
    obtain ⟨u, us, f, g, rfl, h1, h2, rfl, h3⟩ := h
    exact ⟨u, us, f, g, rfl, OwV.keep d u f (fun b hb => hk b (List.mem_append_left _ hb)) h1, OwVs.keep ds us g (fun b hb => hk b (List.mem_append_right _ hb)) h2, rfl, h3⟩
end

mutual
theorem OwV.lt {w : World} : ∀ (d : Dat) (y : Value) (fp : List Nat), OwV w d y fp → ∀ b ∈ fp, b < w.heap.size
  | .v _, _, _, h, b, hb => by rw [h.2.2] at hb; cases hb
  | .any, _, _, h, b, hb => by rw [h.2] at hb; cases hb
  | .x X, y, fp, h, b, hb => X.lt _ y fp h b hb
  | .b _, _, _, h, b, hb => h.2.2 b hb
  | @Dat.l _ _ sz enc xs, y, fp, h, b', hb' => by
    obtain ⟨a, c, h1, h2, h3, h4⟩ := h
    rcases h4 with ⟨_, _, rfl⟩ | ⟨b, o, T, cells, fps, g1, g2, g3, g4, g5, rfl, g7⟩
    · cases hb'
    · rcases List.mem_cons.1 hb' with rfl | hb'
      · exact g2.lt
      · obtain ⟨f, hf, hbf⟩ := List.mem_flatten.1 hb'
        obtain ⟨i, hi⟩ := List.mem_iff_getElem?.1 hf
        have hlt : i < xs.length := by have := (List.getElem?_eq_some_iff.1 hi).1; omega
        exact OwVs.lt (enc xs[i]) _ f (g5 i _ f (List.getElem?_eq_getElem hlt) hi).2 b' hbf
theorem OwVs.lt {w : World} : ∀ (ds : List Dat) (vs : List Value) (fp : List Nat), OwVs w ds vs fp → ∀ b ∈ fp, b < w.heap.size
  | [], _, _, h, b, hb => by rw [h.2] at hb; cases hb
  | d :: ds, vs, fp, h, b, hb => by
    obtain ⟨u, us, f, g, rfl, h1, h2, rfl, h3⟩ := h
    rcases List.mem_append.1 hb with hb | hb
    · exact OwV.lt d u f h1 b hb
    · exact OwVs.lt ds us g h2 b hb
end

theorem OwV.nd {w : World} : ∀ {d : Dat} {y : Value} {fp : List Nat}, OwV w d y fp → fp.Nodup
  | .v _, _, _, h => by rw [h.2.2]; exact List.nodup_nil
  | .any, _, _, h => by rw [h.2]; exact List.nodup_nil
  | .x X, y, fp, h => X.nd _ y fp h
  | .b _, _, _, h => h.2.1
  | @Dat.l _ _ sz enc xs, y, fp, h => by
    obtain ⟨a, c, h1, h2, h3, h4⟩ := h
    rcases h4 with ⟨_, _, rfl⟩ | ⟨b, o, T, cells, fps, g1, g2, g3, g4, g5, rfl, g7⟩
    · exact List.nodup_nil
    · exact g7
theorem OwVs.nd {w : World} : ∀ {ds : List Dat} {vs : List Value} {fp : List Nat}, OwVs w ds vs fp → fp.Nodup
  | [], _, _, h => by rw [h.2]; exact List.nodup_nil
  | d :: ds, vs, fp, h => by
    obtain ⟨u, us, f, g, rfl, h1, h2, rfl, h3⟩ := h
    exact h3

theorem RdV.one {S : Nat → Prop} {w : World} : ∀ {d : Dat} {y : Value}, RdV S w d y → y.oneCell' = true
  | .v _, _, h => by rw [h.1]; exact h.2
  | .any, _, h => h
  | .x X, y, h => X.one _ _ y h
  | .b d, y, h => RdV.one (d := d) h
  | @Dat.l _ _ sz enc xs, y, h => by obtain ⟨a, c, rfl, h2, h3, h4⟩ := h; rfl
theorem RdVs.one {S : Nat → Prop} {w : World} : ∀ {ds : List Dat} {vs : List Value}, RdVs S w ds vs → (vs.all fun v => v.oneCell') = true
  | [], _, h => by rw [h]; rfl
  | d :: ds, vs, h => by
    obtain ⟨u, us, rfl, h1, h2⟩ := h
    simp [h1.one, RdVs.one h2]
theorem RdVs.len {S : Nat → Prop} {w : World} : ∀ {ds : List Dat} {vs : List Value}, RdVs S w ds vs → vs.length = ds.length
  | [], _, h => by rw [h]; rfl
  | d :: ds, vs, h => by
    obtain ⟨u, us, rfl, h1, h2⟩ := h
    simp [RdVs.len h2]

mutual
theorem OwV.rd {w : World} : ∀ (d : Dat) (y : Value) (fp : List Nat), OwV w d y fp → RdV (· ∈ fp) w d y
  | .v _, _, _, h => ⟨h.1, h.2.1⟩
  | .any, _, _, h => h.1
  | .x X, y, fp, h => X.rdo _ y fp h
  | .b _, _, _, h => h.1
  | @Dat.l α _ sz enc xs, y, fp, h => by
    obtain ⟨a, c, h1, h2, h3, h4⟩ := h
    refine ⟨a, c, h1, h2, h3, fun i x hx => ?_⟩
    rcases h4 with ⟨_, rfl, rfl⟩ | ⟨b, o, T, cells, fps, rfl, g2, g3, g4, g5, rfl, g7⟩
    · simp at hx
    · have hlt : i < xs.length := (List.getElem?_eq_some_iff.1 hx).1
      have hf : fps[i]? = some (fps[i]'(by omega)) := List.getElem?_eq_getElem _
      obtain ⟨k1, k2⟩ := g5 i x _ hx hf
      refine ⟨rfl, List.mem_cons_self, _, k1, ?_, RdVs.mono (fun b' hb' => ⟨List.mem_cons_of_mem _ (List.mem_flatten.2 ⟨_, List.mem_of_getElem? hf, hb'⟩), rfl⟩) _ _ (OwVs.rd (enc x) _ _ k2)⟩
      refine g2.has _ _ ?_
      simp only [ao, Option.getD_some]
      rw [k1]
theorem OwVs.rd {w : World} : ∀ (ds : List Dat) (vs : List Value) (fp : List Nat), OwVs w ds vs fp → RdVs (· ∈ fp) w ds vs
  | [], _, _, h => h.1
  | d :: ds, vs, fp, h => by
    obtain ⟨u, us, f, g, rfl, h1, h2, rfl, h3⟩ := h
    exact ⟨u, us, rfl, RdV.mono (fun b hb => ⟨List.mem_append_left _ hb, rfl⟩) _ _ (OwV.rd d u f h1), RdVs.mono (fun b hb => ⟨List.mem_append_right _ hb, rfl⟩) _ _ (OwVs.rd ds us g h2)⟩
end

theorem OwVs.one {w : World} {ds : List Dat} {vs : List Value} {fp : List Nat} (h : OwVs w ds vs fp) : (vs.all fun v => v.oneCell') = true := (OwVs.rd _ _ _ h).one
theorem OwVs.len {w : World} {ds : List Dat} {vs : List Value} {fp : List Nat} (h : OwVs w ds vs fp) : vs.length = ds.length := (OwVs.rd _ _ _ h).len

/-- what is read of it -/
def Dat.view : Dat → Dat
  | .b d => d
  | d => d
theorem RdV.view {S : Nat → Prop} {w : World} {d : Dat} {y : Value} (h : RdV S w d y) : RdV S w d.view y := by
  cases d <;> exact h

/-- what reads as d reads as e, and what is of its own stays so -/
structure Imp (d e : Dat) : Prop where
  rd : ∀ (S : Nat → Prop) (w : World) (y : Value), RdV S w d y → RdV S w e y
  ow : ∀ (w : World) (y : Value) (fp : List Nat), OwV w d y fp → OwV w e y fp
theorem Imp.refl (d : Dat) : Imp d d := ⟨fun _ _ _ h => h, fun _ _ _ h => h⟩
theorem Imp.of_eq {d e : Dat} (h : d = e) : Imp d e := h ▸ Imp.refl d
theorem Imp.trans {d e f : Dat} (h : Imp d e) (h' : Imp e f) : Imp d f := ⟨fun S w y k => h'.rd S w y (h.rd S w y k), fun w y fp k => h'.ow w y fp (h.ow w y fp k)⟩
/-- what is of its own is a lump that is read -/
theorem Imp.lump (d : Dat) : Imp d (.b d) := ⟨fun _ _ _ h => h, fun _ y fp h => ⟨OwV.rd d y fp h, h.nd, OwV.lt d y fp h⟩⟩
/-- the nil slice reads as the empty list -/
theorem Imp.nil {α : Type} [Inhabited α] (sz : Nat) (enc : α → List Dat) : Imp (.v (.slice none 0 0)) (.l sz enc []) :=
  ⟨fun S w y h => ⟨none, 0, h.1, Nat.le_refl _, by simp, fun i x hx => by simp at hx⟩, fun w y fp h => ⟨none, 0, h.1, Nat.le_refl _, by simp, .inl ⟨rfl, rfl, h.2.2⟩⟩⟩
theorem Imp.list {α : Type} [Inhabited α] {sz : Nat} {enc : α → List Dat} {xs ys : List α} (h : xs = ys) : Imp (.l sz enc xs) (.l sz enc ys) := Imp.of_eq (by rw [h])

def Imps : List Dat → List Dat → Prop
  | [], [] => True
  | d :: ds, e :: es => Imp d e ∧ Imps ds es
  | _, _ => False
theorem Imps.refl : ∀ ds : List Dat, Imps ds ds
  | [] => trivial
  | d :: ds => ⟨Imp.refl d, Imps.refl ds⟩
theorem Imps.of_eq {ds es : List Dat} (h : ds = es) : Imps ds es := h ▸ Imps.refl ds
theorem Imps.rd {S : Nat → Prop} {w : World} : ∀ {ds es : List Dat} {vs : List Value}, Imps ds es → RdVs S w ds vs → RdVs S w es vs
  | [], [], _, _, h => h
  | d :: ds, e :: es, vs, hi, h => by
    obtain ⟨u, us, rfl, h1, h2⟩ := h
    exact ⟨u, us, rfl, hi.1.rd _ _ _ h1, Imps.rd hi.2 h2⟩
  | [], _ :: _, _, hi, _ => hi.elim
  | _ :: _, [], _, hi, _ => hi.elim
theorem Imps.ow {w : World} : ∀ {ds es : List Dat} {vs : List Value} {fp : List Nat}, Imps ds es → OwVs w ds vs fp → OwVs w es vs fp
  | [], [], _, _, _, h => h
  | d :: ds, e :: es, vs, fp, hi, h => by
    obtain ⟨u, us, f, g, rfl, h1, h2, rfl, h3⟩ := h
    exact ⟨u, us, f, g, rfl, hi.1.ow _ _ _ h1, Imps.ow hi.2 h2, rfl, h3⟩
  | [], _ :: _, _, _, hi, _ => hi.elim
  | _ :: _, [], _, _, hi, _ => hi.elim

end Go.Proofs.YtbhjkcicpobmhaaDoor
