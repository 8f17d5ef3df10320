/-
  The machine, eighth part: stores, append.
-/
import Derived.Test.YtbhjkcicpobmhaaDoorM7
namespace Go.Proofs.YtbhjkcicpobmhaaDoor
open Go.RowKit
set_option linter.unusedVariables false
set_option linter.unusedSimpArgs false

section
variable {P : Program} {fs fsA : Nat → Option Fact} {β : Nat → Nat → Value} {φ : Nat → List Nat} {dom ψ IN : Nat → Prop} {w0 w w' : World} {base : Nat}

/-- an element is another one -/
def SetOK (d : Dat) (k : Nat) (old new : List Dat) (d' : Dat) : Prop :=
  ∃ (α : Type) (_ : Inhabited α) (sz : Nat) (enc : α → List Dat) (xs : List α) (α' : Type) (_ : Inhabited α') (enc' : α' → List Dat) (ys : List α'), d = .l sz enc xs ∧ d' = .l sz enc' ys ∧ ys.length = xs.length ∧ enc (xs.getD k default) = old ∧
    (k < xs.length → Imps new (enc' (ys.getD k default))) ∧ ∀ i, i ≠ k → i < xs.length → Imps (enc (xs.getD i default)) (enc' (ys.getD i default))
theorem getD_set_eq {α : Type} [Inhabited α] (xs : List α) (k : Nat) (x : α) (h : k < xs.length) : (xs.set k x).getD k default = x := by
  rw [List.getD_eq_getElem?_getD, List.getElem?_set_self h]; rfl
theorem getD_set_ne {α : Type} [Inhabited α] (xs : List α) (k i : Nat) (x : α) (h : i ≠ k) : (xs.set k x).getD i default = xs.getD i default := by
  rw [List.getD_eq_getElem?_getD, List.getElem?_set_ne (Ne.symm h), List.getD_eq_getElem?_getD]
theorem SetOK.mk {α : Type} [Inhabited α] {sz k : Nat} {old new : List Dat} (enc : α → List Dat) (xs : List α) (x : α) (h0 : enc (xs.getD k default) = old) (h : Imps new (enc x)) : SetOK (.l sz enc xs) k old new (.l sz enc (xs.set k x)) :=
  ⟨α, inferInstance, sz, enc, xs, α, inferInstance, enc, xs.set k x, rfl, rfl, List.length_set, h0, fun hk => by rw [getD_set_eq xs k x hk]; exact h, fun i hi _ => by rw [getD_set_ne xs k i x hi]; exact Imps.refl _⟩
/-- an element that was just set, set again -/
theorem SetOK.mk2 {α : Type} [Inhabited α] {sz k : Nat} {new : List Dat} (enc : α → List Dat) (xs : List α) (x0 x : α) (hk : k < xs.length) (h : Imps new (enc x)) : SetOK (.l sz enc (xs.set k x0)) k (enc x0) new (.l sz enc (xs.set k x)) := by
  have := SetOK.mk (sz := sz) (k := k) enc (xs.set k x0) x (by rw [getD_set_eq xs k x0 hk]) h
  rwa [List.set_set] at this
/-- an element one of whose slices has been taken out -/
def encH {α : Type} (j : Nat) (enc : α → List Dat) (x : α × Bool) : List Dat := bif x.2 then (enc x.1).set j .any else enc x.1
def hz {α : Type} (x : α) : α × Bool := (x, false)
theorem getD_hz {α : Type} [Inhabited α] (xs : List α) (i : Nat) (h : i < xs.length) : (xs.map hz).getD i default = hz (xs.getD i default) := by
  rw [List.getD_eq_getElem?_getD, List.getD_eq_getElem?_getD, List.getElem?_map, List.getElem?_eq_getElem h]; rfl
theorem SetOK.take {α : Type} [Inhabited α] {sz k : Nat} {old new : List Dat} (enc : α → List Dat) (xs : List α) (x : α) (j : Nat) (hx : k < xs.length → xs.getD k default = x) (h0 : enc (xs.getD k default) = old) (h : new = (enc x).set j .any) : SetOK (.l sz enc xs) k old new (.l sz (encH j enc) ((xs.map hz).set k (x, true))) :=
  ⟨α, inferInstance, sz, enc, xs, α × Bool, inferInstance, encH j enc, _, rfl, rfl, by simp, h0, fun hk => by rw [getD_set_eq _ _ _ (by simpa using hk), h]; exact Imps.refl _, fun i hi hl => by rw [getD_set_ne _ _ _ _ hi, getD_hz xs i hl]; exact Imps.refl _⟩
theorem SetOK.fill {α : Type} [Inhabited α] {sz k : Nat} {old new : List Dat} (enc : α → List Dat) (xs : List α) (x x' : α) (j : Nat) (h0 : encH j enc (((xs.map hz).set k (x, true)).getD k default) = old) (h : Imps new (enc x')) : SetOK (.l sz (encH j enc) ((xs.map hz).set k (x, true))) k old new (.l sz enc (xs.set k x')) :=
  ⟨α × Bool, inferInstance, sz, encH j enc, _, α, inferInstance, enc, xs.set k x', rfl, rfl, by simp, h0, fun hk => by
    rw [getD_set_eq xs k x' (by simpa using hk)]; exact h, fun i hi hl => by
    have hl : i < xs.length := by simpa using hl
    rw [getD_set_ne _ _ _ _ hi, getD_hz xs i hl, getD_set_ne _ _ _ _ hi]; exact Imps.refl _⟩

def eStore (P : Program) (fs : Nat → Option Fact) (base : Nat) (T : TypeId) (a v : AV) (hint : Option Dat) : Option OpR :=
  match a, tSize P T with
  | .p id off, some n => bif Nat.beq v.cells.length n then (match fs id with
    | some (.box T0 cs) => bif v.cells.all AV.one && Nat.ble (off + n) cs.length then some ⟨[], .v undef, [(id, some (.box T0 (cs.take off ++ v.cells ++ cs.drop (off + n))))]⟩ else none
    | some (.mem (some (X, V)) (some (Y, 0, k)) ds) => (match fs X, hint, ownDats fs v.cells with
      | some (.own V' d), some d', some (vds, ids) => bif Nat.beq V V' && Nat.ble (off + n) ds.length && !(ids.any (Nat.beq X)) && Nat.beq Y X then
          some ⟨[SetOK d k ds (ds.take off ++ vds ++ ds.drop (off + n)) d'], .v undef, (X, some (.own base d')) :: ids.map fun i => (i, none)⟩ else none
      | _, _, _ => none)
    | _ => none) else none
  | _, _ => none

theorem OwVs.app : ∀ {ds es : List Dat} {vs us : List Value} {f g : List Nat}, OwVs w ds vs f → OwVs w es us g → (∀ b ∈ f, b ∉ g) → OwVs w (ds ++ es) (vs ++ us) (f ++ g)
  | [], es, vs, us, f, g, h, h', _ => by rw [h.1, h.2]; exact h'
  | d :: ds, es, vs, us, f, g, h, h', hd => by
    obtain ⟨v, vs', f1, f2, rfl, h1, h2, rfl, h3⟩ := h
    have h4 := OwVs.app h2 h' fun b hb => hd b (List.mem_append_right _ hb)
    refine ⟨v, vs' ++ us, f1, f2 ++ g, rfl, h1, h4, by simp, ?_⟩
    exact List.nodup_append.2 ⟨h3, h'.nd, fun a ha b hb e => hd a ha (e ▸ hb)⟩

theorem OwVs.unapp : ∀ (ds : List Dat) {es : List Dat} {vs : List Value} {fp : List Nat}, OwVs w (ds ++ es) vs fp → ∃ us ws f g, vs = us ++ ws ∧ fp = f ++ g ∧ OwVs w ds us f ∧ OwVs w es ws g ∧ fp.Nodup
  | [], es, vs, fp, h => ⟨[], vs, [], fp, rfl, rfl, ⟨rfl, rfl⟩, h, h.nd⟩
  | d :: ds, es, vs, fp, h => by
    have hnd := h.nd
    obtain ⟨u, us, f, g, rfl, h1, h2, rfl, h3⟩ := h
    obtain ⟨us', ws, f', g', rfl, rfl, h4, h5, _⟩ := OwVs.unapp ds h2
    refine ⟨u :: us', ws, f ++ f', g', rfl, by simp, ⟨u, us', f, f', rfl, h1, h4, rfl, ?_⟩, h5, h3⟩
    rw [← List.append_assoc] at h3
    exact (List.nodup_append.1 h3).1

theorem run_storeV {T : TypeId} {b o T0 : Nat} {cells vs : List Value} {v : Value} (hb : Box w b T0 cells) (hs : tSize P T = some vs.length) (hv : v.cells.toList = vs) (hlen : o + vs.length ≤ cells.length) (hone : (vs.all fun v => v.oneCell') = true) :
    (do Instr.storeAt T (.pointer (some ⟨b, o, none⟩)) v; pure Next.skip : Sem Next).run P w = .ok .skip (if vs = [] then w else setBlk w b (.cells (splice cells o vs).toArray T0 (0, 0))) := by
  obtain ⟨inf, hi, hsz⟩ := Option.map_eq_some_iff.1 hs
  have hsz2 : v.cells.size = inf.size := by rw [hsz, ← hv]; simp
  have := run_storeCells (P := P) (o := o) vs 0 w cells hb (by simpa using hlen) hone
  simp only [Nat.add_zero] at this
  simp [Instr.storeAt, Instr.sureAddr, storeVar, sizeOf, typeInfo, hi, hsz2, hv, this]

theorem splice_nil (cells : List Value) (o : Nat) : splice cells o [] = cells := by simp [splice]
theorem store_chg {b T : Nat} {o : Nat} {cells vs : List Value} (hb : Box w b T cells) : Chg (· = b) w (if vs = [] then w else setBlk w b (.cells (splice cells o vs).toArray T (0, 0))) ∧
    Box (if vs = [] then w else setBlk w b (.cells (splice cells o vs).toArray T (0, 0))) b T (splice cells o vs) := by
  by_cases h : vs = []
  · subst h; simp only [if_true, splice_nil]; exact ⟨Chg.of_below (Bel.refl _ _), hb⟩
  · rw [if_neg h]; exact ⟨setBlk_chg _ _ _, setBlk_box hb.lt _ _⟩

theorem chunk_ne {sz o k i : Nat} {cells nc : List Value} (hl : nc.length = sz) (hc : o + k * sz + sz ≤ cells.length) (hik : i ≠ k) : ((splice cells (o + k * sz) nc).drop (o + i * sz)).take sz = (cells.drop (o + i * sz)).take sz := by
  refine List.ext_getElem? fun j => ?_
  simp only [List.getElem?_take, List.getElem?_drop]
  split
  · rename_i hj
    unfold splice
    rcases Nat.lt_or_gt_of_ne hik with hlt | hgt
    · have : i * sz + j < k * sz := by
        calc i * sz + j < i * sz + sz := by omega
          _ = (i + 1) * sz := by rw [Nat.succ_mul]
          _ ≤ k * sz := Nat.mul_le_mul_right _ hlt
      rw [List.append_assoc, List.getElem?_append_left (by simp; omega), List.getElem?_take, if_pos (by omega)]
    · have : k * sz + sz ≤ i * sz + j := by
        calc k * sz + sz = (k + 1) * sz := by rw [Nat.succ_mul]
          _ ≤ i * sz := Nat.mul_le_mul_right _ hgt
          _ ≤ i * sz + j := Nat.le_add_right _ _
      rw [List.getElem?_append_right (by simp [hl]; omega), List.getElem?_drop]
      congr 1
      simp [hl]; omega
  · rfl
theorem chunk_eq {sz p : Nat} {cells nc : List Value} (hl : nc.length = sz) (hc : p + sz ≤ cells.length) : ((splice cells p nc).drop p).take sz = nc := by
  unfold splice
  rw [List.append_assoc, List.drop_append, List.length_take, Nat.min_eq_left (by omega), List.drop_of_length_le (by simp; omega), Nat.sub_self]
  simp [← hl]
theorem splice_sub {sz p off n : Nat} {cells vs : List Value} (hv : vs.length = n) (ho : off + n ≤ sz) (hc : p + sz ≤ cells.length) :
    splice cells (p + off) vs = splice cells p (((cells.drop p).take sz).take off ++ vs ++ ((cells.drop p).take sz).drop (off + n)) := by
  have h1 : cells.take (p + off) = cells.take p ++ ((cells.drop p).take sz).take off := by
    rw [List.take_add, List.take_take, Nat.min_eq_left (by omega)]
  have h2 : cells.drop (p + off + n) = ((cells.drop p).take sz).drop (off + n) ++ cells.drop (p + sz) := by
    have e0 : cells.drop (p + off + n) = (cells.drop p).drop (off + n) := by rw [List.drop_drop]; congr 1; omega
    rw [e0]
    have : cells.drop p = (cells.drop p).take sz ++ cells.drop (p + sz) := by
      rw [← List.drop_drop (i := sz) (j := p)]
      exact (List.take_append_drop sz (cells.drop p)).symm
    conv => lhs; rw [this]
    rw [List.drop_append_of_le_length (by simp; omega)]
  unfold splice
  have h3 : (((cells.drop p).take sz).take off ++ vs ++ ((cells.drop p).take sz).drop (off + n)).length = sz := by
    simp; omega
  rw [h3, hv, h1, h2]
  simp

theorem nd_set : ∀ {fps : List (List Nat)} {k : Nat} {f : List Nat}, fps.flatten.Nodup → f.Nodup → (∀ b ∈ f, ∀ (i : Nat) (g : List Nat), i ≠ k → fps[i]? = some g → b ∉ g) → (fps.set k f).flatten.Nodup
  | [], k, f, h, _, _ => by simp
  | p :: fps, 0, f, h, hf, hd => by
    simp only [List.flatten_cons, List.set_cons_zero] at *
    obtain ⟨h1, h2, h3⟩ := List.nodup_append.1 h
    refine List.nodup_append.2 ⟨hf, h2, fun a ha b hb e => ?_⟩
    subst e
    obtain ⟨g, hg, hag⟩ := List.mem_flatten.1 hb
    obtain ⟨i, hi⟩ := List.mem_iff_getElem?.1 hg
    exact hd a ha (i + 1) g (by omega) (by simpa using hi) hag
  | p :: fps, k + 1, f, h, hf, hd => by
    simp only [List.flatten_cons, List.set_cons_succ] at *
    obtain ⟨h1, h2, h3⟩ := List.nodup_append.1 h
    refine List.nodup_append.2 ⟨h1, nd_set h2 hf fun b hb i g hi hg => hd b hb (i + 1) g (by omega) (by simpa using hg), fun a ha b hb e => ?_⟩
    subst e
    obtain ⟨g, hg, hag⟩ := List.mem_flatten.1 hb
    rcases List.mem_or_eq_of_mem_set hg with hg | rfl
    · exact h3 a ha a (List.mem_flatten.2 ⟨g, hg, hag⟩) rfl
    · exact hd a hag 0 p (by omega) rfl ha

/-- an element's cells are others -/
theorem OwV.set {α α' : Type} [Inhabited α] [Inhabited α'] {sz : Nat} {enc : α → List Dat} {xs : List α} {enc' : α' → List Dat} {ys : List α'} {b o c T k : Nat} {cells nc : List Value} {fps : List (List Nat)} {f : List Nat} (hyl : ys.length = xs.length) (himp : ∀ i, i ≠ k → i < xs.length → Imps (enc (xs.getD i default)) (enc' (ys.getD i default))) (hle : xs.length ≤ c) (hm : xs.length ≤ 9223372036854775807)
    (hb : Box w b T cells) (hl : cells.length = o + c * sz) (hfl : fps.length = xs.length) (hel : ∀ (i : Nat) (x : α) (f : List Nat), i ≠ k → xs[i]? = some x → fps[i]? = some f → ((cells.drop (o + i * sz)).take sz).length = sz ∧ OwVs w (enc x) ((cells.drop (o + i * sz)).take sz) f)
    (hnd : (b :: fps.flatten).Nodup) (hk : k < xs.length) (hx : OwVs w (enc' (ys.getD k default)) nc f) (hnl : nc.length = sz) (hbf : b ∉ f) (hdis : ∀ b' ∈ f, ∀ (i : Nat) (g : List Nat), i ≠ k → fps[i]? = some g → b' ∉ g)
    (hc : Chg (· = b) w w') (hb' : Box w' b T (splice cells (o + k * sz) nc)) :
    OwV w' (.l sz enc' ys) (.slice (some ⟨b, o, none⟩) xs.length c) (b :: (fps.set k f).flatten) := by
  obtain ⟨hbn, hfn⟩ := List.nodup_cons.1 hnd
  have hcl : o + k * sz + sz ≤ cells.length := by
    rw [hl, Nat.add_assoc, ← Nat.succ_mul]
    exact Nat.add_le_add_left (Nat.mul_le_mul_right _ (by omega)) _
  refine ⟨_, c, by rw [hyl], by omega, by omega, .inr ⟨b, o, T, _, fps.set k f, rfl, hb', ?_, by simp; omega, fun i y g hy hg => ?_, rfl, ?_⟩⟩
  · unfold splice
    simp only [List.length_append, List.length_take, List.length_drop, hnl]
    omega
  · have hin : i < ys.length := (List.getElem?_eq_some_iff.1 hy).1
    have hy' : y = ys.getD i default := by rw [List.getD_eq_getElem?_getD, hy]; rfl
    subst hy'
    by_cases hik : i = k
    · subst hik
      rw [List.getElem?_set_self (by omega)] at hg
      cases hg
      rw [chunk_eq hnl hcl]
      exact ⟨hnl, OwVs.keep _ _ _ (fun b' hb'' => hc.block b' (OwVs.lt _ _ _ hx b' hb'') fun e => hbf (e ▸ hb'')) hx⟩
    · rw [List.getElem?_set_ne (Ne.symm hik)] at hg
      rw [chunk_ne hnl hcl hik]
      obtain ⟨k1, k2⟩ := hel i (xs.getD i default) g hik (by rw [List.getD_eq_getElem?_getD, List.getElem?_eq_getElem (by omega)]; rfl) hg
      exact ⟨k1, (himp i hik (by omega)).ow (OwVs.keep _ _ _ (fun b' hb'' => hc.block b' (OwVs.lt _ _ _ k2 b' hb'') fun e => hbn (e ▸ List.mem_flatten.2 ⟨g, List.mem_of_getElem? hg, hb''⟩)) k2)⟩
  · refine List.nodup_cons.2 ⟨fun hmm => ?_, nd_set hfn hx.nd hdis⟩
    obtain ⟨g, hg, hag⟩ := List.mem_flatten.1 hmm
    rcases List.mem_or_eq_of_mem_set hg with hg | rfl
    · exact hbn (List.mem_flatten.2 ⟨g, hg, hag⟩)
    · exact hbf hag

/-- an item in another state, into which others go -/
theorem Snd.modC (R : Rel P fsA β φ dom ψ IN w0 w) (hb : ∀ id, base ≤ id → id < base + stride → ¬ dom id) {X : Nat} {g : Fact} (hX : fsA X = some g) (hm : g.mod = true) (f : Fact) (fpn ids : List Nat) (hXi : X ∉ ids) (hids : ∀ id ∈ ids, ∃ g, fsA id = some g ∧ g.mod = true) (hc : Chg (· ∈ φ X) w w')
    (hF : FactOK P (fupds fsA ((X, some f) :: ids.map fun i => (i, none))) β (up φ X fpn) (fun i => dom i ∨ i = base) ψ w' X f) (hV : ∀ V d, f = .own V d → ¬ dom V) (hfp : f.mod = true → ∀ b ∈ fpn, b < w'.heap.size ∧ (w.heap.size ≤ b ∨ b ∈ φ X ∨ ∃ id ∈ ids, b ∈ φ id))
    {vcs : List Prop} {run : Result Next} (hrun : run = .ok .skip w') : Snd P fsA base ⟨vcs, .v undef, (X, some f) :: ids.map fun i => (i, none)⟩ β φ dom ψ IN w0 run := by
  have hnb : ¬ dom base := hb base (Nat.le_refl _) (by unfold stride; omega)
  have hdX := (R.ok X g hX).1
  have hlk : ∀ j, fupds fsA ((X, some f) :: ids.map fun i => (i, none)) j = if j ∈ ids then none else if j = X then some f else fsA j := by
    intro j
    rw [fupds, fupds_dels, fupd_eq]
  rw [hrun]
  refine ⟨β, up φ X fpn, fun i => dom i ∨ i = base, rfl, trivial, fun id h => ⟨.inl h, rfl⟩, fun id h => ?_, ?_⟩
  · rcases h with h | rfl
    · exact .inl h
    · exact .inr ⟨Nat.le_refl _, by unfold stride; omega⟩
  · refine R.step (NN := fun i => i = X ∨ i ∈ ids) (C := (· ∈ φ X)) hc (fun id h => ⟨.inl h, rfl⟩) R.all1 (fun id g hg => ?_) (fun id hn => up_ne _ _ _ fun e => hn (.inl e)) (fun b _ h => ⟨X, g, .inl rfl, hX, hm, h⟩) (fun id g hn hg => ?_) (fun id V d hn hg => ?_) (fun id g' hn hg hm' b hbb => ?_) (fun i j g g' hi hj hg hg' _ _ hne => ?_)
    · rw [hlk] at hg
      by_cases h1 : id ∈ ids
      · exact .inl (.inr h1)
      · rw [if_neg h1] at hg
        by_cases h2 : id = X
        · exact .inl (.inl h2)
        · rw [if_neg h2] at hg; exact .inr hg
    · rw [hlk] at hg
      rcases hn with rfl | hn
      · rw [if_neg hXi, if_pos rfl] at hg
        cases hg
        exact ⟨.inl hdX, hF⟩
      · rw [if_pos hn] at hg; cases hg
    · rw [hlk] at hg
      rcases hn with rfl | hn
      · rw [if_neg hXi, if_pos rfl] at hg
        exact hV V d (Option.some.inj hg)
      · rw [if_pos hn] at hg; cases hg
    · rw [hlk] at hg
      rcases hn with rfl | hn
      · rw [if_neg hXi, if_pos rfl] at hg
        cases hg
        rw [up_self] at hbb
        obtain ⟨h1, h2⟩ := hfp hm' b hbb
        refine ⟨h1, h2.imp (fun h => h) fun h => ?_⟩
        rcases h with h | ⟨i, h3, h4⟩
        · exact ⟨id, g, .inl rfl, hX, hm, h⟩
        · obtain ⟨g', hg', hm'⟩ := hids i h3
          exact ⟨i, g', .inr h3, hg', hm', h4⟩
      · rw [if_pos hn] at hg; cases hg
    · rw [hlk] at hg hg'
      rcases hi with rfl | hi
      · rcases hj with rfl | hj
        · exact absurd rfl hne
        · rw [if_pos hj] at hg'; cases hg'
      · rw [if_pos hi] at hg; cases hg

theorem eStore_ok (R : Rel P fsA β φ dom ψ IN w0 w) (hb : ∀ id, base ≤ id → id < base + stride → ¬ dom id) (hsub : ∀ id f, fs id = some f → fsA id = some f) {T : TypeId} {a v : AV} {hint : Option Dat} {r : OpR} (h : eStore P fs base T a v hint = some r) (hv : AllP r.vcs)
    (hw : v.wf dom) : Snd P fsA base r β φ dom ψ IN w0 ((do Instr.storeAt T (val β a) (val β v); pure Next.skip : Sem Next).run P w) := by
  have hnb : ¬ dom base := hb base (Nat.le_refl _) (by unfold stride; omega)
  unfold eStore at h
  split at h
  · rename_i id off n hn
    cases hbq : Nat.beq v.cells.length n with
    | false => rw [hbq] at h; cases h
    | true =>
      rw [hbq] at h
      simp only [cond_true] at h
      have hvl := Nat.eq_of_beq_eq_true hbq
      have hcv := AV.cells_val (β := β) R.one hw
      have hcw := AV.cells_wf hw
      split at h
      · -- a variable
        rename_i T0 cs hf
        cases hcc : (v.cells.all AV.one && Nat.ble (off + n) cs.length) with
        | false => rw [hcc] at h; cases h
        | true =>
          rw [hcc] at h
          cases h
          simp only [Bool.and_eq_true] at hcc
          have hle := Nat.le_of_ble_eq_true hcc.2
          obtain ⟨hdid, ⟨g0, g0'⟩, b, g1, g2, g3⟩ := R.ok id _ (hsub _ _ hf)
          have hp : val β (.p id off) = .pointer (some ⟨b, off, none⟩) := by simp [val, g1, padd]
          have hrun := run_storeV (P := P) (T := T) (o := off) (v := val β v) g2 (by rw [vals_len, hvl]; exact hn) hcv (by rw [vals_len, vals_len, hvl]; exact hle) (vals_one R.one hcc.1 hcw)
          obtain ⟨hch, hbx⟩ := store_chg (o := off) (vs := vals β v.cells) g2
          have hspl : vals β (cs.take off ++ v.cells ++ cs.drop (off + n)) = splice (vals β cs) off (vals β v.cells) := by
            simp only [vals_app, vals_take, vals_drop, splice, vals_len, hvl]
          refine Snd.mod1 R hb (hsub _ _ hf) rfl (.box T0 (cs.take off ++ v.cells ++ cs.drop (off + n))) [b] (hch.mono fun k _ hk => by rw [g3]; exact hk ▸ List.mem_cons_self) ⟨⟨AVs.wf_mono (fun i h => .inl h) _ (AVs.wf_app (AVs.wf_app (AVs.wf_take _ g0) hcw) (AVs.wf_drop _ g0)), ?_⟩, b, g1, ?_, up_self _ _ _⟩ (fun V d e => by cases e) (fun _ b' hb' => ?_) (by rw [hp]; exact hrun)
          · simp only [List.all_append, Bool.and_eq_true]
            refine ⟨⟨?_, hcc.1⟩, ?_⟩
            · exact List.all_eq_true.2 fun a ha => List.all_eq_true.1 g0' a (List.mem_of_mem_take ha)
            · exact List.all_eq_true.2 fun a ha => List.all_eq_true.1 g0' a (List.mem_of_mem_drop ha)
          · rw [hspl]; exact hbx
          · simp only [List.mem_singleton] at hb'
            subst hb'
            exact ⟨hbx.lt, .inr (by rw [g3]; exact List.mem_cons_self)⟩
      · -- an element
        rename_i X V Y k ds hf
        split at h
        · rename_i V' d d' vds ids hX hds
          cases hcc : (Nat.beq V V' && Nat.ble (off + n) ds.length && !(ids.any (Nat.beq X)) && Nat.beq Y X) with
          | false => rw [hcc] at h; cases h
          | true =>
            rw [hcc] at h
            cases h
            simp only [Bool.and_eq_true] at hcc
            obtain ⟨⟨⟨c1, c2⟩, c3⟩, c4⟩ := hcc
            have c4 := (Nat.eq_of_beq_eq_true c4).symm
            subst c4
            have c1 := Nat.eq_of_beq_eq_true c1
            subst c1
            have c2 := Nat.le_of_ble_eq_true c2
            have hXi : X ∉ ids := fun hm => by
              have : ids.any (Nat.beq X) = true := List.any_eq_true.2 ⟨X, hm, by simp⟩
              rw [this] at c3; cases c3
            obtain ⟨⟨α, inst, sz, enc, xs, α', inst', enc', ys, rfl, rfl, hyl, hold, hex, himps⟩, _⟩ := hv
            obtain ⟨hdid, hdX, hdV, hmem⟩ := R.ok id _ (hsub _ _ hf)
            obtain ⟨⟨b, o, m1, m2, m3, m4⟩, m5⟩ := hmem ⟨_, hsub _ _ hX⟩
            obtain ⟨_, b2, o2, nn, c, e1, e2, e3⟩ := m5 _ _ k rfl
            rw [m1] at e2
            simp only [Value.pointer.injEq, Option.some.injEq, Addr.mk.injEq, and_true] at e2
            obtain ⟨rfl, rfl⟩ := e2
            obtain ⟨_, _, how⟩ := R.ok X _ (hsub _ _ hX)
            have how' := how
            obtain ⟨a', c', f1, f2, f3, f4⟩ := how'
            rw [e1] at f1
            simp only [Value.slice.injEq] at f1
            obtain ⟨rfl, rfl, rfl⟩ := f1
            rcases f4 with ⟨_, hxs, _⟩ | ⟨bb, oo, T0, cells, fps, q1, q2, q3, q4, q5, q6, q7⟩
            · rw [hxs] at e3; simp at e3
            simp only [Option.some.injEq, Addr.mk.injEq, and_true] at q1
            obtain ⟨rfl, rfl⟩ := q1
            obtain ⟨fv, k1, k2, k3, k4, k5, k6⟩ := ownDats_ok R hsub hds
            have hvlen : (vals β v.cells).length = n := by rw [vals_len]; exact hvl
            have hvlen2 : vds.length = n := by rw [← k1.len]; exact hvlen
            have hxk : xs[k]? = some (xs.getD k default) := by rw [List.getD_eq_getElem?_getD, List.getElem?_eq_getElem e3]; rfl
            have hfk : fps[k]? = some (fps[k]'(by omega)) := List.getElem?_eq_getElem _
            obtain ⟨p1, p2⟩ := q5 k _ _ hxk hfk
            rw [hold] at p2
            have hdsl : ds.length = sz := by rw [← p2.len]; exact p1
            rw [hdsl] at m1 m3
            have hcl : o2 + k * sz + sz ≤ cells.length := by
              rw [q3, Nat.add_assoc, ← Nat.succ_mul]
              exact Nat.add_le_add_left (Nat.mul_le_mul_right _ (by omega)) _
            generalize hC : (cells.drop (o2 + k * sz)).take sz = C at p1 p2
            generalize hF : fps[k]'(by omega) = F at hfk p2
            -- the element's cells, apart
            have hsp1 : ds = ds.take off ++ ds.drop off := (List.take_append_drop off ds).symm
            rw [hsp1] at p2
            obtain ⟨us, ws, F1, F2, rfl, rfl, r1, r2, rnd⟩ := OwVs.unapp _ p2
            have hsp2 : ds.drop off = (ds.drop off).take n ++ ds.drop (off + n) := by
              rw [← List.drop_drop (i := n) (j := off)]
              exact (List.take_append_drop n _).symm
            rw [hsp2] at r2
            obtain ⟨ms, ws, F3, F4, rfl, rfl, r3, r4, rnd2⟩ := OwVs.unapp _ r2
            have hul : us.length = off := by rw [r1.len]; simp; omega
            have hml : ms.length = n := by rw [r3.len]; simp; omega
            have hXb : ∀ b' ∈ φ X, b' ∉ fv := fun b' hb' hbf => by
              obtain ⟨i, hi, hbi⟩ := k2 b' hbf
              obtain ⟨V', d', hi'⟩ := k5 i hi
              exact R.dis X i _ _ (hsub _ _ hX) hi' rfl rfl (fun e => hXi (e ▸ hi)) b' hb' hbi
            have hFX : ∀ b' ∈ F1 ++ (F3 ++ F4), b' ∈ φ X := fun b' hb' => by
              rw [q6]
              exact List.mem_cons_of_mem _ (List.mem_flatten.2 ⟨_, List.mem_of_getElem? hfk, hb'⟩)
            have hnew : OwVs w (enc' (ys.getD k default)) (us ++ (vals β v.cells) ++ ws) (F1 ++ fv ++ F4) := by
              refine (hex e3).ow ?_
              refine (r1.app k1 fun b' hb' => hXb b' (hFX b' (List.mem_append_left _ hb'))).app r4 fun b' hb' hb4 => ?_
              rcases List.mem_append.1 hb' with hb' | hb'
              · exact (List.nodup_append.1 rnd).2.2 b' hb' b' (List.mem_append_right _ hb4) rfl
              · exact hXb b' (hFX b' (List.mem_append_right _ (List.mem_append_right _ hb4))) hb'
            have hncl : (us ++ (vals β v.cells) ++ ws).length = sz := by
              simp only [List.length_append] at p1 ⊢
              omega
            have hone' := OwVs.one hnew
            have hvone : ((vals β v.cells).all fun v => v.oneCell') = true := k1.one
            have hspl : splice cells (o2 + k * sz + off) (vals β v.cells) = splice cells (o2 + k * sz) (us ++ (vals β v.cells) ++ ws) := by
              rw [splice_sub (sz := sz) (n := n) hvlen (by omega) hcl, hC]
              congr 2
              · rw [List.take_append_of_le_length (by omega), List.take_of_length_le (by omega)]
              · rw [List.drop_append, List.drop_of_length_le (by omega), hul, Nat.add_sub_cancel_left, List.drop_append, List.drop_of_length_le (by omega), hml, Nat.sub_self]
                simp
            have hp : val β (.p id off) = .pointer (some ⟨b, o2 + k * sz + off, none⟩) := by simp [val, m1, padd]
            have hrun := run_storeV (P := P) (T := T) (o := o2 + k * sz + off) (v := val β v) q2 (by rw [hvlen]; exact hn) hcv (by rw [hvlen]; omega) hvone
            obtain ⟨hch, hbx⟩ := store_chg (o := o2 + k * sz + off) (vs := vals β v.cells) q2
            rw [hspl] at hrun hch hbx
            have hbX : b ∈ φ X := by rw [q6]; exact List.mem_cons_self
            rw [q6] at q7
            obtain ⟨hbn, hfn⟩ := List.nodup_cons.1 q7
            have hset := OwV.set (enc := enc) (enc' := enc') (ys := ys) (f := F1 ++ fv ++ F4) hyl himps f2 f3 q2 q3 q4 (fun i x f _ => q5 i x f) q7 e3 hnew hncl ?_ ?_ hch hbx
            · refine Snd.modC R hb (hsub _ _ hX) rfl (.own base (.l sz enc' ys)) (b :: (fps.set k (F1 ++ fv ++ F4)).flatten) ids hXi (fun i hi => ?_) (hch.mono fun k _ hk => hk ▸ hbX) ⟨.inr rfl, ?_⟩ (fun V d e => by cases e; exact hnb) (fun _ b' hb' => ?_) (by rw [hp]; exact hrun)
              · obtain ⟨V', d', hi'⟩ := k5 i hi
                exact ⟨_, hi', rfl⟩
              · rw [up_self, e1]; exact hset
              · refine ⟨OwV.lt _ _ _ hset b' hb', .inr ?_⟩
                rcases List.mem_cons.1 hb' with rfl | hb'
                · exact .inl hbX
                · obtain ⟨g, hg, hag⟩ := List.mem_flatten.1 hb'
                  rcases List.mem_or_eq_of_mem_set hg with hg | rfl
                  · exact .inl (by rw [q6]; exact List.mem_cons_of_mem _ (List.mem_flatten.2 ⟨g, hg, hag⟩))
                  · rcases List.mem_append.1 hag with hag | hag
                    · rcases List.mem_append.1 hag with hag | hag
                      · exact .inl (hFX _ (List.mem_append_left _ hag))
                      · exact .inr (k2 _ hag)
                    · exact .inl (hFX _ (List.mem_append_right _ (List.mem_append_right _ hag)))
            · intro hbf
              rcases List.mem_append.1 hbf with hag | hag
              · rcases List.mem_append.1 hag with hag | hag
                · exact hbn (List.mem_flatten.2 ⟨_, List.mem_of_getElem? hfk, List.mem_append_left _ hag⟩)
                · exact hXb b hbX hag
              · exact hbn (List.mem_flatten.2 ⟨_, List.mem_of_getElem? hfk, List.mem_append_right _ (List.mem_append_right _ hag)⟩)
            · intro b' hb' i g hik hg hbg
              have hbgX : b' ∈ φ X := by rw [q6]; exact List.mem_cons_of_mem _ (List.mem_flatten.2 ⟨g, List.mem_of_getElem? hg, hbg⟩)
              have hFg : b' ∉ F1 ++ (F3 ++ F4) := by
                intro hbF
                have hp2 := (List.pairwise_flatten.1 hfn).2
                rcases Nat.lt_or_gt_of_ne hik with hlt | hgt
                · exact (List.pairwise_iff_getElem.1 hp2) i k (List.getElem?_eq_some_iff.1 hg).1 (by omega) hlt b' (by rw [(List.getElem?_eq_some_iff.1 hg).2]; exact hbg) b' (by rw [hF]; exact hbF) rfl
                · exact (List.pairwise_iff_getElem.1 hp2) k i (by omega) (List.getElem?_eq_some_iff.1 hg).1 hgt b' (by rw [hF]; exact hbF) b' (by rw [(List.getElem?_eq_some_iff.1 hg).2]; exact hbg) rfl
              rcases List.mem_append.1 hb' with hag | hag
              · rcases List.mem_append.1 hag with hag | hag
                · exact hFg (List.mem_append_left _ hag)
                · exact hXb b' hbgX hag
              · exact hFg (List.mem_append_right _ (List.mem_append_right _ hag))
        · cases h
      · cases h
  · cases h

def Dat.len : Dat → Nat
  | .v _ => 0
  | @Dat.l _ _ _ _ xs => xs.length
  | .any => 0
  | .x XX => 0
  | .b DD => 0

/-! ### clear -/

/-- the elements from lo on, m of them, are zero -/
def ClearOK (dX : Dat) (lo m sz : Nat) (zs : List Value) (d' : Dat) : Prop :=
  ∃ (α : Type) (_ : Inhabited α) (enc : α → List Dat) (xs : List α) (z : α), dX = .l sz enc xs ∧ d' = .l sz enc (xs.take lo ++ List.replicate m z ++ xs.drop (lo + m)) ∧ enc z = zs.map .v ∧ ∀ y, ∀ e ∈ enc y, ∃ v, e = .v v
theorem ClearOK.mk {α : Type} [Inhabited α] {lo m sz : Nat} {zs : List Value} (enc : α → List Dat) (xs : List α) (z : α) (h : enc z = zs.map .v) (hp : ∀ y, ∀ e ∈ enc y, ∃ v, e = .v v) : ClearOK (.l sz enc xs) lo m sz zs (.l sz enc (xs.take lo ++ List.replicate m z ++ xs.drop (lo + m))) :=
  ⟨α, inferInstance, enc, xs, z, rfl, rfl, h, hp⟩

def eClear (P : Program) (fs : Nat → Option Fact) (base : Nat) (T : TypeId) (x : AV) (hint : Option Dat) : Option OpR :=
  match x, (tElem P T).bind P.info? with
  | .h id 0, some inf => (match inf.zero, fs id, hint with
    | some z, some (.part X V lo sz (@Dat.l _ _ sz2 _ ys)), some d' => (match fs X with
      | some (.own V' dX) => bif Nat.beq V V' && Nat.beq sz inf.size && Nat.beq z.cells.size inf.size && z.cells.toList.all (fun v => v.oneCell') && Nat.ble 1 inf.size then
          some ⟨[ClearOK dX lo ys.length sz z.cells.toList d'], .tu [], [(X, some (.own base d'))]⟩ else none
      | _ => none)
    | _, _, _ => none)
  | _, _ => none

theorem OwVs.plain : ∀ {ds : List Dat} {vs : List Value} {f : List Nat}, (∀ e ∈ ds, ∃ v, e = Dat.v v) → OwVs w ds vs f → f = []
  | [], _, _, _, h => h.2
  | d :: ds, vs, f, hp, h => by
    obtain ⟨u, us, f1, g, rfl, h1, h2, rfl, _⟩ := h
    obtain ⟨v, rfl⟩ := hp d List.mem_cons_self
    rw [h1.2.2, OwVs.plain (fun e he => hp e (List.mem_cons_of_mem _ he)) h2]; rfl

/-- cells of an element, read off the row -/
theorem chunk_get {cells : List Value} {p sz j : Nat} (hj : j < sz) : ((cells.drop p).take sz)[j]? = cells[p + j]? := by
  rw [List.getElem?_take, if_pos hj, List.getElem?_drop]
theorem splice_get {cells vs : List Value} {p q : Nat} (hp : p + vs.length ≤ cells.length) : (splice cells p vs)[q]? = if q < p then cells[q]? else if q < p + vs.length then vs[q - p]? else cells[q]? := by
  unfold splice
  by_cases h1 : q < p
  · rw [if_pos h1, List.append_assoc, List.getElem?_append_left (by simp; omega), List.getElem?_take, if_pos h1]
  · rw [if_neg h1, List.append_assoc, List.getElem?_append_right (by simp; omega)]
    have e : (List.take p cells).length = p := by simp; omega
    rw [e]
    by_cases h2 : q < p + vs.length
    · rw [if_pos h2, List.getElem?_append_left (by omega)]
    · rw [if_neg h2, List.getElem?_append_right (by omega), List.getElem?_drop]
      congr 1; omega
theorem zeroCells_get {z : Array Value} {n q : Nat} (hq : q < n * z.size) (hz : 0 < z.size) : (Builtin.zeroCells z n).toList[q]? = z.toList[q % z.size]? := by
  have hlt : q % z.size < z.size := Nat.mod_lt _ hz
  unfold Builtin.zeroCells
  rw [Array.getElem?_toList, Array.getElem?_map, Array.getElem?_range, if_pos hq]
  simp [hlt]
theorem zeroCells_len {z : Array Value} {n : Nat} : (Builtin.zeroCells z n).toList.length = n * z.size := by
  simp [Builtin.zeroCells]

theorem clear_run {T U ty : TypeId} {inf : TypeInfo} {z : Value} (hT : P.underlying T = some (.slice U)) (hi : P.info? U = some inf) (hz : inf.zero = some z) {a : Addr} {n c : Nat} (hn : n ≠ 0) {w1 : World} (hs : (storeCells a (Builtin.zeroCells z.cells n).toList).run P w = .ok () w1) :
    (do pure (Next.value (← Builtin.clear_ #[T] ty #[.slice (some a) n c])) : Sem Next).run P w = .ok (.value (.tuple #[])) w1 := by
  cases n with
  | zero => exact absurd rfl hn
  | succ n => simp [Builtin.clear_, run_underlying hT, zeroValue, typeInfo, hi, hz, hs]

theorem eClear_ok (R : Rel P fsA β φ dom ψ IN w0 w) (hb : ∀ id, base ≤ id → id < base + stride → ¬ dom id) (hsub : ∀ id f, fs id = some f → fsA id = some f) {T ty : TypeId} {x : AV} {hint : Option Dat} {r : OpR} (h : eClear P fs base T x hint = some r) (hv : AllP r.vcs) :
    Snd P fsA base r β φ dom ψ IN w0 ((do pure (Next.value (← Builtin.clear_ #[T] ty #[val β x])) : Sem Next).run P w) := by
  have hnb : ¬ dom base := hb base (Nat.le_refl _) (by unfold stride; omega)
  unfold eClear at h
  split at h
  case h_2 => cases h
  rename_i id inf hinf
  split at h
  case h_2 => cases h
  rename_i zv X V lo sz α0 inst0 sz2 enc0 ys d' hzero hid
  split at h
  case h_2 => cases h
  rename_i V' dX hX
  cases hcc : (Nat.beq V V' && Nat.beq sz inf.size && Nat.beq zv.cells.size inf.size && zv.cells.toList.all (fun v => v.oneCell') && Nat.ble 1 inf.size) with
  | false => rw [hcc] at h; cases h
  | true =>
    rw [hcc] at h
    cases h
    simp only [Bool.and_eq_true] at hcc
    obtain ⟨⟨⟨⟨c1, c2⟩, c3⟩, c4⟩, c5⟩ := hcc
    have c1 := Nat.eq_of_beq_eq_true c1
    subst c1
    have c2 := Nat.eq_of_beq_eq_true c2
    have c3 := Nat.eq_of_beq_eq_true c3
    have c5 := Nat.le_of_ble_eq_true c5
    obtain ⟨⟨α, inst, enc, xs, z, rfl, rfl, hz, hpl⟩, _⟩ := hv
    obtain ⟨U, hU, hinf⟩ := Option.bind_eq_some_iff.1 hinf
    obtain ⟨hdX, hdV, hpart⟩ := (R.ok id _ (hsub _ _ hid)).2
    obtain ⟨hrd, a, n, c, m, f1, f2, f3, f4⟩ := hpart ⟨_, hsub _ _ hX⟩
    obtain ⟨a1, cc1, g1, g2, g3, g4⟩ := hrd
    rw [f4] at g1
    simp only [Value.slice.injEq] at g1
    obtain ⟨g1, rfl, g5⟩ := g1
    obtain ⟨_, _, how⟩ := R.ok X _ (hsub _ _ hX)
    have how' := how
    obtain ⟨a2, cc2, o1, o2, o3, o4⟩ := how'
    rw [f1] at o1
    simp only [Value.slice.injEq] at o1
    obtain ⟨rfl, rfl, rfl⟩ := o1
    -- from the skip to the value
    have hsnd : ∀ w', Snd P fsA base ⟨[ClearOK (.l sz enc xs) lo ys.length sz zv.cells.toList (.l sz enc (xs.take lo ++ List.replicate ys.length z ++ xs.drop (lo + ys.length)))], .v undef, [(X, some (.own base (.l sz enc (xs.take lo ++ List.replicate ys.length z ++ xs.drop (lo + ys.length)))))]⟩ β φ dom ψ IN w0 (.ok .skip w') →
        (do pure (Next.value (← Builtin.clear_ #[T] ty #[val β (.h id 0)])) : Sem Next).run P w = .ok (.value (.tuple #[])) w' →
        Snd P fsA base ⟨[ClearOK (.l sz enc xs) lo ys.length sz zv.cells.toList (.l sz enc (xs.take lo ++ List.replicate ys.length z ++ xs.drop (lo + ys.length)))], .tu [], [(X, some (.own base (.l sz enc (xs.take lo ++ List.replicate ys.length z ++ xs.drop (lo + ys.length)))))]⟩ β φ dom ψ IN w0 ((do pure (Next.value (← Builtin.clear_ #[T] ty #[val β (.h id 0)])) : Sem Next).run P w) := by
      intro w' hs he
      rw [he]
      obtain ⟨β', φ', dom', _, _, h3, h4, h5⟩ := hs
      exact ⟨β', φ', dom', rfl, trivial, h3, h4, h5⟩
    have hval : val β (.h id 0) = .slice (if c = lo then a else a.map (·.add (lo * sz))) ys.length (c - lo) := f4
    have hlen : (xs.take lo ++ List.replicate ys.length z ++ xs.drop (lo + ys.length)).length = xs.length := by
      simp; omega
    by_cases hm : ys.length = 0
    · refine hsnd w ?_ ?_
      · refine Snd.mod1 R hb (hsub _ _ hX) rfl (.own base (.l sz enc (xs.take lo ++ List.replicate ys.length z ++ xs.drop (lo + ys.length)))) (φ X) (Chg.of_below (Bel.refl _ _)) ⟨.inr rfl, ?_⟩ (fun V d e => by cases e; exact hnb) (fun _ b' hb' => ⟨(R.lt X _ (hsub _ _ hX) rfl b' hb').1, .inr hb'⟩) rfl
        rw [up_self]
        have : xs.take lo ++ List.replicate ys.length z ++ xs.drop (lo + ys.length) = xs := by simp [hm]
        rw [this]; exact how
      · rw [hval, hm]
        by_cases hcl : c = lo
        · rw [if_pos hcl]; cases a <;> simp [Builtin.clear_, run_underlying (tElem_ok hU)]
        · rw [if_neg hcl]; cases a <;> simp [Builtin.clear_, run_underlying (tElem_ok hU)]
    · rcases o4 with ⟨_, hxs, _⟩ | ⟨b, o, T0, cells, fps, rfl, q2, q3, q4, q5, q6, q7⟩
      · subst hxs; simp at f2; omega
      have hcl : ¬ c = lo := by omega
      have hzl : zv.cells.toList.length = sz := by rw [c2, ← c3]; simp
      have hzs : zv.cells.size = sz := by rw [c3, c2]
      have hsz : 0 < sz := by omega
      have hbig : o + lo * sz + ys.length * sz ≤ cells.length := by
        rw [q3, Nat.add_assoc, ← Nat.add_mul]
        exact Nat.add_le_add_left (Nat.mul_le_mul_right _ (by omega)) _
      have hzc : (Builtin.zeroCells zv.cells ys.length).toList.length = ys.length * sz := by rw [zeroCells_len, hzs]
      have hzone : ((Builtin.zeroCells zv.cells ys.length).toList.all fun v => v.oneCell') = true := by
        refine List.all_eq_true.2 fun v hv => ?_
        obtain ⟨q, hq⟩ := List.mem_iff_getElem?.1 hv
        have hlt : q < ys.length * zv.cells.size := by
          have := (List.getElem?_eq_some_iff.1 hq).1
          rw [zeroCells_len] at this; exact this
        rw [zeroCells_get hlt (by omega)] at hq
        exact List.all_eq_true.1 c4 v (List.mem_of_getElem? hq)
      have hrun := run_storeCells (P := P) (b := b) (o := o + lo * sz) (Builtin.zeroCells zv.cells ys.length).toList 0 w cells q2 (by rw [hzc]; omega) hzone
      simp only [Nat.add_zero] at hrun
      obtain ⟨hch, hbx⟩ := store_chg (o := o + lo * sz) (vs := (Builtin.zeroCells zv.cells ys.length).toList) q2
      rw [q6] at q7
      obtain ⟨hbn, hfn⟩ := List.nodup_cons.1 q7
      have hfe : ∀ (i : Nat) (f : List Nat), fps[i]? = some f → f = [] := fun i f hf => by
        have hi : i < xs.length := by have := (List.getElem?_eq_some_iff.1 hf).1; omega
        exact OwVs.plain (hpl _) (q5 i _ f (List.getElem?_eq_getElem hi) hf).2
      have hbX : b ∈ φ X := by rw [q6]; exact List.mem_cons_self
      refine hsnd _ ?_ (by
        rw [hval, if_neg hcl]
        have e : ((some (⟨b, o, none⟩ : Addr)).map (·.add (lo * sz))) = some ⟨b, o + lo * sz, none⟩ := by simp [Addr.add_lit]
        rw [e]
        exact clear_run (tElem_ok hU) hinf hzero hm hrun)
      refine Snd.mod1 R hb (hsub _ _ hX) rfl (.own base (.l sz enc (xs.take lo ++ List.replicate ys.length z ++ xs.drop (lo + ys.length)))) (b :: fps.flatten) (hch.mono fun k _ hk => hk ▸ hbX) ⟨.inr rfl, ?_⟩ (fun V d e => by cases e; exact hnb) (fun _ b' hb' => ⟨?_, .inr (by rw [q6]; exact hb')⟩) rfl
      · rw [up_self, f1]
        refine ⟨_, c, by rw [hlen], by omega, by omega, .inr ⟨b, o, T0, _, fps, rfl, hbx, ?_, by omega, fun i y f hy hf => ?_, rfl, q7⟩⟩
        · rw [← q3]
          unfold splice
          simp only [List.length_append, List.length_take, List.length_drop, hzc]
          omega
        · have hi : i < xs.length := by have := (List.getElem?_eq_some_iff.1 hy).1; omega
          have hf0 := hfe i f hf
          subst hf0
          have hsp := fun q => splice_get (cells := cells) (vs := (Builtin.zeroCells zv.cells ys.length).toList) (p := o + lo * sz) (q := q) (by rw [hzc]; exact hbig)
          rw [hzc] at hsp
          have hib : o + i * sz + sz ≤ cells.length := by
            rw [q3, Nat.add_assoc, ← Nat.succ_mul]
            exact Nat.add_le_add_left (Nat.mul_le_mul_right _ (by omega)) _
          by_cases hin : lo ≤ i ∧ i < lo + ys.length
          · have hy' : y = z := by
              rw [List.append_assoc, List.getElem?_append_right (by simp; omega), List.getElem?_append_left (by simp; omega), List.getElem?_replicate] at hy
              split at hy
              · exact (Option.some.inj hy).symm
              · cases hy
            subst hy'
            have hchunk : ((splice cells (o + lo * sz) (Builtin.zeroCells zv.cells ys.length).toList).drop (o + i * sz)).take sz = zv.cells.toList := by
              refine List.ext_getElem? fun j => ?_
              by_cases hj : j < sz
              · rw [chunk_get hj, hsp]
                have e1 : lo * sz ≤ i * sz := Nat.mul_le_mul_right _ hin.1
                have e2 : (i + 1) * sz ≤ (lo + ys.length) * sz := Nat.mul_le_mul_right _ (by omega)
                rw [Nat.succ_mul, Nat.add_mul] at e2
                rw [if_neg (by omega), if_pos (by omega)]
                have e3 : o + i * sz + j - (o + lo * sz) = (i - lo) * sz + j := by rw [Nat.sub_mul]; omega
                rw [e3, zeroCells_get (by
                  rw [hzs]
                  have : (i - lo + 1) * sz ≤ ys.length * sz := Nat.mul_le_mul_right _ (by omega)
                  rw [Nat.succ_mul] at this; omega) (by omega), hzs, Nat.add_comm, Nat.add_mul_mod_self_right, Nat.mod_eq_of_lt hj]
              · rw [List.getElem?_eq_none (by simp; omega), List.getElem?_eq_none (by omega)]
            rw [hchunk, hz]
            refine ⟨hzl, ?_⟩
            have := OwVs.flat (w := if (Builtin.zeroCells zv.cells ys.length).toList = [] then w else setBlk w b (.cells (splice cells (o + lo * sz) (Builtin.zeroCells zv.cells ys.length).toList).toArray T0 (0, 0))) (vs := zv.cells.toList) c4
            exact this
          · have hy' : xs[i]? = some y := by
              rw [← hy]
              by_cases h1 : i < lo
              · rw [List.append_assoc, List.getElem?_append_left (by simp; omega), List.getElem?_take, if_pos h1]
              · rw [List.getElem?_append_right (by simp; omega), List.getElem?_drop]
                congr 1
                simp; omega
            have hchunk : ((splice cells (o + lo * sz) (Builtin.zeroCells zv.cells ys.length).toList).drop (o + i * sz)).take sz = (cells.drop (o + i * sz)).take sz := by
              refine List.ext_getElem? fun j => ?_
              by_cases hj : j < sz
              · rw [chunk_get hj, chunk_get hj, hsp]
                by_cases h1 : i < lo
                · have e1 : (i + 1) * sz ≤ lo * sz := Nat.mul_le_mul_right _ (by omega)
                  rw [Nat.succ_mul] at e1
                  rw [if_pos (by omega)]
                · have e1 : (lo + ys.length) * sz ≤ i * sz := Nat.mul_le_mul_right _ (by omega)
                  rw [Nat.add_mul] at e1
                  rw [if_neg (by omega), if_neg (by omega)]
              · rw [List.getElem?_take, if_neg hj, List.getElem?_take, if_neg hj]
            rw [hchunk]
            obtain ⟨k1, k2⟩ := q5 i y [] hy' hf
            exact ⟨k1, OwVs.keep _ _ _ (fun b' hb' => by cases hb') k2⟩
      · rcases List.mem_cons.1 hb' with rfl | hb'
        · exact hbx.lt
        · obtain ⟨g, hg, hag⟩ := List.mem_flatten.1 hb'
          obtain ⟨i, hi⟩ := List.mem_iff_getElem?.1 hg
          rw [hfe i g hi] at hag; cases hag

end
end Go.Proofs.YtbhjkcicpobmhaaDoor
