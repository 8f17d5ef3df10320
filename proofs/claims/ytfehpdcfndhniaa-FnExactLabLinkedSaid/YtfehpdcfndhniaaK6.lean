/-
  The calculus, sixth part: append.
-/
import Derived.Test.YtfehpdcfndhniaaK5
import Derived.ArgAppend
namespace Go.Proofs.Ytfehpdcfndhniaa
open Go.RowKit

section
variable {P : Program} {w : World}

theorem firstCells_ok {size m c : Nat} {ay : Option Addr} {news : List Value} (hl : news.length = m * size) (hA : ay = none → news = []) (hB : ∀ a, ay = some a → ∀ j v, news[j]? = some v → w.cell? (a.add j) = some v) :
    (Builtin.firstCells size m (.slice ay m c)).run P w = .ok news.toArray w := by
  cases ay with
  | none => rw [hA rfl]; exact run_firstCells_none ..
  | some a => exact run_firstCells_some (P := P) w size m a m c news hl (hB a rfl)

theorem run_app_room {t ty e b T n c m cy : Nat} {i : TypeInfo} {cells news : List Value} {ay : Option Addr} (ht : P.underlying t = some (.slice e)) (hi : P.info? e = some i) (hb : Box w b T cells) (hlen : cells.length = c * i.size)
    (hl : news.length = m * i.size) (hA : ay = none → news = []) (hB : ∀ a, ay = some a → ∀ j v, news[j]? = some v → w.cell? (a.add j) = some v) (h1 : (news.all fun v => v.oneCell') = true) (hroom : n + m ≤ c) :
    (Builtin.append_ #[t, t] ty #[.slice (some ⟨b, 0, none⟩) n c, .slice ay m cy]).run P w = .ok (.slice (some ⟨b, 0, none⟩) (n + m) c) (if news = [] then w else setBlk w b (.cells (splice cells (n * i.size) news).toArray T (0, 0))) := by
  have hf := firstCells_ok (P := P) (c := cy) hl hA hB
  have hfit : n * i.size + news.length ≤ cells.length := by
    rw [hl, hlen, ← Nat.add_mul]; exact Nat.mul_le_mul_right _ hroom
  have hst := run_storeCells (P := P) (o := n * i.size) news 0 w cells hb (by simpa using hfit) h1
  simp only [Nat.add_zero] at hst
  simp [Builtin.append_, run_underlying ht, sizeOf, typeInfo, hi, Builtin.lenOf, hroom, hf, Addr.add_lit, hst]

theorem run_app_grow {t ty e n c m cy : Nat} {i : TypeInfo} {z : Value} {olds news : List Value} {as ay : Option Addr} (ht : P.underlying t = some (.slice e)) (hi : P.info? e = some i) (hz : i.zero = some z)
    (hlo : olds.length = n * i.size) (hC : as = none → olds = []) (hD : ∀ a, as = some a → ∀ j v, olds[j]? = some v → w.cell? (a.add j) = some v)
    (hl : news.length = m * i.size) (hA : ay = none → news = []) (hB : ∀ a, ay = some a → ∀ j v, news[j]? = some v → w.cell? (a.add j) = some v)
    (hg : c < n + m) (h63 : n + m ≤ 9223372036854775807) (hby : (n + m) * i.bytes ≤ 140737488355328) :
    (Builtin.append_ #[t, t] ty #[.slice as n c, .slice ay m cy]).run P w =
      .ok (.slice (some ⟨w.heap.size, 0, none⟩) (n + m) (grownCap w (n + m) c e)) (w.drew.alloc (.cells (olds.toArray ++ news.toArray ++ Builtin.zeroCells z.cells (grownCap w (n + m) c e - (n + m))) e)) := by
  have hfit := growslice_fits hg hby
  have hn : ¬ (n + m ≤ c) := by omega
  have h63' : ¬ (9223372036854775807 < ((n : Int) + (m : Int))) := by omega
  have h48' : ¬ (281474976710656 < Builtin.nextslicecap (n + m) c * i.bytes) := by omega
  have hf := firstCells_ok (P := P) (w := w.drew) (c := cy) hl hA (fun a h j v hj => by simpa using hB a h j v hj)
  have hfo := firstCells_ok (P := P) (w := w.drew) (c := c) hlo hC (fun a h j v hj => by simpa using hD a h j v hj)
  simp [Builtin.append_, run_underlying ht, sizeOf, typeInfo, zeroValue, hi, hz, Builtin.lenOf, hn, h63', h48', Question.forced, hf, hfo, newRow, grownCap]
  congr 2
  apply Array.ext'
  simp [List.append_assoc]
end

/-- the cells of element i -/
def chunk (sz : Nat) (cells : List Value) (i : Nat) : List Value := (cells.drop (i * sz)).take sz

theorem chunk_l {sz n i : Nat} {xs ys : List Value} (hl : xs.length = n * sz) (hi : i < n) : chunk sz (xs ++ ys) i = chunk sz xs i := by
  have h : i * sz + sz ≤ xs.length := by
    rw [hl]
    calc i * sz + sz = (i + 1) * sz := by rw [Nat.succ_mul]
      _ ≤ n * sz := Nat.mul_le_mul_right _ hi
  unfold chunk
  rw [List.drop_append, List.take_append_of_le_length (by simp; omega)]
theorem chunk_r {sz n i : Nat} {xs ys : List Value} (hl : xs.length = n * sz) : chunk sz (xs ++ ys) (n + i) = chunk sz ys i := by
  unfold chunk
  rw [List.drop_append, List.drop_of_length_le (by rw [hl, Nat.add_mul]; omega), hl, Nat.add_mul, Nat.add_sub_cancel_left]
  rfl

/-- elements that are to be appended: their cells, each with its memory -/
structure AppEl {α : Type} (r : Rp α) (w : World) (ys : List α) (gs : List (List Nat)) (news : List Value) : Prop where
  len : news.length = ys.length * r.sz
  gl : gs.length = ys.length
  el : ∀ i y g, ys[i]? = some y → gs[i]? = some g → r.own w (chunk r.sz news i) y g
  nd : gs.flatten.Nodup

theorem AppEl.one {α : Type} {r : Rp α} {w : World} {ys : List α} {gs : List (List Nat)} {news : List Value} (h : AppEl r w ys gs news) (hp : 0 < r.sz) : (news.all fun v => v.oneCell') = true := by
  rw [List.all_eq_true]
  intro v hv
  obtain ⟨j, hj, rfl⟩ := List.getElem_of_mem hv
  have hlen := h.len
  have hi : j / r.sz < ys.length := Nat.div_lt_of_lt_mul (by rw [Nat.mul_comm, ← hlen]; exact hj)
  obtain ⟨y, hy⟩ : ∃ y, ys[j / r.sz]? = some y := ⟨_, List.getElem?_eq_getElem hi⟩
  obtain ⟨g, hg⟩ : ∃ g, gs[j / r.sz]? = some g := ⟨_, List.getElem?_eq_getElem (by rw [h.gl]; exact hi)⟩
  have h1 := List.all_eq_true.1 (r.own_one (h.el _ y g hy hg))
  refine h1 _ ?_
  have hm : j % r.sz < r.sz := Nat.mod_lt _ hp
  have he : j / r.sz * r.sz + j % r.sz = j := by rw [Nat.mul_comm]; exact Nat.div_add_mod j r.sz
  have : (chunk r.sz news (j / r.sz))[j % r.sz]? = some news[j] := by
    unfold chunk
    rw [List.getElem?_take, if_pos hm, List.getElem?_drop, he, List.getElem?_eq_getElem hj]
  exact List.mem_of_getElem? this

theorem slo_of {α : Type} {r : Rp α} {w : World} {b T c n : Nat} {xs ys : List α} {fps gs : List (List Nat)} {olds news rest : List Value} (hb : Box w b T (olds ++ (news ++ rest))) (hn : n = xs.length) (hlo : olds.length = n * r.sz) (hl : news.length = ys.length * r.sz)
    (hc : (olds ++ (news ++ rest)).length = c * r.sz) (hle : (xs ++ ys).length ≤ c) (h63 : (xs ++ ys).length ≤ 9223372036854775807) (hfl : fps.length = xs.length) (hgl : gs.length = ys.length)
    (h1 : ∀ i x f, xs[i]? = some x → fps[i]? = some f → r.own w (chunk r.sz olds i) x f) (h2 : ∀ i y g, ys[i]? = some y → gs[i]? = some g → r.own w (chunk r.sz news i) y g)
    (hnd : (b :: (fps ++ gs).flatten).Nodup) : SlO r w (some ⟨b, 0, none⟩) c (xs ++ ys) (b :: (fps ++ gs).flatten) := by
  subst hn
  refine ⟨hle, h63, .inr ⟨b, T, _, fps ++ gs, rfl, hb, hc, by simp [hfl, hgl], ?_, rfl, hnd⟩⟩
  intro i x f hx hf
  show r.own w (chunk r.sz (olds ++ (news ++ rest)) i) x f
  by_cases hi : i < xs.length
  · rw [chunk_l hlo hi]
    rw [List.getElem?_append_left hi] at hx
    rw [List.getElem?_append_left (by omega)] at hf
    exact h1 i x f hx hf
  · obtain ⟨k, rfl⟩ : ∃ k, i = xs.length + k := ⟨i - xs.length, by omega⟩
    rw [List.getElem?_append_right (by omega), Nat.add_sub_cancel_left] at hx
    rw [List.getElem?_append_right (by omega), hfl, Nat.add_sub_cancel_left] at hf
    have hk : k < ys.length := (List.getElem?_eq_some_iff.1 hx).1
    rw [chunk_r hlo, chunk_l hl hk]
    exact h2 k x f hx hf

theorem box_cell {w : World} {b T : Nat} {cs : List Value} (h : Box w b T cs) (j : Nat) (v : Value) (hj : cs[j]? = some v) : w.cell? ((⟨b, 0, none⟩ : Addr).add j) = some v := by
  have := h.cell j v hj
  rw [Addr.add_lit]
  simpa using this

theorem run_append_slo {P : Program} {w : World} {α : Type} {r : Rp α} {t ty e c cy : Nat} {inf : TypeInfo} {z : Value} {a ay : Option Addr} {xs ys : List α} {fp : List Nat} {gs : List (List Nat)} {news : List Value} (ht : P.underlying t = some (.slice e)) (hi : P.info? e = some inf) (hz : inf.zero = some z)
    (hsz : inf.size = r.sz) (hzs : z.cells.size = r.sz) (hpos : 0 < r.sz) (h : SlO r w a c xs fp) (hE : AppEl r w ys gs news) (hA : ay = none → news = []) (hB : ∀ a, ay = some a → ∀ j v, news[j]? = some v → w.cell? (a.add j) = some v)
    (hd : ∀ b ∈ gs.flatten, b ∉ fp) (h63 : xs.length + ys.length ≤ 9223372036854775807) (hby : (xs.length + ys.length) * inf.bytes ≤ 140737488355328) :
    ∃ a' c' fp' w', (Builtin.append_ #[t, t] ty #[.slice a xs.length c, .slice ay ys.length cy]).run P w = .ok (.slice a' (xs.length + ys.length) c') w' ∧ SlO r w' a' c' (xs ++ ys) fp' ∧ Chg (· ∈ fp) w w' ∧ (∀ b ∈ fp', b ∈ fp ∨ b ∈ gs.flatten ∨ w.heap.size ≤ b) := by
  have hone := hE.one hpos
  have hnl : news.length = ys.length * inf.size := by rw [hE.len, hsz]
  have hgcap := grownCap_ge w (xs.length + ys.length) c e
  have glt : ∀ b ∈ gs.flatten, b < w.heap.size := by
    intro b hb
    obtain ⟨g, hg, hbg⟩ := List.mem_flatten.1 hb
    obtain ⟨k, hk, rfl⟩ := List.getElem_of_mem hg
    exact r.own_lt (hE.el k _ _ (List.getElem?_eq_getElem (by rw [← hE.gl]; exact hk)) (List.getElem?_eq_getElem hk)) b hbg
  have hgrow : ∀ (olds : List Value) (fps : List (List Nat)), olds.length = xs.length * r.sz → (a = none → olds = []) → (∀ ad, a = some ad → ∀ j v, olds[j]? = some v → w.cell? (ad.add j) = some v) → fps.length = xs.length →
      (∀ i x f, xs[i]? = some x → fps[i]? = some f → r.own w (chunk r.sz olds i) x f) → fps.flatten.Nodup → (∀ b ∈ fps.flatten, b ∈ fp) → c < xs.length + ys.length →
      ∃ a' c' fp' w', (Builtin.append_ #[t, t] ty #[.slice a xs.length c, .slice ay ys.length cy]).run P w = .ok (.slice a' (xs.length + ys.length) c') w' ∧ SlO r w' a' c' (xs ++ ys) fp' ∧ Chg (· ∈ fp) w w' ∧ (∀ b ∈ fp', b ∈ fp ∨ b ∈ gs.flatten ∨ w.heap.size ≤ b) := by
    intro olds fps hlo hC hD hfl h1 hnd hsub hg
    have hr := run_app_grow (P := P) (w := w) (ty := ty) (cy := cy) ht hi hz (by rw [hlo, hsz]) hC hD hnl hA hB hg h63 hby
    have hbel : Below w.heap.size w (w.drew.alloc (.cells (olds.toArray ++ news.toArray ++ Builtin.zeroCells z.cells (grownCap w (xs.length + ys.length) c e - (xs.length + ys.length))) e)) := ⟨rfl, rfl, rfl, (by show w.heap.size ≤ (w.heap.push _).size; simp), fun k hk => (by show (w.heap.push _)[k]? = w.heap[k]?; simp [Array.getElem?_push, Nat.ne_of_lt hk])⟩
    have hkeep : ∀ b, b < w.heap.size → (w.drew.alloc (.cells (olds.toArray ++ news.toArray ++ Builtin.zeroCells z.cells (grownCap w (xs.length + ys.length) c e - (xs.length + ys.length))) e)).heap[b]? = w.heap[b]? := fun b hb => hbel.block b hb
    have flt : ∀ b ∈ fps.flatten, b < w.heap.size := fun b hb => h.lt b (hsub b hb)
    have hzl : (Builtin.zeroCells z.cells (grownCap w (xs.length + ys.length) c e - (xs.length + ys.length))).toList.length = (grownCap w (xs.length + ys.length) c e - (xs.length + ys.length)) * r.sz := by
      simp [Builtin.zeroCells, hzs]
    refine ⟨_, _, w.heap.size :: (fps ++ gs).flatten, _, hr, slo_of (T := e) (olds := olds) (news := news) (rest := (Builtin.zeroCells z.cells (grownCap w (xs.length + ys.length) c e - (xs.length + ys.length))).toList) ?_ rfl hlo hE.len ?_ (by simpa using hgcap) (by simpa using h63) hfl hE.gl ?_ ?_ ?_, Chg.of_below hbel, ?_⟩
    · show (w.heap.push _)[w.heap.size]? = _
      rw [Array.getElem?_push_size]
      congr 2
      apply Array.ext'
      simp [List.append_assoc]
    · simp only [List.length_append, hlo, hE.len, hzl, ← Nat.add_mul]
      congr 1; omega
    · intro i x f hx hf
      exact r.own_keep (h1 i x f hx hf) fun b hb => hkeep b (flt b (List.mem_flatten.2 ⟨f, List.mem_of_getElem? hf, hb⟩))
    · intro i y g hy hg'
      exact r.own_keep (hE.el i y g hy hg') fun b hb => hkeep b (glt b (List.mem_flatten.2 ⟨g, List.mem_of_getElem? hg', hb⟩))
    · rw [List.flatten_append]
      refine List.nodup_cons.2 ⟨fun hm => ?_, nd_app hnd hE.nd fun b hb hm => hd b hm (hsub b hb)⟩
      rcases List.mem_append.1 hm with hm | hm
      · exact Nat.lt_irrefl _ (flt _ hm)
      · exact Nat.lt_irrefl _ (glt _ hm)
    · intro b hb
      rcases List.mem_cons.1 hb with rfl | hb
      · exact .inr (.inr (Nat.le_refl _))
      · rw [List.flatten_append] at hb
        rcases List.mem_append.1 hb with hb | hb
        · exact .inl (hsub b hb)
        · exact .inr (.inl hb)
  have h0 := h
  obtain ⟨hle, hl63, ⟨rfl, rfl, rfl⟩ | ⟨b, T, cells, fps, rfl, hb, hcl, hfl, hel, rfl, hnd⟩⟩ := h
  · by_cases hm : ys = []
    · subst hm
      have hnews : news = [] := List.eq_nil_of_length_eq_zero (by simpa using hE.len)
      subst hnews
      have hf := firstCells_ok (P := P) (w := w) (size := inf.size) (m := 0) (c := cy) (ay := ay) (news := []) (by simp) (fun _ => rfl) (fun _ _ j v hj => by simp at hj)
      refine ⟨a, 0, [], w, ?_, SlO.nila _ _ _, Chg.of_below (Below.refl _ _), fun b hb => by cases hb⟩
      cases a <;> simp [Builtin.append_, run_underlying ht, sizeOf, typeInfo, hi, Builtin.lenOf, hf, storeCells]
    · have : 0 < ys.length := List.length_pos_iff.2 hm
      exact hgrow [] [] (by simp) (fun _ => rfl) (fun _ _ j v hj => by simp at hj) rfl (fun i x f hx => by simp at hx) (by simp) (fun b hb => by simp at hb) (by simpa using this)
  · by_cases hroom : xs.length + ys.length ≤ c
    · have hr := run_app_room (P := P) (w := w) (ty := ty) (cy := cy) ht hi hb (by rw [hcl, hsz]) hnl hA hB hone hroom
      rw [hsz] at hr
      obtain ⟨hbn, hfn⟩ := List.nodup_cons.1 hnd
      by_cases hm : news = []
      · have hys : ys = [] := by
          have := hE.len; rw [hm] at this
          rcases Nat.mul_eq_zero.1 this.symm with h | h
          · exact List.eq_nil_of_length_eq_zero h
          · omega
        rw [if_pos hm] at hr
        refine ⟨_, _, _, w, hr, ?_, Chg.of_below (Below.refl _ _), fun b' hb' => .inl hb'⟩
        rw [hys, List.append_nil]
        exact h0
      · rw [if_neg hm] at hr
        have hchg : Chg (· = b) w (setBlk w b (.cells (splice cells (xs.length * r.sz) news).toArray T (0, 0))) := setBlk_chg _ _ _
        have hfit : xs.length * r.sz ≤ cells.length := by rw [hcl]; exact Nat.mul_le_mul_right _ hle
        have hfit2 : xs.length * r.sz + news.length ≤ cells.length := by rw [hcl, hE.len, ← Nat.add_mul]; exact Nat.mul_le_mul_right _ hroom
        refine ⟨_, _, b :: (fps ++ gs).flatten, _, hr, slo_of (T := T) (olds := cells.take (xs.length * r.sz)) (news := news) (rest := cells.drop (xs.length * r.sz + news.length)) ?_ rfl (by rw [List.length_take]; omega) hE.len ?_ (by simpa using hroom) (by simpa using h63) hfl hE.gl ?_ ?_ ?_, ⟨hchg.os, hchg.tape, hchg.output, hchg.size, fun k hk hn => hchg.block k hk fun e => hn (e ▸ List.mem_cons_self)⟩, ?_⟩
        · have := setBlk_box hb.lt T (splice cells (xs.length * r.sz) news)
          unfold splice at this ⊢
          rwa [List.append_assoc] at this ⊢
        · simp only [List.length_append, List.length_take, List.length_drop, ← hcl]; omega
        · intro i x f hx hf
          have hi' : i < xs.length := (List.getElem?_eq_some_iff.1 hx).1
          have he : chunk r.sz (cells.take (xs.length * r.sz)) i = chunk r.sz cells i := by
            have := chunk_l (sz := r.sz) (n := xs.length) (i := i) (xs := cells.take (xs.length * r.sz)) (ys := cells.drop (xs.length * r.sz)) (by rw [List.length_take]; omega) hi'
            rw [List.take_append_drop] at this; exact this.symm
          rw [he]
          exact r.own_keep (hel i x f hx hf) fun b' hb' => hchg.block b' (r.own_lt (hel i x f hx hf) b' hb') fun e => hbn (e ▸ List.mem_flatten.2 ⟨f, List.mem_of_getElem? hf, hb'⟩)
        · intro i y g hy hg'
          exact r.own_keep (hE.el i y g hy hg') fun b' hb' => hchg.block b' (r.own_lt (hE.el i y g hy hg') b' hb') fun e => hd b' (List.mem_flatten.2 ⟨g, List.mem_of_getElem? hg', hb'⟩) (e ▸ List.mem_cons_self)
        · rw [List.flatten_append]
          refine List.nodup_cons.2 ⟨fun hm => ?_, nd_app hfn hE.nd fun b' hb' hm => hd b' hm (List.mem_cons_of_mem _ hb')⟩
          rcases List.mem_append.1 hm with hm | hm
          · exact hbn hm
          · exact hd b hm List.mem_cons_self
        · intro b' hb'
          rcases List.mem_cons.1 hb' with rfl | hb'
          · exact .inl List.mem_cons_self
          · rw [List.flatten_append] at hb'
            rcases List.mem_append.1 hb' with hb' | hb'
            · exact .inl (List.mem_cons_of_mem _ hb')
            · exact .inr (.inl hb')
    · refine hgrow (cells.take (xs.length * r.sz)) fps (by rw [List.length_take, hcl]; exact Nat.min_eq_left (Nat.mul_le_mul_right _ hle)) (fun h => by cases h) ?_ hfl ?_ (List.nodup_cons.1 hnd).2 (fun b' hb' => List.mem_cons_of_mem _ hb') (by omega)
      · intro ad had j v hj
        obtain rfl := Option.some.inj had
        refine box_cell hb j v ?_
        rw [List.getElem?_take] at hj
        split at hj
        · exact hj
        · cases hj
      · intro i x f hx hf
        have hi' : i < xs.length := (List.getElem?_eq_some_iff.1 hx).1
        have he : chunk r.sz (cells.take (xs.length * r.sz)) i = chunk r.sz cells i := by
          have := chunk_l (sz := r.sz) (n := xs.length) (i := i) (xs := cells.take (xs.length * r.sz)) (ys := cells.drop (xs.length * r.sz)) (by rw [List.length_take, hcl]; exact Nat.min_eq_left (Nat.mul_le_mul_right _ hle)) hi'
          rw [List.take_append_drop] at this; exact this.symm
        rw [he]
        exact hel i x f hx hf

/-! ### append, in a region -/

/-- the type's elements hold no memory of their own -/
def Rp.Flat {α : Type} (r : Rp α) : Prop := ∀ (w : World) (cs : List Value) (x : α), r.rd w cs x → r.own w cs x []
theorem flat_flat {α : Type} (n : Nat) (f : α → List Value) (hf : ∀ x, (f x).length = n) (h1 : ∀ x, ((f x).all fun v => v.oneCell') = true) : (Rp.flat n f hf h1).Flat := fun _ _ _ h => ⟨h, rfl⟩

theorem SlR.cells {α : Type} {r : Rp α} {w : World} {a : Option Addr} {c : Nat} {ys : List α} (h : SlR r w a c ys) (hp : 0 < r.sz) :
    ∃ news : List Value, news.length = ys.length * r.sz ∧ (a = none → news = []) ∧ (∀ ad, a = some ad → ∀ j v, news[j]? = some v → w.cell? (ad.add j) = some v) ∧ ∀ i y, ys[i]? = some y → r.rd w (chunk r.sz news i) y := by
  have key : ∀ i : Fin ys.length, ∃ cs : List Value, cs.length = r.sz ∧ Has w (ab a) (ao a + i.1 * r.sz) cs ∧ r.rd w cs ys[i.1] := by
    intro i
    obtain ⟨_, _, cs, h1, h2, h3⟩ := h.2.2 i.1 ys[i.1] (List.getElem?_eq_getElem i.2)
    exact ⟨cs, h1, h2, h3⟩
  let pick : Fin ys.length → List Value := fun i => Classical.choose (key i)
  have hpick : ∀ i, (pick i).length = r.sz ∧ Has w (ab a) (ao a + i.1 * r.sz) (pick i) ∧ r.rd w (pick i) ys[i.1] := fun i => Classical.choose_spec (key i)
  have hall : ∀ x ∈ List.ofFn pick, x.length = r.sz := by
    intro x hx
    obtain ⟨i, rfl⟩ := List.mem_ofFn.1 hx
    exact (hpick i).1
  have hlen : (List.ofFn pick).flatten.length = ys.length * r.sz := by
    rw [List.length_flatten]
    have : (List.ofFn pick).map List.length = List.replicate ys.length r.sz := by
      refine List.ext_getElem (by simp) fun i h1 h2 => ?_
      simp only [List.getElem_map, List.getElem_ofFn, List.getElem_replicate]
      exact (hpick _).1
    rw [this, List.sum_replicate_nat]
  have hch : ∀ i (hi : i < ys.length), chunk r.sz (List.ofFn pick).flatten i = pick ⟨i, hi⟩ := by
    intro i hi
    exact flat_chunk _ i _ hall (by simp [hi])
  refine ⟨(List.ofFn pick).flatten, hlen, fun ha => ?_, fun ad had j v hj => ?_, fun i y hy => ?_⟩
  · refine List.eq_nil_of_length_eq_zero ?_
    rw [hlen]
    have : ys.length = 0 := by
      rcases Nat.eq_zero_or_pos ys.length with h0 | h0
      · exact h0
      · have := (h.2.2 0 ys[0] (List.getElem?_eq_getElem h0)).1
        rw [ha] at this; cases this
    rw [this, Nat.zero_mul]
  · have hj' : j < ys.length * r.sz := by rw [← hlen]; exact (List.getElem?_eq_some_iff.1 hj).1
    have hi : j / r.sz < ys.length := Nat.div_lt_of_lt_mul (by rw [Nat.mul_comm]; exact hj')
    have hm : j % r.sz < r.sz := Nat.mod_lt _ hp
    have he : j / r.sz * r.sz + j % r.sz = j := by rw [Nat.mul_comm]; exact Nat.div_add_mod j r.sz
    have hc := hch (j / r.sz) hi
    have hv : (pick ⟨j / r.sz, hi⟩)[j % r.sz]? = some v := by
      rw [← hc]; unfold chunk
      rw [List.getElem?_take, if_pos hm, List.getElem?_drop, he]; exact hj
    have h2 := (hpick ⟨j / r.sz, hi⟩).2.1 _ _ hv
    have h1 := (h.2.2 (j / r.sz) ys[j / r.sz] (List.getElem?_eq_getElem hi)).1
    have e := Option.some.inj (had.symm.trans h1)
    rw [e, Addr.add_lit]
    rw [Nat.add_assoc] at h2
    simp only [he] at h2
    exact h2
  · have hi : i < ys.length := (List.getElem?_eq_some_iff.1 hy).1
    rw [hch i hi]
    have := (List.getElem?_eq_some_iff.1 hy).2
    rw [← this]
    exact (hpick ⟨i, hi⟩).2.2

theorem AppEl.flat {α : Type} {r : Rp α} {w : World} {ys : List α} {news : List Value} (hr : r.Flat) (hl : news.length = ys.length * r.sz) (h : ∀ i y, ys[i]? = some y → r.rd w (chunk r.sz news i) y) : AppEl r w ys (List.replicate ys.length []) news :=
  ⟨hl, by simp, fun i y g hy hg => by
    obtain rfl : g = [] := by
      have := List.mem_of_getElem? hg
      exact List.eq_of_mem_replicate this
    exact hr w _ y (h i y hy), by
    have : (List.replicate ys.length ([] : List Nat)).flatten = [] := by simp
    rw [this]; exact List.nodup_nil⟩

section
variable {P : Program} {N : Nat} {ops : Array Oper} {Q : Exit → Act → World → Prop} {E : Sl} {w : World} {rest : List Oper} {ty : TypeId} {pos : String} {af : Array Edge} {α : Type} {r : Rp α}

theorem append_run {x y : Operand} {t : TypeId} {v1 v2 v : Value} {w' : World} {d : Option Tmp} {g : Option (Nat × Bool)} (ev : Operand → Value) (hx : ev x = v1) (hy : ev y = v2) (hr : (Builtin.append_ #[t, t] ty #[v1, v2]).run P w = .ok v w') :
    (execOp ev ⟨d, .call { callee := .builtin .append, args := #[x, y], argTypes := #[t, t] }, ty, pos, af, g⟩).run P w = .ok (.value v) w' := by
  simp [execOp, resolve, invoke, builtin, hx, hy, hr]

/-- append, of elements without memory of their own -/
theorem Rest.appendF {x y : Operand} {t e c cy d by' : Nat} {zv : Value} {a ay : Option Addr} {xs ys : List α} {fp : List Nat} (hr : r.Flat) (hp : 0 < r.sz) (ht : P.underlying t = some (.slice e)) (hi : (P.info? e).map (fun i => (i.zero, i.size, i.bytes)) = some (some zv, r.sz, by')) (hzs : zv.cells.size = r.sz)
    (h : SlO r w a c xs fp) (hy : SlR r w ay cy ys) (hx : evO E x = some (.slice a xs.length c)) (hyv : evO E y = some (.slice ay ys.length cy)) (h63 : xs.length + ys.length ≤ 9223372036854775807) (hby : (xs.length + ys.length) * by' ≤ 140737488355328) (hN : Nat.blt d N = true)
    (hn : ∀ a' c' fp' w', SlO r w' a' c' (xs ++ ys) fp' → Chg (· ∈ fp) w w' → (∀ b ∈ fp', b ∈ fp ∨ w.heap.size ≤ b) → Rest P N ops Q rest ((d, .slice a' (xs ++ ys).length c') :: E) w') :
    Rest P N ops Q (⟨some d, .call { callee := .builtin .append, args := #[x, y], argTypes := #[t, t] }, ty, pos, af, none⟩ :: rest) E w := by
  obtain ⟨inf, hinf, hrow⟩ := Option.map_eq_some_iff.1 hi
  simp only [Prod.mk.injEq] at hrow
  obtain ⟨hz0, hsz, hby0⟩ := hrow
  obtain ⟨news, hl, hA, hB, hrd⟩ := hy.cells hp
  obtain ⟨a', c', fp', w', hrun, hs, hc, hf⟩ := run_append_slo (P := P) (ty := ty) (cy := cy) ht hinf hz0 hsz hzs hp h (AppEl.flat hr hl hrd) hA hB (by simp) h63 (by rw [hby0]; exact hby)
  intro ac hac
  unfold wpList
  rw [if_pos (by simp [Region.wanted])]
  left
  unfold Oper.wp
  rw [append_run ac.eval (hac.ev hx) (hac.ev hyv) hrun]
  show wpList P ops Q rest (ac.put (some d) _) w'
  rw [← List.length_append] at *
  exact hn a' c' fp' w' hs hc (fun b hb => by
    rcases hf b hb with h | h | h
    · exact .inl h
    · simp at h
    · exact .inr h) _ (hac.put (by simpa [dstOk] using hN) _)
end

end Go.Proofs.Ytfehpdcfndhniaa
