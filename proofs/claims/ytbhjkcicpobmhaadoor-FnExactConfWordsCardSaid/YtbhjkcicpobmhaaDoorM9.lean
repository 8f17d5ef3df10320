/-
  The machine, ninth part: append.
-/
import Derived.Test.YtbhjkcicpobmhaaDoorM8
namespace Go.Proofs.YtbhjkcicpobmhaaDoor
open Go.RowKit
set_option linter.unusedVariables false
set_option linter.unusedSimpArgs false

section
variable {P : Program} {w : World}

theorem firstCells_ok {size m c : Nat} {ay : Option Addr} {news : List Value} (hl : news.length = m * size) (hA : ay = none → news = []) (hB : ∀ a, ay = some a → ∀ j v, news[j]? = some v → w.cell? (a.add j) = some v) :
    (Builtin.firstCells size m (.slice ay m c)).run P w = .ok news.toArray w := by
  cases ay with
  | none => rw [hA rfl]; exact run_firstCells_none ..
  | some a => exact run_firstCells_some (P := P) w size m a m c news hl (hB a rfl)

theorem run_app_room {t ty e b o T n c m cy : Nat} {i : TypeInfo} {cells news : List Value} {ay : Option Addr} (ht : P.underlying t = some (.slice e)) (hi : P.info? e = some i) (hb : Box w b T cells) (hlen : cells.length = o + c * i.size)
    (hl : news.length = m * i.size) (hA : ay = none → news = []) (hB : ∀ a, ay = some a → ∀ j v, news[j]? = some v → w.cell? (a.add j) = some v) (h1 : (news.all fun v => v.oneCell') = true) (hroom : n + m ≤ c) :
    (Builtin.append_ #[t, t] ty #[.slice (some ⟨b, o, none⟩) n c, .slice ay m cy]).run P w = .ok (.slice (some ⟨b, o, none⟩) (n + m) c) (if news = [] then w else setBlk w b (.cells (splice cells (o + n * i.size) news).toArray T (0, 0))) := by
  have hf := firstCells_ok (P := P) (c := cy) hl hA hB
  have hfit : o + n * i.size + news.length ≤ cells.length := by
    rw [hl, hlen, Nat.add_assoc, ← Nat.add_mul]; exact Nat.add_le_add_left (Nat.mul_le_mul_right _ hroom) _
  have hst := run_storeCells (P := P) (o := o + n * i.size) news 0 w cells hb (by simpa using hfit) h1
  simp only [Nat.add_zero] at hst
  simp [Builtin.append_, run_underlying ht, sizeOf, typeInfo, hi, Builtin.lenOf, hroom, hf, Addr.add_lit, hst]

theorem run_app_grow {t ty e n c m cy : Nat} {i : TypeInfo} {z : Value} {olds news : List Value} {as ay : Option Addr} (ht : P.underlying t = some (.slice e)) (hi : P.info? e = some i) (hz : i.zero = some z)
    (hlo : olds.length = n * i.size) (hC : as = none → olds = []) (hD : ∀ a, as = some a → ∀ j v, olds[j]? = some v → w.cell? (a.add j) = some v)
    (hl : news.length = m * i.size) (hA : ay = none → news = []) (hB : ∀ a, ay = some a → ∀ j v, news[j]? = some v → w.cell? (a.add j) = some v)
    (hg : c < n + m) (h63 : n + m ≤ 9223372036854775807) (hby : (n + m) * i.bytes ≤ 140737488355328) :
    (Builtin.append_ #[t, t] ty #[.slice as n c, .slice ay m cy]).run P w =
      .ok (.slice (some ⟨w.heap.size, 0, none⟩) (n + m) (grownCap w (n + m) c e)) (w.drew.alloc (.cells (olds.toArray ++ news.toArray ++ Builtin.zeroCells z.cells (grownCap w (n + m) c e - (n + m))) e)) := by
  have hfit := growslice_fits hg hby
  have hn : ¬ (n + m ≤ c) := by omega
  have h63' : ¬ (9223372036854775807 < ((n : Int) + (m : Int))) := by omega
  have h48' : ¬ (281474976710656 < Builtin.nextslicecap (n + m) c * i.bytes) := by omega
  have hf := firstCells_ok (P := P) (w := w.drew) (c := cy) hl hA (fun a h j v hj => by simpa using hB a h j v hj)
  have hfo := firstCells_ok (P := P) (w := w.drew) (c := c) hlo hC (fun a h j v hj => by simpa using hD a h j v hj)
  simp [Builtin.append_, run_underlying ht, sizeOf, typeInfo, zeroValue, hi, hz, Builtin.lenOf, hn, h63', h48', Question.forced, hf, hfo, newRow, grownCap]
  congr 2
  apply Array.ext'
  simp [List.append_assoc]

theorem chunk_l {sz n i : Nat} {xs ys : List Value} (hl : xs.length = n * sz) (hi : i < n) : ((xs ++ ys).drop (i * sz)).take sz = (xs.drop (i * sz)).take sz := by
  have h : i * sz + sz ≤ xs.length := by
    rw [hl]
    calc i * sz + sz = (i + 1) * sz := by rw [Nat.succ_mul]
      _ ≤ n * sz := Nat.mul_le_mul_right _ hi
  rw [List.drop_append, List.take_append_of_le_length (by simp; omega)]
theorem chunk_r {sz n i : Nat} {xs ys : List Value} (hl : xs.length = n * sz) : ((xs ++ ys).drop ((n + i) * sz)).take sz = (ys.drop (i * sz)).take sz := by
  rw [List.drop_append, List.drop_of_length_le (by rw [hl, Nat.add_mul]; omega), hl, Nat.add_mul, Nat.add_sub_cancel_left]
  rfl

/-- elements that are to be appended: their cells, each with its memory -/
structure AppEl {α : Type} (sz : Nat) (enc : α → List Dat) (w : World) (ys : List α) (gs : List (List Nat)) (news : List Value) : Prop where
  len : news.length = ys.length * sz
  gl : gs.length = ys.length
  el : ∀ (i : Nat) (y : α) (g : List Nat), ys[i]? = some y → gs[i]? = some g → ((news.drop (i * sz)).take sz).length = sz ∧ OwVs w (enc y) ((news.drop (i * sz)).take sz) g
  nd : gs.flatten.Nodup
  one : (news.all fun v => v.oneCell') = true

/-- a slice in a block whose cells are known in three parts, behind o others -/
theorem own_parts {α : Type} [Inhabited α] {sz : Nat} {enc : α → List Dat} {b T c o n : Nat} {xs ys : List α} {fps gs : List (List Nat)} {pre olds news rest : List Value} (hb : Box w b T (pre ++ (olds ++ (news ++ rest)))) (hp : pre.length = o) (hn : n = xs.length) (hlo : olds.length = n * sz) (hl : news.length = ys.length * sz)
    (hc : (olds ++ (news ++ rest)).length = c * sz) (hle : (xs ++ ys).length ≤ c) (h63 : (xs ++ ys).length ≤ 9223372036854775807) (hfl : fps.length = xs.length) (hgl : gs.length = ys.length)
    (h1 : ∀ (i : Nat) (x : α) (f : List Nat), xs[i]? = some x → fps[i]? = some f → ((olds.drop (i * sz)).take sz).length = sz ∧ OwVs w (enc x) ((olds.drop (i * sz)).take sz) f)
    (h2 : ∀ (i : Nat) (y : α) (g : List Nat), ys[i]? = some y → gs[i]? = some g → ((news.drop (i * sz)).take sz).length = sz ∧ OwVs w (enc y) ((news.drop (i * sz)).take sz) g)
    (hnd : (b :: (fps ++ gs).flatten).Nodup) : OwV w (.l sz enc (xs ++ ys)) (.slice (some ⟨b, o, none⟩) (xs ++ ys).length c) (b :: (fps ++ gs).flatten) := by
  subst hn
  refine ⟨_, c, rfl, hle, h63, .inr ⟨b, o, T, _, fps ++ gs, rfl, hb, by rw [List.length_append, hp, hc], by simp [hfl, hgl], ?_, rfl, hnd⟩⟩
  intro i x f hx hf
  have e0 : (pre ++ (olds ++ (news ++ rest))).drop (o + i * sz) = (olds ++ (news ++ rest)).drop (i * sz) := by
    rw [List.drop_append, List.drop_of_length_le (by omega), hp, Nat.add_sub_cancel_left]
    rfl
  rw [e0]
  by_cases hi : i < xs.length
  · rw [chunk_l hlo hi]
    rw [List.getElem?_append_left hi] at hx
    rw [List.getElem?_append_left (by omega)] at hf
    exact h1 i x f hx hf
  · obtain ⟨k, rfl⟩ : ∃ k, i = xs.length + k := ⟨i - xs.length, by omega⟩
    rw [List.getElem?_append_right (by omega), Nat.add_sub_cancel_left] at hx
    rw [List.getElem?_append_right (by omega), hfl, Nat.add_sub_cancel_left] at hf
    have hk : k < ys.length := (List.getElem?_eq_some_iff.1 hx).1
    rw [chunk_r hlo, chunk_l hl hk]
    exact h2 k x f hx hf

theorem box_cello {b T o : Nat} {cs : List Value} (h : Box w b T cs) (j : Nat) (v : Value) (hj : cs[o + j]? = some v) : w.cell? ((⟨b, o, none⟩ : Addr).add j) = some v := by
  have := h.cell (o + j) v hj
  rw [Addr.add_lit]
  exact this

theorem run_append {α : Type} [Inhabited α] {sz : Nat} {enc : α → List Dat} {t ty e c cy : Nat} {inf : TypeInfo} {z : Value} {a ay : Option Addr} {xs ys : List α} {fp : List Nat} {gs : List (List Nat)} {news : List Value} (ht : P.underlying t = some (.slice e)) (hi : P.info? e = some inf) (hz : inf.zero = some z)
    (hsz : inf.size = sz) (hzs : z.cells.size = sz) (hpos : 0 < sz) (h : OwV w (.l sz enc xs) (.slice a xs.length c) fp) (hE : AppEl sz enc w ys gs news) (hA : ay = none → news = []) (hB : ∀ a, ay = some a → ∀ j v, news[j]? = some v → w.cell? (a.add j) = some v)
    (hd : ∀ b ∈ gs.flatten, b ∉ fp) (h63 : xs.length + ys.length ≤ 9223372036854775807) (hby : (xs.length + ys.length) * inf.bytes ≤ 140737488355328) :
    ∃ a' c' fp' w', (Builtin.append_ #[t, t] ty #[.slice a xs.length c, .slice ay ys.length cy]).run P w = .ok (.slice a' (xs ++ ys).length c') w' ∧ OwV w' (.l sz enc (xs ++ ys)) (.slice a' (xs ++ ys).length c') fp' ∧ Chg (· ∈ fp) w w' ∧ (∀ b ∈ fp', b ∈ fp ∨ b ∈ gs.flatten ∨ w.heap.size ≤ b) := by
  have hlapp : (xs ++ ys).length = xs.length + ys.length := List.length_append
  have hnl : news.length = ys.length * inf.size := by rw [hE.len, hsz]
  have hgcap := grownCap_ge w (xs.length + ys.length) c e
  have glt : ∀ b ∈ gs.flatten, b < w.heap.size := by
    intro b hb
    obtain ⟨g, hg, hbg⟩ := List.mem_flatten.1 hb
    obtain ⟨k, hk, rfl⟩ := List.getElem_of_mem hg
    exact OwVs.lt _ _ _ (hE.el k _ _ (List.getElem?_eq_getElem (by rw [← hE.gl]; exact hk)) (List.getElem?_eq_getElem hk)).2 b hbg
  have hgrow : ∀ (olds : List Value) (fps : List (List Nat)), olds.length = xs.length * sz → (a = none → olds = []) → (∀ ad, a = some ad → ∀ j v, olds[j]? = some v → w.cell? (ad.add j) = some v) → fps.length = xs.length →
      (∀ (i : Nat) (x : α) (f : List Nat), xs[i]? = some x → fps[i]? = some f → ((olds.drop (i * sz)).take sz).length = sz ∧ OwVs w (enc x) ((olds.drop (i * sz)).take sz) f) → fps.flatten.Nodup → (∀ b ∈ fps.flatten, b ∈ fp) → c < xs.length + ys.length →
      ∃ a' c' fp' w', (Builtin.append_ #[t, t] ty #[.slice a xs.length c, .slice ay ys.length cy]).run P w = .ok (.slice a' (xs ++ ys).length c') w' ∧ OwV w' (.l sz enc (xs ++ ys)) (.slice a' (xs ++ ys).length c') fp' ∧ Chg (· ∈ fp) w w' ∧ (∀ b ∈ fp', b ∈ fp ∨ b ∈ gs.flatten ∨ w.heap.size ≤ b) := by
    intro olds fps hlo hC hD hfl h1 hnd hsub hg
    have hr := run_app_grow (P := P) (w := w) (ty := ty) (cy := cy) ht hi hz (by rw [hlo, hsz]) hC hD hnl hA hB hg h63 hby
    have hbel : Bel w.heap.size w (w.drew.alloc (.cells (olds.toArray ++ news.toArray ++ Builtin.zeroCells z.cells (grownCap w (xs.length + ys.length) c e - (xs.length + ys.length))) e)) := ⟨⟨rfl, rfl, rfl, (by show w.heap.size ≤ (w.heap.push _).size; simp), fun k hk => (by show (w.heap.push _)[k]? = w.heap[k]?; simp [Array.getElem?_push, Nat.ne_of_lt hk])⟩, Nat.le_succ _⟩
    have flt : ∀ b ∈ fps.flatten, b < w.heap.size := fun b hb => OwV.lt _ _ _ h b (hsub b hb)
    have hzl : (Builtin.zeroCells z.cells (grownCap w (xs.length + ys.length) c e - (xs.length + ys.length))).toList.length = (grownCap w (xs.length + ys.length) c e - (xs.length + ys.length)) * sz := by
      simp [Builtin.zeroCells, hzs]
    rw [← hlapp] at hr
    refine ⟨_, _, w.heap.size :: (fps ++ gs).flatten, _, hr, own_parts (T := e) (pre := []) (olds := olds) (news := news) (rest := (Builtin.zeroCells z.cells (grownCap w (xs.length + ys.length) c e - (xs.length + ys.length))).toList) ?_ rfl rfl hlo hE.len ?_ (by rw [hlapp]; exact hgcap) (by rw [hlapp]; exact h63) hfl hE.gl ?_ ?_ ?_, Chg.of_below (by rw [hlapp]; exact hbel), ?_⟩
    · show (w.heap.push _)[w.heap.size]? = _
      rw [Array.getElem?_push_size]
      rw [hlapp]
      congr 2
      apply Array.ext'
      simp [List.append_assoc]
    · simp only [List.length_append, hlo, hE.len, hzl, ← Nat.add_mul]
      congr 1; omega
    · intro i x f hx hf
      obtain ⟨k1, k2⟩ := h1 i x f hx hf
      exact ⟨k1, OwVs.keep _ _ _ (fun b hb => by rw [hlapp]; exact hbel.block b (OwVs.lt _ _ _ k2 b hb)) k2⟩
    · intro i y g hy hg'
      obtain ⟨k1, k2⟩ := hE.el i y g hy hg'
      exact ⟨k1, OwVs.keep _ _ _ (fun b hb => by rw [hlapp]; exact hbel.block b (OwVs.lt _ _ _ k2 b hb)) k2⟩
    · rw [List.flatten_append]
      refine List.nodup_cons.2 ⟨fun hm => ?_, List.nodup_append.2 ⟨hnd, hE.nd, fun b hb b' hb' e => hd b' hb' (e ▸ hsub b hb)⟩⟩
      rcases List.mem_append.1 hm with hm | hm
      · exact Nat.lt_irrefl _ (flt _ hm)
      · exact Nat.lt_irrefl _ (glt _ hm)
    · intro b hb
      rcases List.mem_cons.1 hb with rfl | hb
      · exact .inr (.inr (Nat.le_refl _))
      · rw [List.flatten_append] at hb
        rcases List.mem_append.1 hb with hb | hb
        · exact .inl (hsub b hb)
        · exact .inr (.inl hb)
  have h0 := h
  obtain ⟨a1, c1, e1, hle, hl63, h4⟩ := h
  simp only [Value.slice.injEq, true_and] at e1
  obtain ⟨rfl, rfl⟩ := e1
  rcases h4 with ⟨rfl, rfl, rfl⟩ | ⟨b, o, T, cells, fps, rfl, hb, hcl, hfl, hel, rfl, hnd⟩
  · by_cases hm : ys = []
    · subst hm
      have hnews : news = [] := List.eq_nil_of_length_eq_zero (by simpa using hE.len)
      subst hnews
      have hf := firstCells_ok (P := P) (w := w) (size := inf.size) (m := 0) (c := cy) (ay := ay) (news := []) (by simp) (fun _ => rfl) (fun _ _ j v hj => by simp at hj)
      refine ⟨a, 0, [], w, ?_, ⟨a, 0, rfl, by simp, by simp, .inl ⟨rfl, rfl, rfl⟩⟩, Chg.of_below (Bel.refl _ _), fun b hb => by cases hb⟩
      cases a <;> simp [Builtin.append_, run_underlying ht, sizeOf, typeInfo, hi, Builtin.lenOf, hf, storeCells]
    · have : 0 < ys.length := List.length_pos_iff.2 hm
      exact hgrow [] [] (by simp) (fun _ => rfl) (fun _ _ j v hj => by simp at hj) rfl (fun i x f hx => by simp at hx) (by simp) (fun b hb => by simp at hb) (by simpa using this)
  · by_cases hroom : xs.length + ys.length ≤ c
    · have hr := run_app_room (P := P) (w := w) (ty := ty) (cy := cy) ht hi hb (by rw [hcl, hsz]) hnl hA hB hE.one hroom
      rw [hsz, ← hlapp] at hr
      obtain ⟨hbn, hfn⟩ := List.nodup_cons.1 hnd
      by_cases hm : news = []
      · have hys : ys = [] := by
          have := hE.len; rw [hm] at this
          rcases Nat.mul_eq_zero.1 this.symm with h | h
          · exact List.eq_nil_of_length_eq_zero h
          · omega
        rw [if_pos hm] at hr
        refine ⟨_, _, _, w, hr, ?_, Chg.of_below (Bel.refl _ _), fun b' hb' => .inl hb'⟩
        subst hys
        rw [List.append_nil]
        exact h0
      · rw [if_neg hm] at hr
        have hchg : Chg (· = b) w (setBlk w b (.cells (splice cells (o + xs.length * sz) news).toArray T (0, 0))) := setBlk_chg _ _ _
        have hfit : o + xs.length * sz ≤ cells.length := by rw [hcl]; exact Nat.add_le_add_left (Nat.mul_le_mul_right _ hle) _
        have hfit2 : o + xs.length * sz + news.length ≤ cells.length := by rw [hcl, hE.len, Nat.add_assoc, ← Nat.add_mul]; exact Nat.add_le_add_left (Nat.mul_le_mul_right _ hroom) _
        have hcells : splice cells (o + xs.length * sz) news = cells.take o ++ ((cells.drop o).take (xs.length * sz) ++ (news ++ cells.drop (o + xs.length * sz + news.length))) := by
          unfold splice
          rw [List.take_add]
          simp [List.append_assoc]
        have hkeep : ∀ b', b' < w.heap.size → ¬ b' = b → (setBlk w b (.cells (splice cells (o + xs.length * sz) news).toArray T (0, 0))).heap[b']? = w.heap[b']? := fun b' h1 h2 => hchg.block b' h1 h2
        refine ⟨_, _, b :: (fps ++ gs).flatten, _, hr, own_parts (T := T) (pre := cells.take o) (olds := (cells.drop o).take (xs.length * sz)) (news := news) (rest := cells.drop (o + xs.length * sz + news.length)) ?_ (by simp; omega) rfl (by simp; omega) hE.len ?_ (by rw [hlapp]; exact hroom) (by rw [hlapp]; exact h63) hfl hE.gl ?_ ?_ ?_, ⟨hchg.os, hchg.tape, hchg.output, hchg.size, fun k hk hn => hchg.block k hk fun e => hn (e ▸ List.mem_cons_self), hchg.drawn⟩, ?_⟩
        · have := setBlk_box hb.lt T (splice cells (o + xs.length * sz) news)
          conv at this => rhs; rw [hcells]
          exact this
        · simp only [List.length_append, List.length_take, List.length_drop]; omega
        · intro i x f hx hf
          have hi' : i < xs.length := (List.getElem?_eq_some_iff.1 hx).1
          obtain ⟨k1, k2⟩ := hel i x f hx hf
          have he : (((cells.drop o).take (xs.length * sz)).drop (i * sz)).take sz = (cells.drop (o + i * sz)).take sz := by
            have h2 : i * sz + sz ≤ xs.length * sz := by
              calc i * sz + sz = (i + 1) * sz := by rw [Nat.succ_mul]
                _ ≤ xs.length * sz := Nat.mul_le_mul_right _ hi'
            rw [List.drop_take, List.take_take, Nat.min_eq_left (by omega), List.drop_drop]
          rw [he]
          exact ⟨k1, OwVs.keep _ _ _ (fun b' hb' => hkeep b' (OwVs.lt _ _ _ k2 b' hb') fun e => hbn (e ▸ List.mem_flatten.2 ⟨f, List.mem_of_getElem? hf, hb'⟩)) k2⟩
        · intro i y g hy hg'
          obtain ⟨k1, k2⟩ := hE.el i y g hy hg'
          exact ⟨k1, OwVs.keep _ _ _ (fun b' hb' => hkeep b' (OwVs.lt _ _ _ k2 b' hb') fun e => hd b' (List.mem_flatten.2 ⟨g, List.mem_of_getElem? hg', hb'⟩) (e ▸ List.mem_cons_self)) k2⟩
        · rw [List.flatten_append]
          refine List.nodup_cons.2 ⟨fun hm => ?_, List.nodup_append.2 ⟨hfn, hE.nd, fun b' hb' b2 hb2 e => hd b2 hb2 (e ▸ List.mem_cons_of_mem _ hb')⟩⟩
          rcases List.mem_append.1 hm with hm | hm
          · exact hbn hm
          · exact hd b hm List.mem_cons_self
        · intro b' hb'
          rcases List.mem_cons.1 hb' with rfl | hb'
          · exact .inl List.mem_cons_self
          · rw [List.flatten_append] at hb'
            rcases List.mem_append.1 hb' with hb' | hb'
            · exact .inl (List.mem_cons_of_mem _ hb')
            · exact .inr (.inl hb')
    · have hcl2 : (cells.drop o).length = c * sz := by simp; omega
      have htl : ((cells.drop o).take (xs.length * sz)).length = xs.length * sz := by rw [List.length_take, hcl2]; exact Nat.min_eq_left (Nat.mul_le_mul_right _ hle)
      refine hgrow ((cells.drop o).take (xs.length * sz)) fps htl (fun h => by cases h) ?_ hfl ?_ (List.nodup_cons.1 hnd).2 (fun b' hb' => List.mem_cons_of_mem _ hb') (by omega)
      · intro ad had j v hj
        obtain rfl := Option.some.inj had
        refine box_cello hb j v ?_
        rw [List.getElem?_take] at hj
        split at hj
        · rwa [List.getElem?_drop] at hj
        · cases hj
      · intro i x f hx hf
        have hi' : i < xs.length := (List.getElem?_eq_some_iff.1 hx).1
        obtain ⟨k1, k2⟩ := hel i x f hx hf
        have he : (((cells.drop o).take (xs.length * sz)).drop (i * sz)).take sz = (cells.drop (o + i * sz)).take sz := by
          have h2 : i * sz + sz ≤ xs.length * sz := by
            calc i * sz + sz = (i + 1) * sz := by rw [Nat.succ_mul]
              _ ≤ xs.length * sz := Nat.mul_le_mul_right _ hi'
          rw [List.drop_take, List.take_take, Nat.min_eq_left (by omega), List.drop_drop]
        rw [he]
        exact ⟨k1, k2⟩
end

section
variable {P : Program} {fs fsA : Nat → Option Fact} {β : Nat → Nat → Value} {φ : Nat → List Nat} {dom ψ IN : Nat → Prop} {w0 w w' : World} {base : Nat}

/-- rows of cells behind a list -/
def AppA (d : Dat) (n sz : Nat) (ds : List Dat) (d' : Dat) : Prop :=
  ∃ (α : Type) (_ : Inhabited α) (enc : α → List Dat) (xs ys : List α), Imp d (.l sz enc xs) ∧ d' = .l sz enc (xs ++ ys) ∧ ys.length = n ∧ Imps ds (ys.map enc).flatten ∧ ∀ y ∈ ys, (enc y).length = sz
theorem AppA.mk {α : Type} [Inhabited α] {d : Dat} {n sz : Nat} {ds : List Dat} (enc : α → List Dat) (xs ys : List α) (h : Imp d (.l sz enc xs)) (hn : ys.length = n) (hc : Imps ds (ys.map enc).flatten) (hl : ∀ y, (enc y).length = sz) : AppA d n sz ds (.l sz enc (xs ++ ys)) :=
  ⟨α, inferInstance, enc, xs, ys, h, rfl, hn, hc, fun y _ => hl y⟩
/-- a list behind a list: elements without memory of their own -/
def AppL (d d1 : Dat) (sz : Nat) (d' : Dat) : Prop :=
  ∃ (α : Type) (_ : Inhabited α) (enc : α → List Dat) (xs ys : List α), Imp d (.l sz enc xs) ∧ Imp d1 (.l sz enc ys) ∧ d' = .l sz enc (xs ++ ys) ∧ ∀ y, (enc y).length = sz ∧ ∀ e ∈ enc y, ∃ v, e = .v v
theorem AppL.mk {α : Type} [Inhabited α] {d d1 : Dat} {sz : Nat} (enc : α → List Dat) (xs ys : List α) (h : Imp d (.l sz enc xs)) (h1 : Imp d1 (.l sz enc ys)) (hl : ∀ y, (enc y).length = sz ∧ ∀ e ∈ enc y, ∃ v, e = .v v) : AppL d d1 sz (.l sz enc (xs ++ ys)) :=
  ⟨α, inferInstance, enc, xs, ys, h, h1, rfl, hl⟩

def dstOf (fs : Nat → Option Fact) : AV → Option (Dat × List Nat)
  | .v x => bif x.oneCell' then some (.v x, []) else none
  | .h X 0 => match fs X with
    | some (.own _ d) => some (d, [X])
    | _ => none
  | _ => none

def arrOf (fs : Nat → Option Fact) : AV → Option (Nat × Nat × List AV)
  | .h Y 0 => match fs Y with
    | some (.arr n cs) => some (Y, n, cs)
    | _ => none
  | _ => none

def eApp (P : Program) (fs : Nat → Option Fact) (base : Nat) (t : TypeId) (x y : AV) (d' : Dat) : Option OpR :=
  match dstOf fs x, (tElem P t).bind P.info? with
  | some (d, xid), some inf => bif Nat.ble 1 inf.size && Nat.ble 1 inf.bytes && (match inf.zero with | some z => Nat.beq z.cells.size inf.size | none => false) then
      (match arrOf fs y with
        | some (Y, n, cs) => (match ownDats fs cs with
          | some (ds, ids) => bif ids.any (fun i => xid.any (Nat.beq i)) then none else
              some ⟨[AppA d n inf.size ds d', d'.len * inf.bytes ≤ 140737488355328], .h base 0, (base, some (.own base d')) :: (xid ++ (Y :: ids)).map fun i => (i, none)⟩
          | none => none)
        | none => (match datOf fs y with
          | some (d1, _) => some ⟨[AppL d d1 inf.size d', d'.len * inf.bytes ≤ 140737488355328], .h base 0, (base, some (.own base d')) :: xid.map fun i => (i, none)⟩
          | none => none))
      else none
  | _, _ => none

theorem RdVs.isflat {S : Nat → Prop} {ds : List Dat} {vs : List Value} (h : RdVs S w ds vs) (hf : ∀ e ∈ ds, ∃ v, e = Dat.v v) : OwVs w ds vs [] := by
  induction ds generalizing vs with
  | nil => exact ⟨h, rfl⟩
  | cons d ds ih =>
    obtain ⟨u, us, rfl, h1, h2⟩ := h
    obtain ⟨v, rfl⟩ := hf d List.mem_cons_self
    exact ⟨u, us, [], [], rfl, ⟨h1.1, h1.2, rfl⟩, ih h2 fun e he => hf e (List.mem_cons_of_mem _ he), rfl, List.nodup_nil⟩

/-- the cells of a list of elements without memory of their own -/
theorem RdV.cells {S : Nat → Prop} {α : Type} [Inhabited α] {sz : Nat} {enc : α → List Dat} {ys : List α} {v : Value} (hp : 0 < sz) (h : RdV S w (.l sz enc ys) v) (hf : ∀ y, (enc y).length = sz ∧ ∀ e ∈ enc y, ∃ v, e = Dat.v v) :
    ∃ (ay : Option Addr) (cy : Nat) (news : List Value), v = .slice ay ys.length cy ∧ (ay = none → news = []) ∧ (∀ ad, ay = some ad → ∀ j v, news[j]? = some v → w.cell? (ad.add j) = some v) ∧ AppEl sz enc w ys (List.replicate ys.length []) news := by
  obtain ⟨a, c, rfl, h1, h2, h3⟩ := h
  have key : ∀ i : Fin ys.length, ∃ cs : List Value, cs.length = sz ∧ Has w (ab a) (ao a + i.1 * sz) cs ∧ RdVs S w (enc ys[i.1]) cs := by
    intro i
    obtain ⟨_, _, cs, h1, h2, h3⟩ := h3 i.1 ys[i.1] (List.getElem?_eq_getElem i.2)
    exact ⟨cs, h1, h2, h3⟩
  let pick : Fin ys.length → List Value := fun i => Classical.choose (key i)
  have hpick : ∀ i, (pick i).length = sz ∧ Has w (ab a) (ao a + i.1 * sz) (pick i) ∧ RdVs S w (enc ys[i.1]) (pick i) := fun i => Classical.choose_spec (key i)
  have hall : ∀ x ∈ List.ofFn pick, x.length = sz := by
    intro x hx
    obtain ⟨i, rfl⟩ := List.mem_ofFn.1 hx
    exact (hpick i).1
  have hlen : (List.ofFn pick).flatten.length = ys.length * sz := by
    rw [List.length_flatten]
    have : (List.ofFn pick).map List.length = List.replicate ys.length sz := by
      refine List.ext_getElem (by simp) fun i h1 h2 => ?_
      simp only [List.getElem_map, List.getElem_ofFn, List.getElem_replicate]
      exact (hpick _).1
    rw [this, List.sum_replicate_nat]
  have hch : ∀ i (hi : i < ys.length), ((List.ofFn pick).flatten.drop (i * sz)).take sz = pick ⟨i, hi⟩ := by
    intro i hi
    exact flat_chunk _ i _ hall (by simp [hi])
  refine ⟨a, c, (List.ofFn pick).flatten, rfl, fun ha => ?_, fun ad had j v hj => ?_, ⟨hlen, by simp, fun i y g hy hg => ?_, ?_, ?_⟩⟩
  · refine List.eq_nil_of_length_eq_zero ?_
    rw [hlen]
    have : ys.length = 0 := by
      rcases Nat.eq_zero_or_pos ys.length with h0 | h0
      · exact h0
      · have := (h3 0 ys[0] (List.getElem?_eq_getElem h0)).1
        rw [ha] at this; cases this
    rw [this, Nat.zero_mul]
  · have hj' : j < ys.length * sz := by rw [← hlen]; exact (List.getElem?_eq_some_iff.1 hj).1
    have hi : j / sz < ys.length := Nat.div_lt_of_lt_mul (by rw [Nat.mul_comm]; exact hj')
    have hm : j % sz < sz := Nat.mod_lt _ hp
    have he : j / sz * sz + j % sz = j := by rw [Nat.mul_comm]; exact Nat.div_add_mod j sz
    have hc := hch (j / sz) hi
    have hv : (pick ⟨j / sz, hi⟩)[j % sz]? = some v := by
      rw [← hc]
      rw [List.getElem?_take, if_pos hm, List.getElem?_drop, he]; exact hj
    have h2 := (hpick ⟨j / sz, hi⟩).2.1 _ _ hv
    have h1 := (h3 (j / sz) ys[j / sz] (List.getElem?_eq_getElem hi)).1
    have e := Option.some.inj (had.symm.trans h1)
    rw [e, Addr.add_lit]
    rw [Nat.add_assoc] at h2
    simp only [he] at h2
    exact h2
  · have hi : i < ys.length := (List.getElem?_eq_some_iff.1 hy).1
    obtain rfl : g = [] := List.eq_of_mem_replicate (List.mem_of_getElem? hg)
    rw [hch i hi]
    have e := (List.getElem?_eq_some_iff.1 hy).2
    rw [← e]
    exact ⟨(hpick ⟨i, hi⟩).1, RdVs.isflat (hpick ⟨i, hi⟩).2.2 (hf _).2⟩
  · have : (List.replicate ys.length ([] : List Nat)).flatten = [] := by simp
    rw [this]; exact List.nodup_nil
  · rw [List.all_flatten, List.all_eq_true]
    intro x hx
    obtain ⟨i, rfl⟩ := List.mem_ofFn.1 hx
    exact (hpick i).2.2.one

theorem eApp_ok (R : Rel P fsA β φ dom ψ IN w0 w) (hb : ∀ id, base ≤ id → id < base + stride → ¬ dom id) (hsub : ∀ id f, fs id = some f → fsA id = some f) {t ty : TypeId} {x y : AV} {d' : Dat} {r : OpR} (h : eApp P fs base t x y d' = some r) (hv : AllP r.vcs) :
    Snd P fsA base r β φ dom ψ IN w0 ((do pure (Next.value (← Builtin.append_ #[t, t] ty #[val β x, val β y])) : Sem Next).run P w) := by
  have hnb : ¬ dom base := hb base (Nat.le_refl _) (by unfold stride; omega)
  unfold eApp at h
  split at h
  · rename_i d xid inf hx hinf
    cases hcc : (Nat.ble 1 inf.size && Nat.ble 1 inf.bytes && (match inf.zero with | some z => Nat.beq z.cells.size inf.size | none => false)) with
    | false => rw [hcc] at h; cases h
    | true =>
      rw [hcc] at h
      simp only [cond_true] at h
      simp only [Bool.and_eq_true] at hcc
      obtain ⟨⟨c1, c2⟩, c3⟩ := hcc
      have c1 := Nat.le_of_ble_eq_true c1
      have c2 := Nat.le_of_ble_eq_true c2
      obtain ⟨z, hz, hzs⟩ : ∃ z, inf.zero = some z ∧ z.cells.size = inf.size := by
        split at c3
        · rename_i z e; exact ⟨z, e, Nat.eq_of_beq_eq_true c3⟩
        · cases c3
      obtain ⟨U, hU, hinf⟩ := Option.bind_eq_some_iff.1 hinf
      -- what is appended to
      obtain ⟨fx, hox, hfx, hxm⟩ : ∃ fx, OwV w d (val β x) fx ∧ (∀ b, b ∈ fx → ∃ i ∈ xid, b ∈ φ i) ∧ ∀ i ∈ xid, ∃ V d, fsA i = some (.own V d) := by
        cases x with
        | v x =>
          simp only [dstOf] at hx
          cases hxo : x.oneCell' with
          | false => rw [hxo] at hx; cases hx
          | true =>
            simp only [hxo, cond_true, Option.some.injEq, Prod.mk.injEq] at hx
            obtain ⟨rfl, rfl⟩ := hx
            exact ⟨[], ⟨rfl, hxo, rfl⟩, fun b hb => by (cases hb), fun i hi => by cases hi⟩
        | h X j =>
          cases j with
          | succ j => simp [dstOf] at hx
          | zero =>
            simp only [dstOf] at hx
            split at hx
            · rename_i V d0 hX
              simp only [Option.some.injEq, Prod.mk.injEq] at hx
              obtain ⟨rfl, rfl⟩ := hx
              obtain ⟨_, _, ho⟩ := R.ok X _ (hsub _ _ hX)
              exact ⟨φ X, ho, fun b hb => ⟨X, List.mem_cons_self, hb⟩, fun i hi => by
                simp only [List.mem_singleton] at hi; subst hi; exact ⟨V, _, hsub _ _ hX⟩⟩
            · cases hx
        | _ => simp [dstOf] at hx
      have hfin : ∀ {α : Type} [Inhabited α] (enc : α → List Dat) (xs ys : List α) (ids : List Nat) (gs : List (List Nat)) (ay : Option Addr) (cy : Nat) (news : List Value), Imp d (.l inf.size enc xs) → val β y = .slice ay ys.length cy → (ay = none → news = []) →
          (∀ ad, ay = some ad → ∀ j v, news[j]? = some v → w.cell? (ad.add j) = some v) → AppEl inf.size enc w ys gs news → (∀ b ∈ gs.flatten, ∃ i ∈ ids, b ∈ φ i) → (∀ i ∈ ids, ∃ g, fsA i = some g ∧ g.mod = true) → (∀ b ∈ gs.flatten, b ∉ fx) → (xs ++ ys).length * inf.bytes ≤ 140737488355328 →
          ∀ vcs, Snd P fsA base ⟨vcs, .h base 0, (base, some (.own base (.l inf.size enc (xs ++ ys)))) :: (xid ++ ids).map fun i => (i, none)⟩ β φ dom ψ IN w0 ((do pure (Next.value (← Builtin.append_ #[t, t] ty #[val β x, val β y])) : Sem Next).run P w) := by
        intro α _ enc xs ys ids gs ay cy news hi hy hA hB hE hgs hids hd hby vcs
        obtain hox' := hi.ow _ _ _ hox
        obtain ⟨a, c, e1, e2, e3, e4⟩ := hox'
        have hlapp : (xs ++ ys).length = xs.length + ys.length := List.length_append
        have hlim : xs.length + ys.length ≤ 140737488355328 := by
          rw [← hlapp]
          exact Nat.le_trans (Nat.le_mul_of_pos_right _ c2) hby
        obtain ⟨a', c', fp', w', hrun, ho, hch, hf⟩ := run_append (P := P) (ty := ty) (cy := cy) (tElem_ok hU) hinf hz rfl hzs c1 (⟨a, c, rfl, e2, e3, e4⟩ : OwV w (.l inf.size enc xs) (.slice a xs.length c) fx) hE hA hB hd (by omega) (by rw [← hlapp]; exact hby)
        refine Snd.newC (ids := xid ++ ids) R hb (.own base (.l inf.size enc (xs ++ ys))) (fun _ => .slice a' (xs ++ ys).length c') fp' (fun i hi => ?_) (hch.mono fun b _ hb => ?_) (fun _ => rfl) ⟨.inr rfl, ?_⟩ (fun V d e => by cases e; exact hnb) (fun _ b hbb => ?_) (.inr rfl) ?_
        · rcases List.mem_append.1 hi with hi | hi
          · obtain ⟨V, d, hd⟩ := hxm i hi
            exact ⟨_, hd, rfl⟩
          · exact hids i hi
        · obtain ⟨i, h1, h2⟩ := hfx b hb
          exact ⟨i, List.mem_append_left _ h1, h2⟩
        · rw [up_self, up_self]; exact ho
        · refine ⟨OwV.lt _ _ _ ho b hbb, ?_⟩
          rcases hf b hbb with h | h | h
          · obtain ⟨i, h1, h2⟩ := hfx b h
            exact .inr ⟨i, List.mem_append_left _ h1, h2⟩
          · obtain ⟨i, h1, h2⟩ := hgs b h
            exact .inr ⟨i, List.mem_append_right _ h1, h2⟩
          · exact .inl h
        · rw [e1, hy]
          simp only [Sem.run_bind, hrun, Result.andThen_ok, Sem.run_pure, val, up_self]
      split at h
      · -- rows of cells
        rename_i Y n cs hY
        split at h
        · rename_i ds ids hds
          cases hany : ids.any (fun i => xid.any (Nat.beq i)) with
          | true => rw [hany] at h; cases h
          | false =>
            rw [hany] at h
            cases h
            obtain ⟨⟨α, inst, enc, xs, ys, hi, rfl, hn, hfl, hel⟩, hby, _⟩ := hv
            obtain ⟨fv, k1, k2, k3, k4, k5, k6⟩ := ownDats_ok R hsub hds
            obtain ⟨Y', rfl, hYf⟩ : ∃ Y', y = .h Y' 0 ∧ fs Y' = some (.arr n cs) ∧ Y' = Y := by
              cases y with
              | h Y' j =>
                cases j with
                | succ j => simp [arrOf] at hY
                | zero =>
                  simp only [arrOf] at hY
                  split at hY
                  · rename_i n' cs' e
                    simp only [Option.some.injEq, Prod.mk.injEq] at hY
                    obtain ⟨rfl, rfl, rfl⟩ := hY
                    exact ⟨Y', rfl, e, rfl⟩
                  · cases hY
              | _ => simp [arrOf] at hY
            obtain ⟨hYf, rfl⟩ := hYf
            obtain ⟨hdY, ⟨g0, g0'⟩, b, T, g1, g2, g3⟩ := R.ok Y' _ (hsub _ _ hYf)
            have k1' := k1
            replace k1' := hfl.ow k1'
            obtain ⟨gs, s1, s2, s3, s4⟩ := k1'.split hel
            subst hn
            have hni : ∀ i ∈ ids, i ∉ xid := fun i hi hx' => by
              have : ids.any (fun i => xid.any (Nat.beq i)) = true := List.any_eq_true.2 ⟨i, hi, List.any_eq_true.2 ⟨i, hx', by simp⟩⟩
              rw [this] at hany; cases hany
            refine hfin enc xs ys (Y' :: ids) gs (some ⟨b, 0, none⟩) ys.length (vals β cs) hi g1 (fun e => by cases e) (fun ad had j v hj => ?_) ⟨s2, s1, s4, by rw [s3]; exact k1.nd, k1.one⟩ (fun b' hb' => ?_) (fun i hi => ?_) (fun b' hb' hbx => ?_) hby _
            · cases had
              exact box_cello g2 j v (by simpa using hj)
            · rw [s3] at hb'
              obtain ⟨i, h1, h2⟩ := k2 b' hb'
              exact ⟨i, List.mem_cons_of_mem _ h1, h2⟩
            · rcases List.mem_cons.1 hi with rfl | hi
              · exact ⟨_, hsub _ _ hYf, rfl⟩
              · obtain ⟨V, d, hd⟩ := k5 i hi
                exact ⟨_, hd, rfl⟩
            · rw [s3] at hb'
              obtain ⟨i, h1, h2⟩ := k2 b' hb'
              obtain ⟨i', h3, h4⟩ := hfx b' hbx
              obtain ⟨V, d1, hd1⟩ := k5 i h1
              obtain ⟨V', d2, hd2⟩ := hxm i' h3
              exact R.dis i i' _ _ hd1 hd2 rfl rfl (fun e => hni i h1 (e ▸ h3)) b' h2 h4
        · cases h
      · -- a list that is only read
        split at h
        · rename_i d1 dep hdat
          cases h
          obtain ⟨⟨α, inst, enc, xs, ys, hi, hi1, rfl, hel⟩, hby, _⟩ := hv
          obtain ⟨hrd, _, _, _⟩ := datOf_ok R hsub hdat
          obtain ⟨ay, cy, news, e1, e2, e3, e4⟩ := RdV.cells (by omega) (hi1.rd _ _ _ hrd) hel
          have := hfin enc xs ys [] (List.replicate ys.length []) ay cy news hi e1 e2 e3 e4 (fun b hb => ?_) (fun i hi => by cases hi) (fun b hb => ?_) hby [AppL d d1 inf.size (.l inf.size enc (xs ++ ys)), (Dat.l inf.size enc (xs ++ ys)).len * inf.bytes ≤ 140737488355328]
          · rw [List.append_nil] at this; exact this
          · have hr : (List.replicate ys.length ([] : List Nat)).flatten = [] := by simp
            rw [hr] at hb; cases hb
          · have hr : (List.replicate ys.length ([] : List Nat)).flatten = [] := by simp
            rw [hr] at hb; cases hb
        · cases h
  · cases h

end
end Go.Proofs.YtbhjkcicpobmhaaDoor
