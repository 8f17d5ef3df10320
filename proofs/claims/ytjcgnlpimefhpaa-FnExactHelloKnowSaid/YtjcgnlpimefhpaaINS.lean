/- slices.Insert and slices.Delete at a struct of four numbers: hand-proved from the library's text. (Types 49, 51, 3, 4 are the seat's numbers of []HelloEntry, HelloEntry, int, bool.) -/
import Derived.Test.YtjcgnlpimefhpaaRows
import Derived.Test.YtjcgnlpimefhpaaMV
import Derived.WalkKit
namespace Go.Proofs.Ytjcgnlpimefhpaa
open Go.RowKit Go.Shelf Go.Lib
set_option maxRecDepth 100000
set_option linter.unusedVariables false
set_option linter.unusedSimpArgs false
theorem box_shape {w : World} {b T : Nat} {cs : List Value} (h : Box w b T cs) : w.shape? b = some (T, cs.length) := by
  unfold Box at h
  simp [World.shape?, h]
theorem box_frozen {w : World} {b T : Nat} {cs : List Value} (h : Box w b T cs) (o : Nat) : w.frozen? ⟨b, o, none⟩ = false := by
  unfold Box at h
  simp [World.frozen?, h]
theorem box_drew {w : World} {b T : Nat} {cs : List Value} (h : Box w b T cs) : Box w.drew b T cs := h
theorem insMixed : Try.prog.follows .mixedOrders = true := Checked.mixed Try.checked
set_option maxHeartbeats 4000000 in
theorem ins_room {b T c vb Tv cv n m i o vo : Nat} {cells vcells news olds : List Value} {w : World} (hb : Box w b T cells) (hvb : Box w vb Tv vcells) (hne : vb ≠ b)
    (hi : i < n) (hm : 0 < m) (hroom : n + m ≤ c) (h63 : n + m ≤ 9223372036854775807) (hlen : cells.length = o + c * 4)
    (holds : olds.length = (n - i) * 4) (hold : (cells.drop (o + i * 4)).take olds.length = olds) (hnews : news.length = m * 4) (hnew : (vcells.drop vo).take news.length = news)
    (h1o : (olds.all fun v => v.oneCell') = true) (h1n : (news.all fun v => v.oneCell') = true) :
    Calls Try.prog 207 #[.slice (some ⟨b, o, none⟩) n c, .int .i64 i, .slice (some ⟨vb, vo, none⟩) m cv] w fun e w' =>
      e = .returned (.slice (some ⟨b, o, none⟩) (n + m) c) ∧ w' = setBlk (setBlk w.drew b (.cells (splice cells (o + (i + m) * 4) olds).toArray T (0, 0))) b (.cells (splice (splice cells (o + (i + m) * 4) olds) (o + i * 4) news).toArray T (0, 0)) := by
  have hz1 : ¬ ((m : Int) = 0) := by omega
  have hz2 : ¬ ((i : Int) = (n : Int)) := by omega
  have hw1 : IntKind.i64.wrap ((i : Int) + (m : Int)) = (i : Int) + (m : Int) := by rw [IntKind.wrap_i64]; omega
  have hb1 : (0 : Int) ≤ (i : Int) + (m : Int) := by omega
  have hin : i ≤ n := by omega
  have htn : ((i : Int) + (m : Int)).toNat = i + m := by omega
  have hb2 : ¬ (c = i + m) := by omega
  have hb3 : (i : Int) ≤ (n : Int) + (m : Int) := by omega
  have hb4 : ¬ (c = i) := by omega
  have hov : ∀ lb cb, (callFunc 226 #[.slice (some ⟨vb, vo, none⟩) m cv, .slice (some ⟨b, o + (i + m) * 4, none⟩) lb cb]).run Try.prog w = .ok (.value (.bool false)) w := fun lb cb => by
    rw [run_callFunc_extern Try.func226 (by kernel_rfl) (by kernel_rfl) (by kernel_rfl) (e := Extern.SlicesOverlaps.overlaps #[49, 49] #[4]) (by kernel_rfl),
      Lib.run_overlaps_apart w 49 4 51 Try.underlying49 4 Try.sizeOf51 ⟨vb, vo, none⟩ ⟨b, o + (i + m) * 4, none⟩ m cv lb cb hne Tv T _ _ (box_shape hvb) (box_shape hb) (by omega) (box_frozen hvb _) (box_frozen hvb _)]
    rfl
  have hno : olds ≠ [] := fun h => by rw [h] at holds; simp at holds; omega
  have hnn : news ≠ [] := fun h => by rw [h] at hnews; simp at hnews; omega
  have hmin1 : Nat.min (n + m - i) (n + m - (i + m)) = n - i := by simp only [Nat.min_def]; split <;> omega
  have hmin2 : Nat.min m (n + m - i) = m := by simp only [Nat.min_def]; split <;> omega
  have mx := insMixed
  have hcp1 : ∀ ty dc sc, (Builtin.copy_ #[49, 49] ty #[.slice (some ⟨b, o + (i + m) * 4, none⟩) (n + m - (i + m)) dc, .slice (some ⟨b, o + i * 4, none⟩) (n + m - i) sc]).run Try.prog w.drew = .ok (goInt ((n - i : Nat) : Int)) (setBlk w.drew b (.cells (splice cells (o + (i + m) * 4) olds).toArray T (0, 0))) := fun ty dc sc => by
    have h := run_copyK (P := Try.prog) (w := w.drew) (t := 49) (t' := 49) (ty := ty) (el := 51) (dLen := n + m - (i + m)) (dc := dc) (sLen := n + m - i) (sc := sc) (a := ⟨b, o + i * 4, none⟩) (i := Try.t51) (news := olds) Try.underlying49 (by kernel_rfl) (box_drew hb) (o := o + (i + m) * 4)
      (by rw [hmin1, holds]; rfl) hno (fun j v hj => by rw [Addr.add_lit]; exact (box_drew hb).has _ _ hold j v hj) h1o (by rw [holds, hlen]; omega)
    rw [hmin1] at h; exact h
  obtain ⟨C1, hC1⟩ : ∃ C1, C1 = splice cells (o + (i + m) * 4) olds := ⟨_, rfl⟩
  rw [← hC1] at hcp1 ⊢
  have hC1l : C1.length = cells.length := by
    rw [hC1, splice]; simp only [List.length_append, List.length_take, List.length_drop]; omega
  obtain ⟨W1, hW1⟩ : ∃ W1, W1 = setBlk w.drew b (.cells C1.toArray T (0, 0)) := ⟨_, rfl⟩
  rw [← hW1] at hcp1 ⊢
  have hB1 : Box W1 b T C1 := by rw [hW1]; exact setBlk_box (box_drew hb).lt T C1
  have hV1 : Box W1 vb Tv vcells := by rw [hW1]; exact (box_drew hvb).congr ((setBlk_chg _ _ _).block _ (box_drew hvb).lt hne)
  have hcp2 : ∀ ty dc, (Builtin.copy_ #[49, 49] ty #[.slice (some ⟨b, o + i * 4, none⟩) (n + m - i) dc, .slice (some ⟨vb, vo, none⟩) m cv]).run Try.prog W1 = .ok (goInt m) (setBlk W1 b (.cells (splice C1 (o + i * 4) news).toArray T (0, 0))) := fun ty dc => by
    have h := run_copyK (P := Try.prog) (w := W1) (t := 49) (t' := 49) (ty := ty) (el := 51) (dLen := n + m - i) (dc := dc) (sLen := m) (sc := cv) (a := ⟨vb, vo, none⟩) (i := Try.t51) (news := news) Try.underlying49 (by kernel_rfl) hB1 (o := o + i * 4)
      (by rw [hmin2, hnews]; rfl) hnn (fun j v hj => by rw [Addr.add_lit]; exact hV1.has _ _ hnew j v hj) h1n (by rw [hnews, hC1l, hlen]; omega)
    rw [hmin2] at h; exact h
  subst hW1
  subst hC1
  go_enter Try.func207, Try.ntmps207
  go_wp2_with (simp only [hov])
  go_region_law_o (refine step_copy_runI rfl _ _ 49 49 rfl _ _ (by simp [Act.eval, Act.put]) (by simp [Act.eval, Act.put]) (hcp1 _ _ _) ?_)
  go_wp2_with (at_builtin; refine wpList_copy_runI _ rfl _ _ 49 49 rfl _ _ rfl rfl (hcp2 _ _) ?_)
  go_ret
  exact ⟨rfl, rfl⟩
theorem alloc_box {w : World} {T : Nat} (cs : List Value) : Box (w.alloc (.cells cs.toArray T (0, 0))) w.heap.size T cs := by
  show (w.heap.push _)[w.heap.size]? = _
  rw [Array.getElem?_push_size]
set_option maxHeartbeats 4000000 in
theorem ins_grow {b T c vb Tv cv n m i o vo : Nat} {cells vcells news olds1 olds2 : List Value} {w : World} (hb : Box w b T cells) (hvb : Box w vb Tv vcells)
    (hi : i < n) (hm : 0 < m) (hnc : n ≤ c) (hroom : c < n + m) (hbig : (n + m) * 32 ≤ 140737488355328)
    (ho1 : olds1.length = i * 4) (hold1 : (cells.drop o).take olds1.length = olds1) (holds : olds2.length = (n - i) * 4) (hold : (cells.drop (o + i * 4)).take olds2.length = olds2) (hnews : news.length = m * 4) (hnew : (vcells.drop vo).take news.length = news)
    (h1o : (olds2.all fun v => v.oneCell') = true) (h1n : (news.all fun v => v.oneCell') = true) :
    Calls Try.prog 207 #[.slice (some ⟨b, o, none⟩) n c, .int .i64 i, .slice (some ⟨vb, vo, none⟩) m cv] w fun e w' =>
      ∃ (G : Nat) (ROW : List Value), (∃ R : List Value, ROW = olds1 ++ R ∧ R.length = (G - i) * 4) ∧ n + m ≤ G ∧ e = .returned (.slice (some ⟨w.heap.size, 0, none⟩) (n + m) G) ∧
        w' = setBlk (setBlk (w.alloc (.cells ROW.toArray 51 (0, 0))).drew w.heap.size (.cells (splice ROW (i * 4) news).toArray 51 (0, 0))).drew w.heap.size (.cells (splice (splice ROW (i * 4) news) ((i + m) * 4) olds2).toArray 51 (0, 0)) := by
  obtain ⟨G, hG⟩ : ∃ G, G = grownCap w (n + m) c 51 := ⟨_, rfl⟩
  have hGn : n + m ≤ G := by rw [hG]; exact grownCap_ge w _ _ _
  obtain ⟨R, hR⟩ : ∃ R : List Value, R = (Builtin.zeroCells #[Value.int IntKind.i64 0, Value.int IntKind.i64 0, Value.int IntKind.i64 0, Value.int IntKind.i64 0] (n + m - i)).toList ++ (Builtin.zeroCells #[Value.int IntKind.i64 0, Value.int IntKind.i64 0, Value.int IntKind.i64 0, Value.int IntKind.i64 0] (G - (n + m))).toList := ⟨_, rfl⟩
  have hRl : R.length = (G - i) * 4 := by
    rw [hR]; simp [Builtin.zeroCells]; omega
  obtain ⟨ROW, hROW⟩ : ∃ ROW : List Value, ROW = olds1 ++ R := ⟨_, rfl⟩
  have hROWl : ROW.length = G * 4 := by rw [hROW, List.length_append, ho1, hRl]; omega
  have hkk : (n : Int) + (m : Int) - (i : Int) = ((n + m - i : Nat) : Int) := by omega
  have hik : i + (n + m - i) = n + m := by omega
  have hof : (Builtin.firstCells Try.t51.size i (.slice (some ⟨b, o, none⟩) i c)).run Try.prog w.drew = .ok olds1.toArray w.drew :=
    run_firstCells_some w.drew 4 i ⟨b, o, none⟩ i c olds1 ho1 (fun j v hj => by rw [Addr.add_lit]; exact (box_drew hb).has _ _ hold1 j v hj)
  have hrz : ∀ ty, (Builtin.append_ #[49, 3] ty #[.slice (some ⟨b, o, none⟩) i c, .int .i64 ((n : Int) + (m : Int) - (i : Int))]).run Try.prog w =
      .ok (.slice (some ⟨w.heap.size, 0, none⟩) (n + m) G) (w.drew.alloc (.cells ROW.toArray 51 (0, 0))) := fun ty => by
    have h := Lib.run_append_grow_zeros (P := Try.prog) w 49 3 ty 51 Try.t51 (.agg #[Value.int IntKind.i64 0, Value.int IntKind.i64 0, Value.int IntKind.i64 0, Value.int IntKind.i64 0]) .i64 .i64 Try.underlying49 Try.underlying3 (by kernel_rfl) (by kernel_rfl) (some ⟨b, o, none⟩) i c olds1 hof (n + m - i) (by omega) (by show 0 < 4; omega) (by omega) (by omega)
      (by show (n + m - i) * 32 ≤ _; omega) (by rw [hik]; exact growslice_fits hroom hbig)
    rw [hik, ← hG] at h
    rw [hkk, h, hROW, hR]
    congr 3
    apply Array.ext'
    simp [List.append_assoc, Value.cells]
  clear hof hR
  have hno : olds2 ≠ [] := fun h => by rw [h] at holds; simp at holds; omega
  have hnn : news ≠ [] := fun h => by rw [h] at hnews; simp at hnews; omega
  have hmin1 : Nat.min m (n + m - i) = m := by simp only [Nat.min_def]; split <;> omega
  have hmin2 : Nat.min (n - i) (n + m - (i + m)) = n - i := by simp only [Nat.min_def]; split <;> omega
  have hbl := hb.lt
  have hvl := hvb.lt
  obtain ⟨W1, hW1⟩ : ∃ W1, W1 = (w.alloc (.cells ROW.toArray 51 (0, 0))).drew := ⟨_, rfl⟩
  have hB1 : Box W1 w.heap.size 51 ROW := by rw [hW1]; exact alloc_box (w := w) ROW
  have hbel : Bel w.heap.size w W1 := by rw [hW1]; exact ⟨⟨rfl, rfl, rfl, (by show w.heap.size ≤ (w.heap.push _).size; simp), fun k hk => (by show (w.heap.push _)[k]? = w.heap[k]?; simp [Array.getElem?_push, Nat.ne_of_lt hk])⟩, Nat.le_succ _⟩
  have hV1 : Box W1 vb Tv vcells := hvb.congr (hbel.block _ hvl)
  have hO1 : Box W1 b T cells := hb.congr (hbel.block _ hbl)
  have hcpA : ∀ ty dc, (Builtin.copy_ #[49, 49] ty #[.slice (some ⟨w.heap.size, i * 4, none⟩) (n + m - i) dc, .slice (some ⟨vb, vo, none⟩) m cv]).run Try.prog W1 = .ok (goInt (m : Int)) (setBlk W1 w.heap.size (.cells (splice ROW (i * 4) news).toArray 51 (0, 0))) := fun ty dc => by
    have h := run_copyK (P := Try.prog) (w := W1) (t := 49) (t' := 49) (ty := ty) (el := 51) (dLen := n + m - i) (dc := dc) (sLen := m) (sc := cv) (a := ⟨vb, vo, none⟩) (i := Try.t51) (news := news) Try.underlying49 (by kernel_rfl) hB1 (o := i * 4)
      (by rw [hmin1, hnews]; rfl) hnn (fun j v hj => by rw [Addr.add_lit]; exact hV1.has _ _ hnew j v hj) h1n (by rw [hnews, hROWl]; omega)
    rw [hmin1] at h; exact h
  obtain ⟨C2, hC2⟩ : ∃ C2, C2 = splice ROW (i * 4) news := ⟨_, rfl⟩
  have hC2l : C2.length = ROW.length := by
    rw [hC2, splice]; simp only [List.length_append, List.length_take, List.length_drop]; omega
  rw [← hC2] at hcpA
  obtain ⟨W2, hW2⟩ : ∃ W2, W2 = setBlk W1 w.heap.size (.cells C2.toArray 51 (0, 0)) := ⟨_, rfl⟩
  rw [← hW2] at hcpA
  have hB2 : Box W2.drew w.heap.size 51 C2 := by rw [hW2]; exact setBlk_box (w := W1) hB1.lt 51 C2
  have hO2 : Box W2.drew b T cells := by rw [hW2]; exact hO1.congr ((setBlk_chg _ _ _).block _ hO1.lt (Nat.ne_of_lt hbl))
  have hcpB : ∀ ty dc sc, (Builtin.copy_ #[49, 49] ty #[.slice (some ⟨w.heap.size, (i + m) * 4, none⟩) (n + m - (i + m)) dc, .slice (some ⟨b, o + i * 4, none⟩) (n - i) sc]).run Try.prog W2.drew = .ok (goInt ((n - i : Nat) : Int)) (setBlk W2.drew w.heap.size (.cells (splice C2 ((i + m) * 4) olds2).toArray 51 (0, 0))) := fun ty dc sc => by
    have h := run_copyK (P := Try.prog) (w := W2.drew) (t := 49) (t' := 49) (ty := ty) (el := 51) (dLen := n + m - (i + m)) (dc := dc) (sLen := n - i) (sc := sc) (a := ⟨b, o + i * 4, none⟩) (i := Try.t51) (news := olds2) Try.underlying49 (by kernel_rfl) hB2 (o := (i + m) * 4)
      (by rw [hmin2, holds]; rfl) hno (fun j v hj => by rw [Addr.add_lit]; exact hO2.has _ _ hold j v hj) h1o (by rw [holds, hC2l, hROWl]; omega)
    rw [hmin2] at h; exact h
  have hGi : ¬ (G = i) := by omega
  have hGim : ¬ (G = i + m) := by omega
  have hci : ¬ (c = i) := by omega
  have hz1 : ¬ ((m : Int) = 0) := by omega
  have hz2 : ¬ ((i : Int) = (n : Int)) := by omega
  have hz3 : (c : Int) < (n : Int) + (m : Int) := by omega
  have hw1 : IntKind.i64.wrap ((i : Int) + (m : Int)) = (i : Int) + (m : Int) := by rw [IntKind.wrap_i64]; omega
  have hb1 : (0 : Int) ≤ (i : Int) + (m : Int) := by omega
  have hin : i ≤ n := by omega
  have htn : ((i : Int) + (m : Int)).toNat = i + m := by omega
  have hb3 : (i : Int) ≤ (n : Int) := by omega
  have mx := insMixed
  subst hW2
  subst hC2
  subst hW1
  have hfin : ∃ R : List Value, ROW = olds1 ++ R ∧ R.length = (G - i) * 4 := ⟨R, hROW, hRl⟩
  clear hkk hik hG hROW hRl
  go_enter Try.func207, Try.ntmps207
  go_wp2_with (first
    | (at_builtin; refine Lib.wpList_append_run _ rfl _ _ _ _ rfl _ _ rfl rfl _ _ (hrz _) ?_)
    | (at_builtin; refine wpList_copy_runI _ rfl _ _ 49 49 rfl _ _ rfl rfl (hcpA _ _) ?_))
  go_region_law_o (refine step_copy_runI rfl _ _ 49 49 rfl _ _ (by simp [Act.eval, Act.put]) (by simp [Act.eval, Act.put]) (hcpB _ _ _) ?_)
  go_wp2
  go_ret
  exact ⟨G, ROW, hfin, hGn, rfl, rfl⟩
set_option maxHeartbeats 4000000 in
theorem ins_end {a : Option Addr} {n c m cv : Nat} {ay : Option Addr} {rv : Value} {w w2 : World} (hm : 0 < m) (hnc : n ≤ c) (hr : (Builtin.append_ #[49, 49] 49 #[.slice a n c, .slice ay m cv]).run Try.prog w = .ok rv w2) :
    Calls Try.prog 207 #[.slice a n c, .int .i64 n, .slice ay m cv] w fun e w' => e = .returned rv ∧ w' = w2 := by
  have hz1 : ¬ ((m : Int) = 0) := by omega
  have mx := insMixed
  go_enter Try.func207, Try.ntmps207
  go_wp2_with (at_builtin; refine Lib.wpList_append_run _ rfl _ _ _ _ rfl _ _ rfl rfl _ _ hr ?_)
  all_goals (go_ret; exact ⟨rfl, rfl⟩)
theorem splice_mid (L1 M L2 X : List Value) (h : M.length = X.length) : splice (L1 ++ M ++ L2) L1.length X = L1 ++ X ++ L2 := by
  unfold splice
  rw [List.append_assoc L1 M L2, List.take_left, ← List.drop_drop, List.drop_left, ← h, List.drop_left]
theorem splice_shift (A P Q R V : List Value) (hR : V.length ≤ R.length) :
    splice (splice (A ++ P ++ Q ++ R) (A.length + P.length + V.length) Q) (A.length + P.length) V = A ++ P ++ V ++ Q ++ R.drop V.length := by
  have e1 : A ++ P ++ Q ++ R = (A ++ P ++ (Q ++ R).take V.length) ++ ((Q ++ R).drop V.length).take Q.length ++ R.drop V.length := by
    have h1 : ((Q ++ R).drop V.length).drop Q.length = R.drop V.length := by
      rw [List.drop_drop, Nat.add_comm, ← List.drop_drop, List.drop_left]
    rw [List.append_assoc (A ++ P ++ (Q ++ R).take V.length), ← h1, List.take_append_drop]
    simp only [List.append_assoc, List.take_append_drop]
  have l1 : (A ++ P ++ (Q ++ R).take V.length).length = A.length + P.length + V.length := by
    simp only [List.length_append, List.length_take]; omega
  have l2 : (((Q ++ R).drop V.length).take Q.length).length = Q.length := by
    simp only [List.length_append, List.length_take, List.length_drop]; omega
  rw [e1, ← l1, splice_mid _ _ _ _ l2]
  have l3 : ((Q ++ R).take V.length).length = V.length := by simp only [List.length_append, List.length_take]; omega
  have e2 : A ++ P ++ (Q ++ R).take V.length ++ Q ++ R.drop V.length = (A ++ P) ++ (Q ++ R).take V.length ++ (Q ++ R.drop V.length) := by simp only [List.append_assoc]
  have l4 : A.length + P.length = (A ++ P).length := by rw [List.length_append]
  rw [e2, l4, splice_mid _ _ _ _ l3]
  simp only [List.append_assoc]
theorem splice_new (P Q R V : List Value) (hR : V.length + Q.length ≤ R.length) :
    splice (splice (P ++ R) P.length V) (P.length + V.length) Q = P ++ V ++ Q ++ R.drop (V.length + Q.length) := by
  have e1 : P ++ R = P ++ R.take V.length ++ R.drop V.length := by rw [List.append_assoc, List.take_append_drop]
  have l1 : (R.take V.length).length = V.length := by rw [List.length_take]; omega
  rw [e1, splice_mid _ _ _ _ l1]
  have e2 : P ++ V ++ R.drop V.length = (P ++ V) ++ (R.drop V.length).take Q.length ++ R.drop (V.length + Q.length) := by
    rw [← List.drop_drop, List.append_assoc (P ++ V), List.take_append_drop]
  have l2 : ((R.drop V.length).take Q.length).length = Q.length := by rw [List.length_take, List.length_drop]; omega
  have l3 : P.length + V.length = (P ++ V).length := by rw [List.length_append]
  rw [e2, l3, splice_mid _ _ _ _ l2]
theorem Chg.andThen {C : Nat → Prop} {w1 w2 w3 : World} (h : Chg C w1 w2) (k : Chg C w2 w3) : Chg C w1 w3 :=
  ⟨k.os.trans h.os, k.tape.trans h.tape, k.output.trans h.output, Nat.le_trans h.size k.size, fun i hi hn => (k.block i (Nat.lt_of_lt_of_le hi h.size) hn).trans (h.block i hi hn), Nat.le_trans h.drawn k.drawn⟩
theorem Chg.drew1 (C : Nat → Prop) (w : World) : Chg C w w.drew := ⟨rfl, rfl, rfl, Nat.le_refl _, fun _ _ _ => rfl, Nat.le_succ _⟩
theorem insert_ok {α : Type} [Inhabited α] (e : α → List Dat) (he : Plain 4 e) (xs vs : List α) (i : Int) :
    Spec.ok Try.prog 207 ⟨[.ow (.l 4 e xs) none, .r (.c (.v (.int .i64 i))), .ow (.l 4 e vs) none], .ow (.l 4 e (xs.take i.toNat ++ vs ++ xs.drop i.toNat)), 0 ≤ i ∧ i ≤ (xs.length : Int) ∧ 1 ≤ vs.length ∧ xs.length ≤ 1000000000 ∧ vs.length ≤ 1000000000⟩ := by
  intro ⟨h0, h1, hv, hl1, hl2⟩ S w args fp hS hA
  obtain ⟨u, us, f, g, rfl, hO, ⟨u2, us2, f2, g2, rfl, ⟨⟨rfl, _⟩, rfl⟩, ⟨u3, us3, f3, g3, rfl, hV, ⟨rfl, rfl⟩, rfl, _⟩, rfl, _⟩, rfl, hnd⟩ := hA
  obtain ⟨k, rfl⟩ := Int.eq_ofNat_of_zero_le h0
  simp only [List.append_nil, List.nil_append, Int.toNat_natCast] at *
  have hk : k ≤ xs.length := by omega
  have hvn : vs ≠ [] := fun h => by rw [h] at hv; simp at hv
  obtain ⟨vb, Tv, cv, Av, Rv, rfl, rfl, hvb, hvR, hvc, hv63⟩ := own_flat he hV hvn
  have hbeh : ∀ w', BehsOK w' [.ow (.l 4 e xs) none, .r (.c (.v (.int .i64 (k : Int)))), .ow (.l 4 e vs) none] [u, .int .i64 (k : Int), .slice (some ⟨vb, Av.length, none⟩) vs.length cv] [] := fun w' =>
    ⟨_, _, [], [], rfl, rfl, ⟨_, _, [], [], rfl, rfl, ⟨_, _, [], [], rfl, rfl, rfl, rfl⟩, rfl⟩, rfl⟩
  have hnewt : ((Av ++ flat e vs ++ Rv).drop Av.length).take (flat e vs).length = flat e vs := by
    rw [List.append_assoc, List.drop_left, List.take_left]
  have hnl : (flat e vs).length = vs.length * 4 := flat_len he vs
  have hyl : (xs.take k ++ vs ++ xs.drop k).length = xs.length + vs.length := by
    simp only [List.length_append, List.length_take, List.length_drop]; omega
  by_cases hkn : k = xs.length
  · -- at the end
    subst hkn
    have hO' := hO
    obtain ⟨a, c, rfl, hc, h63, _⟩ := hO
    have hE : AppEl 4 e w vs (List.replicate vs.length []) (flat e vs) := ⟨hnl, by simp, fun j y gg hy hg => by
        have : gg = [] := by
          rw [List.getElem?_replicate] at hg
          split at hg
          · cases hg; rfl
          · cases hg
        rw [flat_get he vs j y hy, this]
        exact ⟨he.len y, (ow_plain (he y).2).2 ⟨rfl, rfl⟩⟩, by simp, flat_all he vs⟩
    obtain ⟨a', c', fp', w', hrun, ho, hch, hf⟩ := run_append (P := Try.prog) (w := w) (ty := 49) (cy := cv) (ay := some ⟨vb, Av.length, none⟩) Try.underlying49 (inf := Try.t51) (e := 51) (by kernel_rfl) (z := .agg #[Value.int IntKind.i64 0, Value.int IntKind.i64 0, Value.int IntKind.i64 0, Value.int IntKind.i64 0]) (by kernel_rfl) (sz := 4) (by kernel_rfl) (by kernel_rfl) (by omega) hO' hE (fun h => by cases h) (fun ad had j v hj => by cases had; rw [Addr.add_lit]; exact hvb.has _ _ hnewt j v hj) (fun b hb => by simp at hb) (by omega) (by show (xs.length + vs.length) * 32 ≤ _; omega)
    have hxy : xs.take xs.length ++ vs ++ xs.drop xs.length = xs ++ vs := by simp
    refine (ins_end (by omega) hc hrun).mono fun e' w2 ⟨h1', h2'⟩ => ⟨_, fp', [], h1', ?_, hbeh _, ?_, fun b hb => ?_, ?_⟩
    · rw [h2', hxy]; exact ho
    · obtain ⟨b, T, c2, A, R, _, rfl, _⟩ := own_flat he ho (by simp [hvn])
      simp
    · rw [List.append_nil] at hb
      rw [h2']
      refine ⟨OwV.lt _ _ _ ho b hb, ?_⟩
      rcases hf b hb with h | h | h
      · exact .inl (List.mem_append_left _ h)
      · simp at h
      · exact .inr h
    · rw [h2']; exact hch.mono fun q _ hq => List.mem_append_left _ hq
  · have hlt : k < xs.length := by omega
    have hxn : xs ≠ [] := fun h => by rw [h] at hlt; simp at hlt
    obtain ⟨b, T, c, A, R, rfl, rfl, hb, hR, hc, h63⟩ := own_flat he hO hxn
    have hne : vb ≠ b := fun h => by subst h; simp at hnd
    have hxl : (flat e xs).length = xs.length * 4 := flat_len he xs
    have hsp : flat e xs = flat e (xs.take k) ++ flat e (xs.drop k) := by rw [← flat_app, List.take_append_drop]
    have hpl : (flat e (xs.take k)).length = k * 4 := by rw [flat_len he, List.length_take, Nat.min_eq_left hk]
    have hql : (flat e (xs.drop k)).length = (xs.length - k) * 4 := by rw [flat_len he, List.length_drop]
    have hcl : (A ++ flat e xs ++ R).length = A.length + c * 4 := by
      simp only [List.length_append, hxl, hR]; omega
    have hold : ((A ++ flat e xs ++ R).drop (A.length + k * 4)).take (flat e (xs.drop k)).length = flat e (xs.drop k) := by
      rw [List.append_assoc, ← List.drop_drop, List.drop_left, hsp, List.append_assoc, ← hpl, List.drop_left, List.take_left]
    have hold1 : ((A ++ flat e xs ++ R).drop A.length).take (flat e (xs.take k)).length = flat e (xs.take k) := by
      rw [List.append_assoc, List.drop_left, hsp, List.append_assoc, List.take_left]
    by_cases hroom : xs.length + vs.length ≤ c
    · refine (ins_room hb hvb hne hlt (by omega) hroom (by omega) hcl hql hold hnl hnewt (flat_all he _) (flat_all he _)).mono fun e' w2 ⟨h1', h2'⟩ => ?_
      have hsh : splice (splice (A ++ flat e xs ++ R) (A.length + (k + vs.length) * 4) (flat e (xs.drop k))) (A.length + k * 4) (flat e vs) = A ++ flat e (xs.take k ++ vs ++ xs.drop k) ++ R.drop (vs.length * 4) := by
        have h := splice_shift A (flat e (xs.take k)) (flat e (xs.drop k)) R (flat e vs) (by rw [hnl, hR]; omega)
        rw [hpl, hnl] at h
        have p1 : A.length + (k + vs.length) * 4 = A.length + k * 4 + vs.length * 4 := by omega
        have p2 : A ++ flat e xs ++ R = A ++ flat e (xs.take k) ++ flat e (xs.drop k) ++ R := by rw [hsp]; simp only [List.append_assoc]
        rw [p1, p2, h, flat_app, flat_app]
        simp only [List.append_assoc]
      have hbx : Box w2 b T (A ++ flat e (xs.take k ++ vs ++ xs.drop k) ++ R.drop (vs.length * 4)) := by
        rw [h2', ← hsh]
        exact setBlk_box (w := setBlk w.drew b _) (by show b < (w.heap.setIfInBounds _ _).size; rw [Array.size_setIfInBounds]; exact hb.lt) T _
      have hch : Chg (· = b) w w2 := by
        rw [h2']
        exact (Chg.drew1 _ w).andThen ((setBlk_chg _ _ _).andThen (setBlk_chg _ _ _))
      refine ⟨_, [b], [], h1', ?_, hbeh _, by simp, fun q hq => ?_, hch.mono fun q _ hq => by subst hq; simp⟩
      · have := flat_own he (c := c) hbx (by rw [List.length_drop, hR, hyl]; omega) (by rw [hyl]; exact hroom) (by rw [hyl]; omega)
        rw [hyl] at this
        exact this
      · have : q = b := by simpa using hq
        subst this
        exact ⟨hbx.lt, .inl (by simp)⟩
    · refine (ins_grow hb hvb hlt (by omega) hc (by omega) (by omega) hpl hold1 hql hold hnl hnewt (flat_all he _) (flat_all he _)).mono fun e' w2 ⟨G, ROW, ⟨R2, hROW, hR2⟩, hG, h1', h2'⟩ => ?_
      have hsh : splice (splice ROW (k * 4) (flat e vs)) ((k + vs.length) * 4) (flat e (xs.drop k)) = [] ++ flat e (xs.take k ++ vs ++ xs.drop k) ++ R2.drop (vs.length * 4 + (xs.length - k) * 4) := by
        have h := splice_new (flat e (xs.take k)) (flat e (xs.drop k)) R2 (flat e vs) (by rw [hnl, hql, hR2]; omega)
        rw [hpl, hnl, hql] at h
        have p1 : (k + vs.length) * 4 = k * 4 + vs.length * 4 := by omega
        rw [hROW, p1, h, flat_app, flat_app]
        simp only [List.nil_append, List.append_assoc]
      have hbx : Box w2 w.heap.size 51 ([] ++ flat e (xs.take k ++ vs ++ xs.drop k) ++ R2.drop (vs.length * 4 + (xs.length - k) * 4)) := by
        rw [h2', ← hsh]
        exact setBlk_box (by show w.heap.size < ((w.heap.push _).setIfInBounds _ _).size; rw [Array.size_setIfInBounds, Array.size_push]; omega) 51 _
      have hch : Chg (fun q => w.heap.size ≤ q) w w2 := by
        rw [h2']
        refine Chg.andThen (w2 := (w.alloc (.cells ROW.toArray 51 (0, 0))).drew) ?_ (((setBlk_chg _ _ _).andThen ((Chg.drew1 _ _).andThen (setBlk_chg _ _ _))).mono fun q _ hq => by subst hq; exact Nat.le_refl _)
        exact Chg.of_below ⟨⟨rfl, rfl, rfl, (by show w.heap.size ≤ (w.heap.push _).size; simp), fun k hk => (by show (w.heap.push _)[k]? = w.heap[k]?; simp [Array.getElem?_push, Nat.ne_of_lt hk])⟩, Nat.le_succ _⟩
      refine ⟨_, [w.heap.size], [], h1', ?_, hbeh _, by simp, fun q hq => ?_, hch.mono fun q hq1 hq => absurd hq1 (by omega)⟩
      · have := flat_own he (c := G) (A := []) hbx (by rw [List.length_drop, hR2, hyl]; omega) (by rw [hyl]; exact hG) (by rw [hyl]; omega)
        rw [hyl] at this
        exact this
      · have : q = w.heap.size := by simpa using hq
        subst this
        exact ⟨hbx.lt, .inr (Nat.le_refl _)⟩
/-! ### Delete -/
theorem step_app_runI {P : Program} {ops : Array Oper} {o : Oper} {a : Act} {w : World} {K : Act → World → Prop} {Q : Exit → Act → World → Prop} {E : Prop}
    (hg : o.guard = none) (d x : Operand) (dT sT : TypeId) (hop : o.op = Op.call { callee := Callee.builtin Builtin.append, args := #[d, x], argTypes := #[dT, sT] })
    (v u : Value) (hd : a.eval d = v) (hx : a.eval x = u) {v' : Value} {w' : World} (hr : (Builtin.append_ #[dT, sT] o.type #[v, u]).run P w = .ok v' w') (hK : K (a.put o.dst v') w') :
    if Region.wanted o (yielded ops a.tmps) = true then Oper.wp P o a w K Q else E := by
  have hw : Region.wanted o (yielded ops a.tmps) = true := by simp [Region.wanted, hg]
  rw [if_pos hw]
  unfold Oper.wp
  simp [execOp, hop, resolve, invoke, builtin, hd, hx, hr, Result.andThen]
  exact hK
theorem wp_clear_runI {P : Program} (w : World) {o : Oper} {a : Act} {K : Act → World → Prop} {Q : Exit → Act → World → Prop} (d : Operand) (t : TypeId)
    (ho : o.op = .call { callee := .builtin .clear, args := #[d], argTypes := #[t] }) (v : Value) (hd : a.eval d = v) {v' : Value} {w' : World}
    (hr : (Builtin.clear_ #[t] o.type #[v]).run P w = .ok v' w') (h : K (a.put o.dst v') w') : o.wp P a w K Q := by
  unfold Oper.wp execOp
  simp only [ho, resolve, invoke, builtin, Sem.run_bind, Sem.run_pure, Result.andThen_ok, List.map_toArray, List.map_cons, List.map_nil, hd, hr]
  exact h
theorem wpList_clear_runI {P : Program} (w : World) {ops : Array Oper} {rest : List Oper} {o : Oper} {a : Act} {Q : Exit → Act → World → Prop} (hgd : o.guard = none) (d : Operand) (t : TypeId)
    (ho : o.op = .call { callee := .builtin .clear, args := #[d], argTypes := #[t] }) (v : Value) (hd : a.eval d = v) {v' : Value} {w' : World}
    (hr : (Builtin.clear_ #[t] o.type #[v]).run P w = .ok v' w') (h : wpList P ops Q rest (a.put o.dst v') w') : wpList P ops Q (o :: rest) a w :=
  wpList_plain hgd fun _ hK => wp_clear_runI w d t ho v hd hr (hK _ _ h)
set_option maxHeartbeats 4000000 in
theorem del_walk {b o n c i j : Nat} {A : Option Addr} {w W1 W2 : World} (hij : i < j) (hjn : j ≤ n) (hnc : n ≤ c) (hA : A = if c = j then some ⟨b, o, none⟩ else some ⟨b, o + j * 4, none⟩)
    (hr : ∀ ty, (Builtin.append_ #[49, 49] ty #[.slice (some ⟨b, o, none⟩) i c, .slice A (n - j) (c - j)]).run Try.prog w.drew = .ok (.slice (some ⟨b, o, none⟩) (i + (n - j)) c) W1)
    (hcl : ∀ ty, (Builtin.clear_ #[49] ty #[.slice (some ⟨b, o + (i + (n - j)) * 4, none⟩) (n - (i + (n - j))) (c - (i + (n - j)))]).run Try.prog W1 = .ok (.tuple #[]) W2) :
    Calls Try.prog 208 #[.slice (some ⟨b, o, none⟩) n c, .int .i64 i, .int .i64 j] w fun e w' => e = .returned (.slice (some ⟨b, o, none⟩) (i + (n - j)) c) ∧ w' = W2 := by
  have hne : ¬ i = j := by omega
  have hic : i ≤ c := by omega
  have hjc : j ≤ c := by omega
  have hx : ¬ c = i + (n - j) := by omega
  have hy : i + (n - j) ≤ n := by omega
  have hij' : i ≤ j := by omega
  have hin : i ≤ n := by omega
  have mx := insMixed
  by_cases hcj : c = j
  · rw [if_pos hcj] at hA
    subst hA
    subst hcj
    obtain rfl : c = n := by omega
    simp only [Nat.sub_self, Nat.add_zero] at hr hcl hx hy ⊢
    go_enter Try.func208, Try.ntmps208
    go_wp2
    go_region_law_o (refine step_app_runI rfl (.tmp 22) (.tmp 25) 49 49 rfl (.slice (some ⟨b, o, none⟩) i c) (.slice (some ⟨b, o, none⟩) 0 0) (by simp [Act.eval, Act.put]) (by simp [Act.eval, Act.put]) (hr _) ?_)
    go_wp2_with (at_builtin; refine wpList_clear_runI _ rfl _ 49 rfl _ rfl (hcl _) ?_)
    go_ret
    exact ⟨rfl, rfl⟩
  · rw [if_neg hcj] at hA
    subst hA
    go_enter Try.func208, Try.ntmps208
    go_wp2
    go_region_law_o (refine step_app_runI rfl (.tmp 22) (.tmp 25) 49 49 rfl (.slice (some ⟨b, o, none⟩) i c) (.slice (some ⟨b, o + j * 4, none⟩) (n - j) (c - j)) (by simp [Act.eval, Act.put]) (by simp [Act.eval, Act.put, hcj]) (hr _) ?_)
    go_wp2_with (at_builtin; refine wpList_clear_runI _ rfl _ 49 rfl _ rfl (hcl _) ?_)
    go_ret
    exact ⟨rfl, rfl⟩
theorem del_same {a : Option Addr} {n c i : Nat} {w : World} (hin : i ≤ n) (hnc : n ≤ c) :
    Calls Try.prog 208 #[.slice a n c, .int .i64 i, .int .i64 i] w fun e w' => e = .returned (.slice a n c) ∧ w' = w := by
  have mx := insMixed
  go_enter Try.func208, Try.ntmps208
  go_wp2
  all_goals (go_ret; exact ⟨rfl, rfl⟩)
theorem splice_del (A P M Q R Z : List Value) (hZ : Z.length = M.length) :
    splice (splice (A ++ P ++ M ++ Q ++ R) (A.length + P.length) Q) (A.length + P.length + Q.length) Z = A ++ P ++ Q ++ Z ++ R := by
  have e1 : A ++ P ++ M ++ Q ++ R = (A ++ P) ++ (M ++ Q).take Q.length ++ ((M ++ Q).drop Q.length ++ R) := by
    simp only [List.append_assoc]
    rw [← List.append_assoc ((M ++ Q).take Q.length), List.take_append_drop]
    simp only [List.append_assoc]
  have l0 : A.length + P.length = (A ++ P).length := by rw [List.length_append]
  have l1 : ((M ++ Q).take Q.length).length = Q.length := by rw [List.length_take, List.length_append]; omega
  have l2 : ((M ++ Q).drop Q.length).length = Z.length := by rw [List.length_drop, List.length_append]; omega
  rw [e1, l0, splice_mid _ _ _ _ l1]
  have e2 : A ++ P ++ Q ++ ((M ++ Q).drop Q.length ++ R) = (A ++ P ++ Q) ++ (M ++ Q).drop Q.length ++ R := by simp only [List.append_assoc]
  have l3 : (A ++ P).length + Q.length = (A ++ P ++ Q).length := by simp only [List.length_append]
  rw [e2, l3, splice_mid _ _ _ _ l2]
theorem run_clearK {P : Program} {w : World} {t ty el b o T n c : Nat} {i : TypeInfo} {z : Value} {cells : List Value} (ht : P.underlying t = some (.slice el)) (hi : P.info? el = some i) (hz : i.zero = some z) (hb : Box w b T cells) (hn : 0 < n)
    (h1 : ((Builtin.zeroCells z.cells n).toList.all fun v => v.oneCell') = true) (hne : (Builtin.zeroCells z.cells n).toList ≠ []) (hfit : o + (Builtin.zeroCells z.cells n).toList.length ≤ cells.length) :
    (Builtin.clear_ #[t] ty #[.slice (some ⟨b, o, none⟩) n c]).run P w = .ok (.tuple #[]) (setBlk w b (.cells (splice cells o (Builtin.zeroCells z.cells n).toList).toArray T (0, 0))) := by
  have hst := run_storeCells (P := P) (o := o) (Builtin.zeroCells z.cells n).toList 0 w cells hb (by simpa using hfit) h1
  simp only [Nat.add_zero, if_neg hne] at hst
  cases n with
  | zero => omega
  | succ n => simp [Builtin.clear_, run_underlying ht, zeroValue, typeInfo, hi, hz, hst]
theorem zero_one (n : Nat) : ((Builtin.zeroCells (Value.agg #[Value.int IntKind.i64 0, Value.int IntKind.i64 0, Value.int IntKind.i64 0, Value.int IntKind.i64 0]).cells n).toList.all fun v => v.oneCell') = true := by
  have e : (Value.agg #[Value.int IntKind.i64 0, Value.int IntKind.i64 0, Value.int IntKind.i64 0, Value.int IntKind.i64 0]).cells = #[Value.int IntKind.i64 0, Value.int IntKind.i64 0, Value.int IntKind.i64 0, Value.int IntKind.i64 0] := by simp [Value.cells]
  rw [e]
  refine List.all_eq_true.2 fun v hv => ?_
  simp only [Builtin.zeroCells, Array.mem_toList_iff, Array.mem_map] at hv
  obtain ⟨q, _, rfl⟩ := hv
  have hq : q % 4 < 4 := Nat.mod_lt _ (by omega)
  show (#[Value.int IntKind.i64 0, Value.int IntKind.i64 0, Value.int IntKind.i64 0, Value.int IntKind.i64 0][q % 4]!).oneCell' = true
  generalize q % 4 = r at hq
  match r, hq with
  | 0, _ => rfl
  | 1, _ => rfl
  | 2, _ => rfl
  | 3, _ => rfl
theorem delete_ok {α : Type} [Inhabited α] (e : α → List Dat) (he : Plain 4 e) (xs : List α) (i j : Int) :
    Spec.ok Try.prog 208 ⟨[.ow (.l 4 e xs) none, .r (.c (.v (.int .i64 i))), .r (.c (.v (.int .i64 j)))], .ow (.l 4 e (xs.take i.toNat ++ xs.drop j.toNat)), 0 ≤ i ∧ i ≤ j ∧ j ≤ (xs.length : Int)⟩ := by
  intro ⟨h0, h1, h2⟩ S w args fp hS hA
  obtain ⟨u, us, f, g, rfl, hO, ⟨u2, us2, f2, g2, rfl, ⟨⟨rfl, _⟩, rfl⟩, ⟨u3, us3, f3, g3, rfl, ⟨⟨rfl, _⟩, rfl⟩, ⟨rfl, rfl⟩, rfl, _⟩, rfl, _⟩, rfl, hnd⟩ := hA
  obtain ⟨k, rfl⟩ := Int.eq_ofNat_of_zero_le h0
  obtain ⟨l, rfl⟩ := Int.eq_ofNat_of_zero_le (Int.le_trans h0 h1)
  simp only [List.append_nil, List.nil_append, Int.toNat_natCast] at *
  have hkl : k ≤ l := by omega
  have hl : l ≤ xs.length := by omega
  have hbeh : ∀ w', BehsOK w' [.ow (.l 4 e xs) none, .r (.c (.v (.int .i64 (k : Int)))), .r (.c (.v (.int .i64 (l : Int))))] [u, .int .i64 (k : Int), .int .i64 (l : Int)] [] := fun w' =>
    ⟨_, _, [], [], rfl, rfl, ⟨_, _, [], [], rfl, rfl, ⟨_, _, [], [], rfl, rfl, rfl, rfl⟩, rfl⟩, rfl⟩
  by_cases hkl' : k = l
  · subst hkl'
    have hO' := hO
    obtain ⟨a, c, rfl, hc, h63, _⟩ := hO
    refine (del_same hl hc).mono fun e' w2 ⟨h1', h2'⟩ => ⟨_, f, [], h1', ?_, hbeh _, by simpa using hnd, fun b hb => ?_, ?_⟩
    · rw [h2', List.take_append_drop]; exact hO'
    · rw [List.append_nil] at hb
      rw [h2']
      exact ⟨OwV.lt _ _ _ hO' b hb, .inl hb⟩
    · rw [h2']; exact Chg.of_below (Bel.refl _ _)
  · have hxn : xs ≠ [] := fun h => by subst h; simp at hl; omega
    obtain ⟨b, T, c, A, R, rfl, rfl, hb, hR, hc, h63⟩ := own_flat he hO hxn
    have hsp : flat e xs = flat e (xs.take k) ++ flat e ((xs.take l).drop k) ++ flat e (xs.drop l) := by
      rw [← flat_app, ← flat_app]
      congr 1
      have e1 : xs.take k = (xs.take l).take k := by rw [List.take_take, Nat.min_eq_left hkl]
      rw [e1, List.take_append_drop, List.take_append_drop]
    have hpl : (flat e (xs.take k)).length = k * 4 := by rw [flat_len he, List.length_take, Nat.min_eq_left (by omega)]
    have hml : (flat e ((xs.take l).drop k)).length = (l - k) * 4 := by rw [flat_len he, List.length_drop, List.length_take, Nat.min_eq_left hl]
    have hql : (flat e (xs.drop l)).length = (xs.length - l) * 4 := by rw [flat_len he, List.length_drop]
    have hxl : (flat e xs).length = xs.length * 4 := flat_len he xs
    have hcl : (A ++ flat e xs ++ R).length = A.length + c * 4 := by
      simp only [List.length_append, hxl, hR]; omega
    have hold : ((A ++ flat e xs ++ R).drop (A.length + l * 4)).take (flat e (xs.drop l)).length = flat e (xs.drop l) := by
      have e3 : A ++ flat e xs ++ R = (A ++ (flat e (xs.take k) ++ flat e ((xs.take l).drop k))) ++ (flat e (xs.drop l) ++ R) := by rw [hsp]; simp only [List.append_assoc]
      have e4 : A.length + l * 4 = (A ++ (flat e (xs.take k) ++ flat e ((xs.take l).drop k))).length := by simp only [List.length_append, hpl, hml]; omega
      rw [e3, e4, List.drop_left, List.take_left]
    obtain ⟨W1, hW1⟩ : ∃ W1, W1 = (if flat e (xs.drop l) = [] then w.drew else setBlk w.drew b (.cells (splice (A ++ flat e xs ++ R) (A.length + k * 4) (flat e (xs.drop l))).toArray T (0, 0))) := ⟨_, rfl⟩
    obtain ⟨ay, hay⟩ : ∃ ay : Option Addr, ay = if c = l then some ⟨b, A.length, none⟩ else some ⟨b, A.length + l * 4, none⟩ := ⟨_, rfl⟩
    have hr : ∀ ty, (Builtin.append_ #[49, 49] ty #[.slice (some ⟨b, A.length, none⟩) k c, .slice ay (xs.length - l) (c - l)]).run Try.prog w.drew = .ok (.slice (some ⟨b, A.length, none⟩) (k + (xs.length - l)) c) W1 := fun ty => by
      rw [hW1]
      refine run_app_room (P := Try.prog) (w := w.drew) (i := Try.t51) (e := 51) Try.underlying49 (by kernel_rfl) (box_drew hb) hcl hql (fun h => ?_) (fun a ha q v hq => ?_) (flat_all he _) (by omega)
      · rw [hay] at h; split at h <;> cases h
      · rw [hay] at ha
        split at ha
        · rename_i hcl2
          have : (flat e (xs.drop l)).length = 0 := by rw [hql]; omega
          rw [List.length_eq_zero_iff.1 this] at hq
          simp at hq
        · cases ha
          rw [Addr.add_lit]
          exact (box_drew hb).has _ _ hold q v hq
    have hst := store_chg (w := w.drew) (o := A.length + k * 4) (vs := flat e (xs.drop l)) (box_drew hb)
    rw [← hW1] at hst
    have hzl : (Builtin.zeroCells (Value.agg #[Value.int IntKind.i64 0, Value.int IntKind.i64 0, Value.int IntKind.i64 0, Value.int IntKind.i64 0]).cells (xs.length - (k + (xs.length - l)))).toList.length = (l - k) * 4 := by
      simp [Builtin.zeroCells, Value.cells]; omega
    have hsl : (splice (A ++ flat e xs ++ R) (A.length + k * 4) (flat e (xs.drop l))).length = (A ++ flat e xs ++ R).length := by
      unfold splice; simp only [List.length_append, List.length_take, List.length_drop, hxl, hql, hR]; omega
    have hclr : ∀ ty, (Builtin.clear_ #[49] ty #[.slice (some ⟨b, A.length + (k + (xs.length - l)) * 4, none⟩) (xs.length - (k + (xs.length - l))) (c - (k + (xs.length - l)))]).run Try.prog W1 = .ok (.tuple #[]) _ := fun ty =>
      run_clearK (P := Try.prog) (i := Try.t51) (el := 51) (z := .agg #[Value.int IntKind.i64 0, Value.int IntKind.i64 0, Value.int IntKind.i64 0, Value.int IntKind.i64 0]) Try.underlying49 (by kernel_rfl) (by kernel_rfl) hst.2 (by omega)
        (zero_one _)
        (fun h => by rw [h] at hzl; simp at hzl; omega) (by rw [hzl, hsl, hcl]; omega)
    refine (del_walk (by omega) hl hc hay hr hclr).mono fun e' w2 ⟨h1', h2'⟩ => ?_
    have hsh : splice (splice (A ++ flat e xs ++ R) (A.length + k * 4) (flat e (xs.drop l))) (A.length + (k + (xs.length - l)) * 4) (Builtin.zeroCells (Value.agg #[Value.int IntKind.i64 0, Value.int IntKind.i64 0, Value.int IntKind.i64 0, Value.int IntKind.i64 0]).cells (xs.length - (k + (xs.length - l)))).toList
        = A ++ flat e (xs.take k ++ xs.drop l) ++ ((Builtin.zeroCells (Value.agg #[Value.int IntKind.i64 0, Value.int IntKind.i64 0, Value.int IntKind.i64 0, Value.int IntKind.i64 0]).cells (xs.length - (k + (xs.length - l)))).toList ++ R) := by
      have h := splice_del A (flat e (xs.take k)) (flat e ((xs.take l).drop k)) (flat e (xs.drop l)) R (Builtin.zeroCells (Value.agg #[Value.int IntKind.i64 0, Value.int IntKind.i64 0, Value.int IntKind.i64 0, Value.int IntKind.i64 0]).cells (xs.length - (k + (xs.length - l)))).toList (by rw [hzl, hml])
      rw [hpl, hql] at h
      have p1 : A.length + (k + (xs.length - l)) * 4 = A.length + k * 4 + (xs.length - l) * 4 := by omega
      have p2 : A ++ flat e xs ++ R = A ++ flat e (xs.take k) ++ flat e ((xs.take l).drop k) ++ flat e (xs.drop l) ++ R := by rw [hsp]; simp only [List.append_assoc]
      rw [p1, p2, h, flat_app]
      simp only [List.append_assoc]
    have hbx : Box w2 b T (A ++ flat e (xs.take k ++ xs.drop l) ++ ((Builtin.zeroCells (Value.agg #[Value.int IntKind.i64 0, Value.int IntKind.i64 0, Value.int IntKind.i64 0, Value.int IntKind.i64 0]).cells (xs.length - (k + (xs.length - l)))).toList ++ R)) := by
      rw [h2', ← hsh]
      exact setBlk_box hst.2.lt T _
    have hch : Chg (· = b) w w2 := by
      rw [h2']
      exact (Chg.drew1 _ w).andThen (hst.1.andThen (setBlk_chg _ _ _))
    have hyl : (xs.take k ++ xs.drop l).length = k + (xs.length - l) := by
      simp only [List.length_append, List.length_take, List.length_drop]; omega
    refine ⟨_, [b], [], h1', ?_, hbeh _, by simp, fun q hq => ?_, hch.mono fun q _ hq => by subst hq; simp⟩
    · have := flat_own he (c := c) hbx (by rw [List.length_append, hzl, hR, hyl]; omega) (by rw [hyl]; omega) (by rw [hyl]; omega)
      rw [hyl] at this
      exact this
    · have : q = b := by simpa using hq
      subst this
      exact ⟨hbx.lt, .inl (by simp)⟩
end Go.Proofs.Ytjcgnlpimefhpaa
