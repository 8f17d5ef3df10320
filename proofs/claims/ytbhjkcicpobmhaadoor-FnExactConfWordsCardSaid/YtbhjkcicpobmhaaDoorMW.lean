/-
  The machine: a store into an element of a slice in an element of an own slice.
-/
import Derived.Test.YtbhjkcicpobmhaaDoorMO
namespace Go.Proofs.YtbhjkcicpobmhaaDoor
open Go.RowKit
set_option linter.unusedVariables false
set_option linter.unusedSimpArgs false

def eStoreN (P : Program) (fs : Nat → Option Fact) (base : Nat) (T : TypeId) (a v : AV) (dj' dX' : Dat) : Option OpR :=
  match a, tSize P T with
  | .p id off, some n => bif Nat.beq v.cells.length n then (match fs id with
    | some (.mem (some (X, V)) (some (e, j + 1, i)) ds2) => (match fs e with
      | some (.mem (some (X2, V2)) (some (Y, 0, k)) ds) => (match fs X, ds[j]?, ownDats fs v.cells with
        | some (.own V' d), some dj, some (vds, []) => bif Nat.beq V V' && Nat.beq V V2 && Nat.beq X2 X && Nat.beq Y X && Nat.ble (off + n) ds2.length then
            some ⟨[SetOK dj i ds2 (ds2.take off ++ vds ++ ds2.drop (off + n)) dj', SetOK d k ds (ds.take j ++ dj' :: ds.drop (j + 1)) dX'], .v undef, [(X, some (.own base dX'))]⟩ else none
        | _, _, _ => none)
      | _ => none)
    | _ => none) else none
  | _, _ => none

section
variable {P : Program} {fs fsA : Nat → Option Fact} {β : Nat → Nat → Value} {φ : Nat → List Nat} {dom ψ IN : Nat → Prop} {w0 w w' : World} {base : Nat}

theorem eStoreN_ok (R : Rel P fsA β φ dom ψ IN w0 w) (hb : ∀ id, base ≤ id → id < base + stride → ¬ dom id) (hsub : ∀ id f, fs id = some f → fsA id = some f) {T : TypeId} {a v : AV} {dj' dX' : Dat} {r : OpR} (h : eStoreN P fs base T a v dj' dX' = some r) (hv : AllP r.vcs)
    (hw : v.wf dom) : Snd P fsA base r β φ dom ψ IN w0 ((do Instr.storeAt T (val β a) (val β v); pure Next.skip : Sem Next).run P w) := by
  have hnb : ¬ dom base := hb base (Nat.le_refl _) (by unfold stride; omega)
  unfold eStoreN at h
  split at h
  case h_2 => cases h
  rename_i id off n hn
  cases hbq : Nat.beq v.cells.length n with
  | false => rw [hbq] at h; cases h
  | true =>
  rw [hbq] at h
  simp only [cond_true] at h
  have hvl := Nat.eq_of_beq_eq_true hbq
  have hcv := AV.cells_val (β := β) R.one hw
  split at h
  case h_2 => cases h
  rename_i X V e j i ds2 hf
  split at h
  case h_2 => cases h
  rename_i X2 V2 Y k ds he
  split at h
  case h_2 => cases h
  rename_i V' d dj vds hX hj hds
  cases hcc : (Nat.beq V V' && Nat.beq V V2 && Nat.beq X2 X && Nat.beq Y X && Nat.ble (off + n) ds2.length) with
  | false => rw [hcc] at h; cases h
  | true =>
  rw [hcc] at h
  cases h
  simp only [Bool.and_eq_true] at hcc
  obtain ⟨⟨⟨⟨c1, c1'⟩, c3⟩, c4⟩, c2⟩ := hcc
  have c4 := (Nat.eq_of_beq_eq_true c4).symm
  subst c4
  have c3 := (Nat.eq_of_beq_eq_true c3).symm
  subst c3
  have c1 := Nat.eq_of_beq_eq_true c1
  subst c1
  have c1' := Nat.eq_of_beq_eq_true c1'
  subst c1'
  have c2 := Nat.le_of_ble_eq_true c2
  obtain ⟨⟨α2, inst2, sz2, enc2, xs2, α2', inst2', enc2', ys2, rfl, rfl, hyl2, hold2, hex2, himps2⟩, ⟨α, inst, sz, enc, xs, α', inst', enc', ys, rfl, rfl, hyl, hold, hex, himps⟩, _⟩ := hv
  -- the element of the element
  obtain ⟨hdid, hdX, hdV, hmem2⟩ := R.ok id _ (hsub _ _ hf)
  obtain ⟨⟨bi, oi, i1, i2, i3, i4⟩, i5⟩ := hmem2 ⟨_, hsub _ _ hX⟩
  obtain ⟨_, bs, os, ns, cs, s1, s2, s3⟩ := i5 _ _ i rfl
  rw [i1] at s2
  simp only [Value.pointer.injEq, Option.some.injEq, Addr.mk.injEq, and_true] at s2
  obtain ⟨rfl, rfl⟩ := s2
  -- the element
  obtain ⟨hdid2, _, _, hmem⟩ := R.ok e _ (hsub _ _ he)
  obtain ⟨⟨b, o, m1, m2, m3, m4⟩, m5⟩ := hmem ⟨_, hsub _ _ hX⟩
  obtain ⟨_, b2, o2, nn, c, e1, e2, e3⟩ := m5 _ _ k rfl
  rw [m1] at e2
  simp only [Value.pointer.injEq, Option.some.injEq, Addr.mk.injEq, and_true] at e2
  obtain ⟨rfl, rfl⟩ := e2
  obtain ⟨_, _, how⟩ := R.ok X _ (hsub _ _ hX)
  have how' := how
  obtain ⟨a', c', f1, f2, f3, f4⟩ := how'
  rw [e1] at f1
  simp only [Value.slice.injEq] at f1
  obtain ⟨rfl, rfl, rfl⟩ := f1
  rcases f4 with ⟨_, hxs, _⟩ | ⟨bb, oo, T0, cells, fps, q1, q2, q3, q4, q5, q6, q7⟩
  · rw [hxs] at e3; simp at e3
  simp only [Option.some.injEq, Addr.mk.injEq, and_true] at q1
  obtain ⟨rfl, rfl⟩ := q1
  obtain ⟨fv, k1, k2, k3, k4, k5, k6⟩ := ownDats_ok R hsub hds
  have hfv : fv = [] := List.eq_nil_iff_forall_not_mem.2 fun b' hb' => by obtain ⟨i', hi', _⟩ := k2 b' hb'; cases hi'
  subst hfv
  have hvlen : (vals β v.cells).length = n := by rw [vals_len]; exact hvl
  have hvlen2 : vds.length = n := by rw [← k1.len]; exact hvlen
  have hxk : xs[k]? = some (xs.getD k default) := by rw [List.getD_eq_getElem?_getD, List.getElem?_eq_getElem e3]; rfl
  have hfk : fps[k]? = some (fps[k]'(by omega)) := List.getElem?_eq_getElem _
  obtain ⟨p1, p2⟩ := q5 k _ _ hxk hfk
  rw [hold] at p2
  have hdsl : ds.length = sz := by rw [← p2.len]; exact p1
  rw [hdsl] at m1 m3
  have hjl : j < ds.length := (List.getElem?_eq_some_iff.1 hj).1
  have hcl : o2 + k * sz + sz ≤ cells.length := by
    rw [q3, Nat.add_assoc, ← Nat.succ_mul]
    exact Nat.add_le_add_left (Nat.mul_le_mul_right _ (by omega)) _
  generalize hC : (cells.drop (o2 + k * sz)).take sz = C at p1 p2
  generalize hF : fps[k]'(by omega) = F at hfk p2
  have hsp1 : ds = ds.take j ++ (.l sz2 enc2 xs2 :: ds.drop (j + 1)) := by
    have e : ds.drop j = .l sz2 enc2 xs2 :: ds.drop (j + 1) := by
      rw [List.drop_eq_getElem_cons hjl]
      rw [(List.getElem?_eq_some_iff.1 hj).2]
    rw [← e]; exact (List.take_append_drop j ds).symm
  rw [hsp1] at p2
  obtain ⟨us, ws, F1, F2, rfl, rfl, r1, r2, rnd⟩ := OwVs.unapp _ p2
  obtain ⟨u, ws', F3, F4, rfl, r3, r4, rfl, rnd2⟩ := r2
  have hul : us.length = j := by rw [r1.len]; simp; omega
  have hval : β e (j + 1) = u := by
    have hbv : (bv β e sz)[j]? = some (β e (j + 1)) := bv_at (by omega)
    have h1 := m3 j _ hbv
    have h2 : cells[o2 + k * sz + j]? = some u := by
      have : ((cells.drop (o2 + k * sz)).take sz)[j]? = some u := by
        rw [hC, List.getElem?_append_right (by omega), hul, Nat.sub_self]
        rfl
      rw [List.getElem?_take_of_lt (by omega), List.getElem?_drop] at this
      exact this
    have h3 := q2.cell (o2 + k * sz + j) u h2
    rw [h3] at h1
    exact (Option.some.inj h1).symm
  rw [hval] at s1
  subst s1
  have hFX : ∀ b' ∈ F1 ++ (F3 ++ F4), b' ∈ φ X := fun b' hb' => by
    rw [q6]
    exact List.mem_cons_of_mem _ (List.mem_flatten.2 ⟨_, List.mem_of_getElem? hfk, hb'⟩)
  -- inside the element's slice
  have r3' := r3
  obtain ⟨a2, c2', g1, g2, g3, g4⟩ := r3'
  simp only [Value.slice.injEq] at g1
  obtain ⟨rfl, rfl, rfl⟩ := g1
  rcases g4 with ⟨_, hxs, _⟩ | ⟨bb, oo, T2, cells2, fps2, t1, t2, t3, t4, t5, t6, t7⟩
  · rw [hxs] at s3; simp at s3
  simp only [Option.some.injEq, Addr.mk.injEq, and_true] at t1
  obtain ⟨rfl, rfl⟩ := t1
  have hxi : xs2[i]? = some (xs2.getD i default) := by rw [List.getD_eq_getElem?_getD, List.getElem?_eq_getElem s3]; rfl
  have hfi : fps2[i]? = some (fps2[i]'(by omega)) := List.getElem?_eq_getElem _
  obtain ⟨v1, v2⟩ := t5 i _ _ hxi hfi
  rw [hold2] at v2
  have hdsl2 : ds2.length = sz2 := by rw [← v2.len]; exact v1
  rw [hdsl2] at i1 i3
  have hcl2 : os + i * sz2 + sz2 ≤ cells2.length := by
    rw [t3, Nat.add_assoc, ← Nat.succ_mul]
    exact Nat.add_le_add_left (Nat.mul_le_mul_right _ (by omega)) _
  generalize hC2 : (cells2.drop (os + i * sz2)).take sz2 = C2 at v1 v2
  generalize hG : fps2[i]'(by omega) = G at hfi v2
  have hsp2 : ds2 = ds2.take off ++ ((ds2.drop off).take n ++ ds2.drop (off + n)) := by
    rw [← List.drop_drop (i := n) (j := off), List.take_append_drop, List.take_append_drop]
  rw [hsp2] at v2
  obtain ⟨us2, ws2, G1, G2, rfl, rfl, y1, y2, ynd⟩ := OwVs.unapp _ v2
  obtain ⟨ms2, ws2, G3, G4, rfl, rfl, y3, y4, ynd2⟩ := OwVs.unapp _ y2
  have hul2 : us2.length = off := by rw [y1.len]; simp; omega
  have hml2 : ms2.length = n := by rw [y3.len]; simp; omega
  have hnew2 : OwVs w (enc2' (ys2.getD i default)) (us2 ++ (vals β v.cells) ++ ws2) (G1 ++ [] ++ G4) := by
    refine (hex2 s3).ow ?_
    refine (y1.app k1 fun b' _ hb' => by cases hb').app y4 fun b' hb' hb4 => ?_
    rw [List.append_nil] at hb'
    exact (List.nodup_append.1 ynd).2.2 b' hb' b' (List.mem_append_right _ hb4) rfl
  have hncl2 : (us2 ++ (vals β v.cells) ++ ws2).length = sz2 := by
    simp only [List.length_append] at v1 ⊢
    omega
  have hspl : splice cells2 (os + i * sz2 + off) (vals β v.cells) = splice cells2 (os + i * sz2) (us2 ++ (vals β v.cells) ++ ws2) := by
    rw [splice_sub (sz := sz2) (n := n) hvlen (by omega) hcl2, hC2]
    congr 2
    · rw [List.take_append_of_le_length (by omega), List.take_of_length_le (by omega)]
    · rw [List.drop_append, List.drop_of_length_le (by omega), hul2, Nat.add_sub_cancel_left, List.drop_append, List.drop_of_length_le (by omega), hml2, Nat.sub_self]
      simp
  have hp : val β (.p id off) = .pointer (some ⟨bi, os + i * sz2 + off, none⟩) := by simp [val, i1, padd]
  have hrun := run_storeV (P := P) (T := T) (o := os + i * sz2 + off) (v := val β v) t2 (by rw [hvlen]; exact hn) hcv (by rw [hvlen]; omega) k1.one
  obtain ⟨hch, hbx⟩ := store_chg (o := os + i * sz2 + off) (vs := vals β v.cells) t2
  rw [hspl] at hrun hch hbx
  generalize hW : (if vals β v.cells = [] then w else setBlk w bi (.cells (splice cells2 (os + i * sz2) (us2 ++ vals β v.cells ++ ws2)).toArray T2 (0, 0))) = w' at hrun hch hbx
  have t7' := t7
  rw [t6] at t7'
  obtain ⟨hbn2, hfn2⟩ := List.nodup_cons.1 t7'
  have hb3 : bi ∈ F3 := by rw [t6]; exact List.mem_cons_self
  have hG3 : ∀ b' ∈ G1 ++ [] ++ G4, b' ∈ G1 ++ (G3 ++ G4) := fun b' hb' => by
    rw [List.append_nil] at hb'
    rcases List.mem_append.1 hb' with hb' | hb'
    · exact List.mem_append_left _ hb'
    · exact List.mem_append_right _ (List.mem_append_right _ hb')
  have hset2 := OwV.set (enc := enc2) (enc' := enc2') (ys := ys2) (f := G1 ++ [] ++ G4) hyl2 himps2 g2 g3 t2 t3 t4 (fun i x f _ => t5 i x f) t7' s3 hnew2 hncl2
    (fun hbf => hbn2 (List.mem_flatten.2 ⟨_, List.mem_of_getElem? hfi, hG3 _ hbf⟩))
    (fun b' hb' i' g hik hg hbg => by
      have hp2 := (List.pairwise_flatten.1 hfn2).2
      rcases Nat.lt_or_gt_of_ne hik with hlt | hgt
      · exact (List.pairwise_iff_getElem.1 hp2) i' i (List.getElem?_eq_some_iff.1 hg).1 (by omega) hlt b' (by rw [(List.getElem?_eq_some_iff.1 hg).2]; exact hbg) b' (by rw [hG]; exact hG3 _ hb') rfl
      · exact (List.pairwise_iff_getElem.1 hp2) i i' (by omega) (List.getElem?_eq_some_iff.1 hg).1 hgt b' (by rw [hG]; exact hG3 _ hb') b' (by rw [(List.getElem?_eq_some_iff.1 hg).2]; exact hbg) rfl) hch hbx
  generalize hF3' : (bi :: (fps2.set i (G1 ++ [] ++ G4)).flatten) = F3' at hset2
  have hsub3 : ∀ b' ∈ F3', b' ∈ F3 := fun b' hb' => by
    rw [← hF3'] at hb'
    rcases List.mem_cons.1 hb' with rfl | hb'
    · exact hb3
    · obtain ⟨g, hg, hag⟩ := List.mem_flatten.1 hb'
      rw [t6]
      refine List.mem_cons_of_mem _ ?_
      rcases List.mem_or_eq_of_mem_set hg with hg | rfl
      · exact List.mem_flatten.2 ⟨g, hg, hag⟩
      · exact List.mem_flatten.2 ⟨_, List.mem_of_getElem? hfi, hG3 _ hag⟩
  -- the element, with it
  rw [q6] at q7
  obtain ⟨hbn, hfn⟩ := List.nodup_cons.1 q7
  have hp2 := (List.pairwise_flatten.1 hfn).2
  have hpk : ∀ (i : Nat) (g : List Nat), i ≠ k → fps[i]? = some g → ∀ b' ∈ g, b' ∉ F1 ++ (F3 ++ F4) := by
    intro i g hik hg b' hbg hbF
    rcases Nat.lt_or_gt_of_ne hik with hlt | hgt
    · exact (List.pairwise_iff_getElem.1 hp2) i k (List.getElem?_eq_some_iff.1 hg).1 (by omega) hlt b' (by rw [(List.getElem?_eq_some_iff.1 hg).2]; exact hbg) b' (by rw [hF]; exact hbF) rfl
    · exact (List.pairwise_iff_getElem.1 hp2) k i (by omega) (List.getElem?_eq_some_iff.1 hg).1 hgt b' (by rw [hF]; exact hbF) b' (by rw [(List.getElem?_eq_some_iff.1 hg).2]; exact hbg) rfl
  have hbF : b ∉ F1 ++ (F3 ++ F4) := fun hbm => hbn (List.mem_flatten.2 ⟨_, List.mem_of_getElem? hfk, hbm⟩)
  have hm3 : ∀ b' ∈ F3, b' ∈ F1 ++ (F3 ++ F4) := fun b' h => List.mem_append_right _ (List.mem_append_left _ h)
  obtain ⟨nd1, nd2, nd3⟩ := List.nodup_append.1 rnd
  obtain ⟨nd4, nd5, nd6⟩ := List.nodup_append.1 rnd2
  have hkeep : ∀ b', b' < w.heap.size → b' ∉ F3 → w'.heap[b']? = w.heap[b']? := fun b' h1 h2 => hch.block b' h1 fun e => h2 (e ▸ hb3)
  have hbox' : Box w' b T0 cells := q2.congr (hkeep b q2.lt fun h3 => hbF (hm3 _ h3))
  have r1' : OwVs w' (ds.take j) us F1 := OwVs.keep _ _ _ (fun b' hb' => hkeep b' (OwVs.lt _ _ _ r1 b' hb') fun h3 => nd3 b' hb' b' (List.mem_append_left _ h3) rfl) r1
  have r4' : OwVs w' (ds.drop (j + 1)) ws' F4 := OwVs.keep _ _ _ (fun b' hb' => hkeep b' (OwVs.lt _ _ _ r4 b' hb') fun h3 => nd6 b' h3 b' hb' rfl) r4
  have hmid : OwVs w' (.l sz2 enc2' ys2 :: ds.drop (j + 1)) (Value.slice (some ⟨bi, os, none⟩) xs2.length cs :: ws') (F3' ++ F4) := ⟨_, ws', F3', F4, rfl, hset2, r4', rfl, List.nodup_append.2 ⟨OwV.nd hset2, nd5, fun b' hb' b2 hb2 e => nd6 b' (hsub3 _ hb') b2 hb2 e⟩⟩
  have hel' : OwVs w' (enc' (ys.getD k default)) (us ++ (Value.slice (some ⟨bi, os, none⟩) xs2.length cs :: ws')) (F1 ++ (F3' ++ F4)) := by
    refine (hex e3).ow (r1'.app hmid fun b' hb' hb2 => ?_)
    rcases List.mem_append.1 hb2 with hb2 | hb2
    · exact nd3 b' hb' b' (List.mem_append_left _ (hsub3 _ hb2)) rfl
    · exact nd3 b' hb' b' (List.mem_append_right _ hb2) rfl
  have hsubF : ∀ b' ∈ F1 ++ (F3' ++ F4), b' ∈ F1 ++ (F3 ++ F4) := fun b' hb' => by
    rcases List.mem_append.1 hb' with h | h
    · exact List.mem_append_left _ h
    · rcases List.mem_append.1 h with h | h
      · exact hm3 _ (hsub3 _ h)
      · exact List.mem_append_right _ (List.mem_append_right _ h)
  have hset := OwV.set (w := w') (w' := w') (enc := enc) (enc' := enc') (ys := ys) (f := F1 ++ (F3' ++ F4)) (nc := us ++ (Value.slice (some ⟨bi, os, none⟩) xs2.length cs :: ws')) hyl himps f2 f3 hbox' q3 q4 (fun i x f hik hx hf => ⟨(q5 i x f hx hf).1, OwVs.keep _ _ _ (fun b' hb' => hkeep b' (OwVs.lt _ _ _ (q5 i x f hx hf).2 b' hb') fun h3 => hpk i f hik hf b' hb' (hm3 _ h3)) (q5 i x f hx hf).2⟩) q7 e3 hel' p1
    (fun hbm => hbF (hsubF _ hbm)) (fun b' hb' i g hik hg hbg => hpk i g hik hg b' hbg (hsubF _ hb')) (Chg.of_below (Bel.refl _ _)) (by rw [splice_same hC p1]; exact hbox')
  have hbX : bi ∈ φ X := hFX _ (hm3 _ hb3)
  refine Snd.modC R hb (hsub _ _ hX) rfl (.own base (.l sz enc' ys)) (b :: (fps.set k (F1 ++ (F3' ++ F4))).flatten) [] (by simp) (fun i hi => by cases hi) (hch.mono fun k _ hk => hk ▸ hbX) ⟨.inr rfl, ?_⟩ (fun V d e => by cases e; exact hnb) (fun _ b' hb' => ?_) (by rw [hp]; exact hrun)
  · rw [up_self, e1]; exact hset
  · refine ⟨OwV.lt _ _ _ hset b' hb', .inr (.inl ?_)⟩
    rw [q6]
    rcases List.mem_cons.1 hb' with rfl | hb'
    · exact List.mem_cons_self
    · obtain ⟨g, hg, hag⟩ := List.mem_flatten.1 hb'
      refine List.mem_cons_of_mem _ ?_
      rcases List.mem_or_eq_of_mem_set hg with hg | rfl
      · exact List.mem_flatten.2 ⟨g, hg, hag⟩
      · exact List.mem_flatten.2 ⟨_, List.mem_of_getElem? hfk, hsubF _ hag⟩

end
end Go.Proofs.YtbhjkcicpobmhaaDoor
