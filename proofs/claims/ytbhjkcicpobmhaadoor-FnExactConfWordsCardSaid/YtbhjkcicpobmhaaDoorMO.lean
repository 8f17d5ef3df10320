/-
  The machine: a call whose first argument is a slice that lies in an element of a slice of its own; it is left changed.
-/
import Derived.Test.YtbhjkcicpobmhaaDoorMC
namespace Go.Proofs.YtbhjkcicpobmhaaDoor
open Go.RowKit
set_option linter.unusedVariables false
set_option linter.unusedSimpArgs false

def eCallE (fs : Nat → Option Fact) (base : Nat) (sp : Spec) (args : List AV) (dX' : Dat) : Option OpR :=
  match args, sp.args, sp.res with
  | .h id (j + 1) :: as, .ow d (some d') :: rs, .v x => (match fs id with
    | some (.mem (some (X, V)) (some (Y, 0, k)) ds) => (match fs X, ds[j]?, mRos fs as rs with
      | some (.own V' dX), some dj, some m => bif Nat.beq V V' && m.reads.all (fun y => !(Nat.beq y X)) && Nat.beq Y X then
          some ⟨sp.pre :: Imp dj d :: SetOK dX k ds (ds.take j ++ d' :: ds.drop (j + 1)) dX' :: m.vcs, .v x, [(X, some (.own base dX'))]⟩ else none
      | _, _, _ => none)
    | _ => none)
  | _, _, _ => none

section
variable {P : Program} {fs fsA : Nat → Option Fact} {β : Nat → Nat → Value} {φ : Nat → List Nat} {dom ψ IN : Nat → Prop} {w0 w w' : World} {base : Nat}

theorem behs_ro : ∀ {as : List Arg} {us : List Value} {fb : List Nat}, (as.all fun a => match a with | .r _ => true | .rp _ => true | _ => false) = true → BehsOK w as us fb → fb = []
  | [], us, fb, _, h => h
  | a :: as, us, fb, hro, h => by
    simp only [List.all_cons, Bool.and_eq_true] at hro
    obtain ⟨u, us', f, g, rfl, h1, h2, rfl⟩ := h
    have e2 := behs_ro hro.2 h2
    subst e2
    cases a with
    | r a => have : f = [] := h1; subst this; rfl
    | rp ds => have : f = [] := h1; subst this; rfl
    | _ => simp at hro

theorem mRos_ro : ∀ {avs : List AV} {as : List Arg} {m : MA}, mRos fs avs as = some m → (as.all fun a => match a with | .r _ => true | .rp _ => true | _ => false) = true
  | [], [], m, h => rfl
  | av :: avs, a :: as, m, h => by
    simp only [mRos] at h
    split at h
    · rename_i m1 m2 h1 h2
      have := mRos_ro h2
      cases a <;> simp_all [mRo]
    · cases h
  | [], _ :: _, m, h => by simp [mRos] at h
  | _ :: _, [], m, h => by simp [mRos] at h

theorem splice_same {cells C : List Value} {o sz : Nat} (h : (cells.drop o).take sz = C) (hl : C.length = sz) : splice cells o C = cells := by
  unfold splice
  rw [hl, ← h]
  rw [← List.drop_drop, List.append_assoc, List.take_append_drop, List.take_append_drop]

/-- a slice is taken out of an element of a slice of its own -/
def eTake (P : Program) (fs : Nat → Option Fact) (base : Nat) (T : TypeId) (a : AV) (d' : Dat) : Option OpR :=
  match eLoad P fs T a with
  | some r0 => (match r0.av with
    | .h id (j + 1) => (match fs id with
      | some (.mem (some (X, V)) (some (Y, 0, k)) ds) => (match fs X, ds[j]? with
        | some (.own V' d), some dj => bif Nat.beq V V' && !(Nat.beq X base) && Nat.beq Y X then some ⟨[SetOK d k ds (ds.take j ++ (.any :: ds.drop (j + 1))) d'], .h base 0, [(X, some (.own (base + 1) d')), (base, some (.own base dj))]⟩ else none
        | _, _ => none)
      | _ => none)
    | _ => none)
  | none => none

theorem eTake_ok (R : Rel P fsA β φ dom ψ IN w0 w) (hb : ∀ id, base ≤ id → id < base + stride → ¬ dom id) (hsub : ∀ id f, fs id = some f → fsA id = some f) {T : TypeId} {a : AV} {d' : Dat} {r : OpR} (h : eTake P fs base T a d' = some r) (hv : AllP r.vcs) :
    Snd P fsA base r β φ dom ψ IN w0 ((do pure (Next.value (← Instr.loadAt T (val β a))) : Sem Next).run P w) := by
  have hnb : ¬ dom base := hb base (Nat.le_refl _) (by unfold stride; omega)
  have hnb1 : ¬ dom (base + 1) := hb (base + 1) (by omega) (by unfold stride; omega)
  unfold eTake at h
  split at h
  · rename_i r0 hl
    obtain ⟨l1, l2, _, _⟩ := eLoad_ok R hsub hl
    split at h
    · rename_i id j hav
      rw [hav] at l1 l2
      split at h
      · rename_i X V Y k ds hf
        split at h
        · rename_i V' d dj hX hj
          cases hcc : (Nat.beq V V' && !(Nat.beq X base) && Nat.beq Y X) with
          | false => rw [hcc] at h; cases h
          | true =>
            rw [hcc] at h
            cases h
            simp only [Bool.and_eq_true] at hcc
            have c4 := (Nat.eq_of_beq_eq_true hcc.2).symm
            subst c4
            have hcc := hcc.1
            have c1 := Nat.eq_of_beq_eq_true hcc.1
            subst c1
            obtain ⟨⟨α, inst, sz, enc, xs, α', inst', enc', ys, rfl, rfl, hyl, hold, hex, himps⟩, _⟩ := hv
            obtain ⟨hdid, hdX, hdV, hmem⟩ := R.ok id _ (hsub _ _ hf)
            obtain ⟨⟨b, o, m1, m2, m3, m4⟩, m5⟩ := hmem ⟨_, hsub _ _ hX⟩
            obtain ⟨_, b2, o2, nn, c, e1, e2, e3⟩ := m5 _ _ k rfl
            rw [m1] at e2
            simp only [Value.pointer.injEq, Option.some.injEq, Addr.mk.injEq, and_true] at e2
            obtain ⟨rfl, rfl⟩ := e2
            obtain ⟨_, _, how⟩ := R.ok X _ (hsub _ _ hX)
            have how' := how
            obtain ⟨a', c', f1, f2, f3, f4⟩ := how'
            rw [e1] at f1
            simp only [Value.slice.injEq] at f1
            obtain ⟨rfl, rfl, rfl⟩ := f1
            rcases f4 with ⟨_, hxs, _⟩ | ⟨bb, oo, T0, cells, fps, q1, q2, q3, q4, q5, q6, q7⟩
            · rw [hxs] at e3; simp at e3
            simp only [Option.some.injEq, Addr.mk.injEq, and_true] at q1
            obtain ⟨rfl, rfl⟩ := q1
            have hxk : xs[k]? = some (xs.getD k default) := by rw [List.getD_eq_getElem?_getD, List.getElem?_eq_getElem e3]; rfl
            have hfk : fps[k]? = some (fps[k]'(by omega)) := List.getElem?_eq_getElem _
            obtain ⟨p1, p2⟩ := q5 k _ _ hxk hfk
            rw [hold] at p2
            have hdsl : ds.length = sz := by rw [← p2.len]; exact p1
            rw [hdsl] at m1 m3
            have hcl : o2 + k * sz + sz ≤ cells.length := by
              rw [q3, Nat.add_assoc, ← Nat.succ_mul]
              exact Nat.add_le_add_left (Nat.mul_le_mul_right _ (by omega)) _
            have hjl : j < ds.length := (List.getElem?_eq_some_iff.1 hj).1
            -- the cell's value
            have hcell : ((cells.drop (o2 + k * sz)).take sz)[j]? = some (β id (j + 1)) := by
              have h1 := m3 j (β id (j + 1)) (bv_at (by omega))
              have h2 : ((cells.drop (o2 + k * sz)).take sz)[j]? = some (((cells.drop (o2 + k * sz)).take sz)[j]'(by rw [p1]; omega)) := List.getElem?_eq_getElem _
              rw [h2]
              have h3 := q2.has (o2 + k * sz) ((cells.drop (o2 + k * sz)).take sz) (by rw [p1]) j _ h2
              rw [h1] at h3
              exact h3.symm ▸ rfl
            generalize hC : (cells.drop (o2 + k * sz)).take sz = C at p1 p2 hcell
            generalize hF : fps[k]'(by omega) = F at hfk p2
            have hsp1 : ds = ds.take j ++ ds.drop j := (List.take_append_drop j ds).symm
            rw [hsp1] at p2
            obtain ⟨us, ws, F1, F2, rfl, rfl, r1, r2, rnd⟩ := OwVs.unapp _ p2
            have hdj : ds.drop j = dj :: ds.drop (j + 1) := by
              rw [List.drop_eq_getElem_cons hjl]
              congr 1
              exact (List.getElem?_eq_some_iff.1 hj).2
            rw [hdj] at r2
            obtain ⟨v, ws, F3, F4, rfl, r3, r4, rfl, rnd2⟩ := r2
            have hul : us.length = j := by rw [r1.len]; simp; omega
            have hvv : v = β id (j + 1) := by
              rw [List.getElem?_append_right (by omega), hul, Nat.sub_self] at hcell
              simpa using hcell
            obtain ⟨nd1, nd2, nd3⟩ := List.nodup_append.1 rnd
            obtain ⟨nd4, nd5, nd6⟩ := List.nodup_append.1 rnd2
            have hFX : ∀ b' ∈ F1 ++ (F3 ++ F4), b' ∈ φ X := fun b' hb' => by
              rw [q6]
              exact List.mem_cons_of_mem _ (List.mem_flatten.2 ⟨_, List.mem_of_getElem? hfk, hb'⟩)
            have hel' : OwVs w (enc' (ys.getD k default)) (us ++ v :: ws) (F1 ++ ([] ++ F4)) := by
              refine (hex e3).ow (r1.app ⟨v, ws, [], F4, rfl, ⟨r3.rd.one, rfl⟩, r4, rfl, by simpa using nd5⟩ fun b' hb' hb2 => ?_)
              exact nd3 b' hb' b' (List.mem_append_right _ (by simpa using hb2)) rfl
            rw [q6] at q7
            obtain ⟨hbn, hfn⟩ := List.nodup_cons.1 q7
            have hp2 := (List.pairwise_flatten.1 hfn).2
            have hpk : ∀ (i : Nat) (g : List Nat), i ≠ k → fps[i]? = some g → ∀ b' ∈ g, b' ∉ F1 ++ (F3 ++ F4) := by
              intro i g hik hg b' hbg hbF
              rcases Nat.lt_or_gt_of_ne hik with hlt | hgt
              · exact (List.pairwise_iff_getElem.1 hp2) i k (List.getElem?_eq_some_iff.1 hg).1 (by omega) hlt b' (by rw [(List.getElem?_eq_some_iff.1 hg).2]; exact hbg) b' (by rw [hF]; exact hbF) rfl
              · exact (List.pairwise_iff_getElem.1 hp2) k i (by omega) (List.getElem?_eq_some_iff.1 hg).1 hgt b' (by rw [hF]; exact hbF) b' (by rw [(List.getElem?_eq_some_iff.1 hg).2]; exact hbg) rfl
            have hbF : b ∉ F1 ++ (F3 ++ F4) := fun hbm => hbn (List.mem_flatten.2 ⟨_, List.mem_of_getElem? hfk, hbm⟩)
            have hsubF : ∀ b' ∈ F1 ++ ([] ++ F4), b' ∈ F1 ++ (F3 ++ F4) := fun b' hb' => by
              rcases List.mem_append.1 hb' with h | h
              · exact List.mem_append_left _ h
              · exact List.mem_append_right _ (List.mem_append_right _ (by simpa using h))
            have hset := OwV.set (w := w) (w' := w) (enc := enc) (enc' := enc') (ys := ys) (f := F1 ++ ([] ++ F4)) (nc := us ++ v :: ws) hyl himps f2 f3 q2 q3 q4 (fun i x f _ => q5 i x f) q7 e3 hel' p1
              (fun hbm => hbF (hsubF _ hbm)) (fun b' hb' i g hik hg hbg => hpk i g hik hg b' hbg (hsubF _ hb')) (Chg.of_below (Bel.refl _ _)) (by rw [splice_same hC p1]; exact q2)
            -- the two footprints
            have hnewX : ∀ b' ∈ b :: (fps.set k (F1 ++ ([] ++ F4))).flatten, b' ∈ φ X ∧ b' ∉ F3 := fun b' hb' => by
              rcases List.mem_cons.1 hb' with rfl | hb'
              · exact ⟨by rw [q6]; exact List.mem_cons_self, fun h3 => hbF (List.mem_append_right _ (List.mem_append_left _ h3))⟩
              · obtain ⟨g, hg, hag⟩ := List.mem_flatten.1 hb'
                obtain ⟨i, hi⟩ := List.mem_iff_getElem?.1 hg
                by_cases hik : i = k
                · subst hik
                  rw [List.getElem?_set_self (by omega)] at hi
                  cases hi
                  refine ⟨hFX _ (hsubF _ hag), fun h3 => ?_⟩
                  rcases List.mem_append.1 hag with h | h
                  · exact nd3 b' h b' (List.mem_append_left _ h3) rfl
                  · exact nd6 b' h3 b' (by simpa using h) rfl
                · rw [List.getElem?_set_ne (Ne.symm hik)] at hi
                  exact ⟨by rw [q6]; exact List.mem_cons_of_mem _ (List.mem_flatten.2 ⟨g, List.mem_of_getElem? hi, hag⟩), fun h3 => hpk i g hik hi b' hag (List.mem_append_right _ (List.mem_append_left _ h3))⟩
            have hXb : X ≠ base := fun e => hnb (e ▸ hdX)
            let fpX := b :: (fps.set k (F1 ++ ([] ++ F4))).flatten
            let φ' : Nat → List Nat := fun i => if i = base then F3 else if i = X then fpX else φ i
            let β' : Nat → Nat → Value := up β base (fun _ => β id (j + 1))
            have hlk : ∀ i, fupds fsA [(X, some (.own (base + 1) (.l sz enc' ys))), (base, some (.own base dj))] i = if i = base then some (.own base dj) else if i = X then some (.own (base + 1) (.l sz enc' ys)) else fsA i := fun i => by
              simp only [fupds, fupd_eq]
            have hφb : φ' base = F3 := if_pos rfl
            have hφX : φ' X = fpX := by show (if X = base then F3 else if X = X then fpX else φ X) = fpX; rw [if_neg hXb, if_pos rfl]
            have hβX : β' X = β X := up_ne _ _ _ hXb
            have hrun : (do pure (Next.value (← Instr.loadAt T (val β a))) : Sem Next).run P w = .ok (.value (β id (j + 1))) w := by simp [l1, val]
            rw [hrun]
            refine ⟨β', φ', fun i => dom i ∨ i = base ∨ i = base + 1, ?_, .inr (.inl rfl), fun i h => ⟨.inl h, up_ne _ _ _ fun e => hnb (e ▸ h)⟩, fun i h => ?_, ?_⟩
            · show β id (j + 1) = β' base 0
              exact (congrFun (up_self β base fun _ => β id (j + 1)) 0).symm
            · rcases h with h | rfl | rfl
              · exact .inl h
              · exact .inr ⟨Nat.le_refl _, by unfold stride; omega⟩
              · exact .inr ⟨by omega, by unfold stride; omega⟩
            · refine R.step (NN := fun i => i = X ∨ i = base) (C := fun _ => False) (Chg.of_below (Bel.refl _ _)) (fun i h => ⟨.inl h, up_ne _ _ _ fun e => hnb (e ▸ h)⟩) (fun i q => ?_) (fun i g hg => ?_) (fun i hn => ?_) (fun _ _ h => h.elim) (fun i g hn hg => ?_) (fun i V0 d0 hn hg => ?_) (fun i g hn hg hm b' hb' => ?_) (fun i1 i2 g g' hi hj2 hg hg' _ _ hne b' hb1 hb2 => ?_)
              · by_cases hi : i = base
                · subst hi
                  show (up β i (fun _ => β id (j + 1)) i q).oneCell' = true
                  rw [up_self]; exact R.all1 _ _
                · show (up β base (fun _ => β id (j + 1)) i q).oneCell' = true
                  rw [up_ne _ _ _ hi]; exact R.all1 _ _
              · rw [hlk] at hg
                by_cases h1 : i = base
                · exact .inl (.inr h1)
                · by_cases h2 : i = X
                  · exact .inl (.inl h2)
                  · rw [if_neg h1, if_neg h2] at hg; exact .inr hg
              · show (if i = base then F3 else if i = X then fpX else φ i) = φ i
                rw [if_neg fun e => hn (.inr e), if_neg fun e => hn (.inl e)]
              · rw [hlk] at hg
                rcases hn with rfl | rfl
                · rw [if_neg hXb, if_pos rfl] at hg
                  cases hg
                  exact ⟨.inl hdX, .inr (.inr rfl), by rw [hφX, hβX, e1]; exact hset⟩
                · rw [if_pos rfl] at hg
                  cases hg
                  refine ⟨.inr (.inl rfl), .inr (.inl rfl), ?_⟩
                  rw [hφb]
                  show OwV w _ (up β _ (fun _ => β id (j + 1)) _ 0) F3
                  rw [up_self, ← hvv]; exact r3
              · rw [hlk] at hg
                rcases hn with rfl | rfl
                · rw [if_neg hXb, if_pos rfl] at hg
                  cases hg
                  exact hnb1
                · rw [if_pos rfl] at hg
                  cases hg
                  exact hnb
              · have hXlt : ∀ b' ∈ φ X, b' < w.heap.size := fun b' hb' => (R.lt X _ (hsub _ _ hX) rfl b' hb').1
                have hin : b' ∈ φ X := by
                  rcases hn with rfl | rfl
                  · rw [hφX] at hb'; exact (hnewX b' hb').1
                  · rw [hφb] at hb'; exact hFX b' (List.mem_append_right _ (List.mem_append_left _ hb'))
                exact ⟨hXlt b' hin, .inr ⟨X, _, .inl rfl, hsub _ _ hX, rfl, hin⟩⟩
              · rcases hi with rfl | rfl
                · rcases hj2 with rfl | rfl
                  · exact hne rfl
                  · rw [hφX] at hb1; rw [hφb] at hb2
                    exact (hnewX b' hb1).2 hb2
                · rcases hj2 with rfl | rfl
                  · rw [hφb] at hb1; rw [hφX] at hb2
                    exact (hnewX b' hb2).2 hb1
                  · exact hne rfl
        · cases h
      · cases h
    · cases h
  · cases h

theorem eCallE_ok (R : Rel P fsA β φ dom ψ IN w0 w) (hb : ∀ id, base ≤ id → id < base + stride → ¬ dom id) (hsub : ∀ id f, fs id = some f → fsA id = some f) {f : FuncId} {sp : Spec} {D : Bool} (hD : D = false → w0.drawn = 0) (hsp : sp.ok P f D) {args : List AV} {dX' : Dat} {r : OpR} (h : eCallE fs base sp args dX' = some r) (hv : AllP r.vcs)
    {run : Result Next} (hrun : run = .ok (.enter f (vals β args).toArray) w) : Snd P fsA base r β φ dom ψ IN w0 run := by
  have hnb : ¬ dom base := hb base (Nat.le_refl _) (by unfold stride; omega)
  unfold eCallE at h
  split at h
  · rename_i id j as d d' rs x harg hres
    split at h
    · rename_i X V Y k ds hid
      split at h
      · rename_i V' dX dj m hX hj hm
        cases hcc : (Nat.beq V V' && m.reads.all (fun y => !(Nat.beq y X)) && Nat.beq Y X) with
        | false => rw [hcc] at h; cases h
        | true =>
          rw [hcc] at h
          cases h
          simp only [Bool.and_eq_true] at hcc
          obtain ⟨⟨hVV, hrd⟩, hYX⟩ := hcc
          have hYX := (Nat.eq_of_beq_eq_true hYX).symm
          subst hYX
          have hVV := Nat.eq_of_beq_eq_true hVV
          subst hVV
          obtain ⟨hpre, himp, hset, hvm⟩ := hv
          have hrd : ∀ y ∈ m.reads, y ∉ [X] := fun y hy hyX => by
            have := List.all_eq_true.1 hrd y hy
            simp only [List.mem_singleton] at hyX
            subst hyX
            simp at this
          obtain ⟨α, inst, sz, enc, xs, α', inst', enc', ys, rfl, rfl, hyl, hold, hex, himps⟩ := hset
          obtain ⟨hdid, hmem⟩ := R.ok id _ (hsub _ _ hid)
          obtain ⟨hXd, hVd, hfo⟩ := hmem
          obtain ⟨⟨b, o, m1, m2, m3, m4⟩, hel⟩ := hfo ⟨_, hsub _ _ hX⟩
          obtain ⟨_, b2, o2, n, c, e1, e2, e3⟩ := hel _ _ k rfl
          rw [m1] at e2
          simp only [Value.pointer.injEq, Option.some.injEq, Addr.mk.injEq, and_true] at e2
          obtain ⟨rfl, rfl⟩ := e2
          obtain ⟨_, _, how⟩ := R.ok X _ (hsub _ _ hX)
          have how' := how
          obtain ⟨a', c', f1, f2, f3, f4⟩ := how'
          rw [e1] at f1
          simp only [Value.slice.injEq] at f1
          obtain ⟨rfl, rfl, rfl⟩ := f1
          rcases f4 with ⟨_, hxs, _⟩ | ⟨bb, oo, T0, cells, fps, q1, q2, q3, q4, q5, q6, q7⟩
          · rw [hxs] at e3; simp at e3
          simp only [Option.some.injEq, Addr.mk.injEq, and_true] at q1
          obtain ⟨rfl, rfl⟩ := q1
          have hxk : xs[k]? = some (xs.getD k default) := by rw [List.getD_eq_getElem?_getD, List.getElem?_eq_getElem e3]; rfl
          have hfk : fps[k]? = some (fps[k]'(by omega)) := List.getElem?_eq_getElem _
          obtain ⟨p1, p2⟩ := q5 k _ _ hxk hfk
          rw [hold] at p2
          have hdsl : ds.length = sz := by rw [← p2.len]; exact p1
          rw [hdsl] at m1 m3
          have hjl : j < ds.length := (List.getElem?_eq_some_iff.1 hj).1
          have hcl : o2 + k * sz + sz ≤ cells.length := by
            rw [q3, Nat.add_assoc, ← Nat.succ_mul]
            exact Nat.add_le_add_left (Nat.mul_le_mul_right _ (by omega)) _
          have hlen := p1
          generalize hC : (cells.drop (o2 + k * sz)).take sz = C at p1 p2
          generalize hF : fps[k]'(by omega) = F at hfk p2
          -- the element's cells, apart
          have hsp1 : ds = ds.take j ++ (dj :: ds.drop (j + 1)) := by
            have e : ds.drop j = dj :: ds.drop (j + 1) := by
              rw [List.drop_eq_getElem_cons hjl]
              rw [(List.getElem?_eq_some_iff.1 hj).2]
            rw [← e]; exact (List.take_append_drop j ds).symm
          rw [hsp1] at p2
          obtain ⟨us, ws, F1, F2, rfl, rfl, r1, r2, rnd⟩ := OwVs.unapp _ p2
          obtain ⟨v, ws', F3, F4, rfl, r3, r4, rfl, rnd2⟩ := r2
          have hul : us.length = j := by rw [r1.len]; simp; omega
          -- the argument's value
          have hval : β id (j + 1) = v := by
            have hbv : (bv β id sz)[j]? = some (β id (j + 1)) := bv_at (by omega)
            have h1 := m3 j _ hbv
            have h2 : cells[o2 + k * sz + j]? = some v := by
              have : ((cells.drop (o2 + k * sz)).take sz)[j]? = some v := by
                rw [hC, List.getElem?_append_right (by omega), hul, Nat.sub_self]
                rfl
              rw [List.getElem?_take_of_lt (by omega), List.getElem?_drop] at this
              exact this
            have h3 := q2.cell (o2 + k * sz + j) v h2
            rw [h3] at h1
            exact (Option.some.inj h1).symm
          have hFX : ∀ b' ∈ F1 ++ (F3 ++ F4), b' ∈ φ X := fun b' hb' => by
            rw [q6]
            exact List.mem_cons_of_mem _ (List.mem_flatten.2 ⟨_, List.mem_of_getElem? hfk, hb'⟩)
          have hC3 : ∀ i ∈ [X], ∃ g, fsA i = some g ∧ g.mod = true := fun i hi => by
            simp only [List.mem_singleton] at hi
            exact ⟨_, hi ▸ hsub _ _ hX, rfl⟩
          obtain ⟨k1, k2⟩ := mRos_ok R hsub hC3 hm hvm hrd
          have hargs : ArgsOK P (Outs φ w [X]) w sp.args (vals β (.h id (j + 1) :: as)) F3 := by
            rw [harg]
            exact ⟨v, _, F3, [], by simp only [vals, val, hval], himp.ow _ _ _ r3, k1, by simp, r3.nd⟩
          rw [hrun]
          refine Calls.mono (hsp hpre (Outs φ w [X]) w _ F3 (fun b' hb' => ⟨hb'.1, fun hbf => hb'.2 X (by simp) (hFX b' (List.mem_append_right _ (List.mem_append_left _ hbf)))⟩) (R.gloOuts (by intro id hid; obtain rfl := List.mem_singleton.1 hid; exact ⟨_, hsub _ _ ‹_›, rfl⟩)) hargs) fun e w' ⟨rv, fr, fb, g1, g2, g3, g4, g5, g6⟩ => ⟨rv, g1, ?_⟩
          have g6b : ∀ k, k < w.heap.size → ¬ k ∈ F3 → w'.heap[k]? = w.heap[k]? := g6.block
          rw [hres] at g2
          obtain ⟨rfl, hone, rfl⟩ := g2
          rw [List.nil_append] at g4 g5
          rw [harg] at g3
          obtain ⟨u, us2, fb1, gb, eu, h1, h2, rfl⟩ := g3
          simp only [vals, val, List.cons.injEq] at eu
          obtain ⟨rfl, rfl⟩ := eu
          have hgb := behs_ro (mRos_ro hm) h2
          subst hgb
          rw [List.append_nil] at g4 g5
          rw [hval] at h1
          have h1' : OwV w' d' v fb1 := h1
          rw [q6] at q7
          obtain ⟨hbn, hfn⟩ := List.nodup_cons.1 q7
          have hp2 := (List.pairwise_flatten.1 hfn).2
          have hpk : ∀ (i : Nat) (g : List Nat), i ≠ k → fps[i]? = some g → ∀ b' ∈ g, b' ∉ F1 ++ (F3 ++ F4) := by
            intro i g hik hg b' hbg hbF
            rcases Nat.lt_or_gt_of_ne hik with hlt | hgt
            · exact (List.pairwise_iff_getElem.1 hp2) i k (List.getElem?_eq_some_iff.1 hg).1 (by omega) hlt b' (by rw [(List.getElem?_eq_some_iff.1 hg).2]; exact hbg) b' (by rw [hF]; exact hbF) rfl
            · exact (List.pairwise_iff_getElem.1 hp2) k i (by omega) (List.getElem?_eq_some_iff.1 hg).1 hgt b' (by rw [hF]; exact hbF) b' (by rw [(List.getElem?_eq_some_iff.1 hg).2]; exact hbg) rfl
          have hbF : b ∉ F1 ++ (F3 ++ F4) := fun hbm => hbn (List.mem_flatten.2 ⟨_, List.mem_of_getElem? hfk, hbm⟩)
          have hXlt : ∀ b' ∈ φ X, b' < w.heap.size := fun b' hb' => (R.lt X _ (hsub _ _ hX) rfl b' hb').1
          -- fb1 and what is not F3
          have hnew : ∀ b' ∈ fb1, b' ∈ φ X → b' ∈ F3 := fun b' hb' hbX => by
            rcases (g5 b' hb').2 with h | h
            · exact h
            · have := hXlt b' hbX; omega
          have hbox' : Box w' b T0 cells := q2.congr (g6b b q2.lt fun hb3 => hbF (List.mem_append_right _ (List.mem_append_left _ hb3)))
          obtain ⟨nd1, nd2, nd3⟩ := List.nodup_append.1 rnd
          obtain ⟨nd4, nd5, nd6⟩ := List.nodup_append.1 rnd2
          have r1' : OwVs w' (ds.take j) us F1 := OwVs.keep _ _ _ (fun b' hb' => g6b b' (OwVs.lt _ _ _ r1 b' hb') fun h3 => nd3 b' hb' b' (List.mem_append_left _ h3) rfl) r1
          have r4' : OwVs w' (ds.drop (j + 1)) ws' F4 := OwVs.keep _ _ _ (fun b' hb' => g6b b' (OwVs.lt _ _ _ r4 b' hb') fun h3 => nd6 b' h3 b' hb' rfl) r4
          have hd14 : ∀ b' ∈ F1, b' ∉ fb1 := fun b' hb' hbf => nd3 b' hb' b' (List.mem_append_left _ (hnew b' hbf (hFX b' (List.mem_append_left _ hb')))) rfl
          have hd34 : ∀ b' ∈ fb1, b' ∉ F4 := fun b' hb' hbf => nd6 b' (hnew b' hb' (hFX b' (List.mem_append_right _ (List.mem_append_right _ hbf)))) b' hbf rfl
          have hmid : OwVs w' (d' :: ds.drop (j + 1)) (v :: ws') (fb1 ++ F4) := ⟨v, ws', fb1, F4, rfl, h1', r4', rfl, List.nodup_append.2 ⟨g4, nd5, fun b' hb' b2 hb2 e => hd34 b' hb' (e ▸ hb2)⟩⟩
          have hel' : OwVs w' (enc' (ys.getD k default)) (us ++ (v :: ws')) (F1 ++ (fb1 ++ F4)) := by
            refine (hex e3).ow (r1'.app hmid fun b' hb' hb2 => ?_)
            rcases List.mem_append.1 hb2 with hb2 | hb2
            · exact hd14 b' hb' hb2
            · exact nd3 b' hb' b' (List.mem_append_right _ hb2) rfl
          have hset := OwV.set (w := w') (w' := w') (enc := enc) (enc' := enc') (ys := ys) (f := F1 ++ (fb1 ++ F4)) (nc := us ++ (v :: ws')) hyl himps f2 f3 hbox' q3 q4 (fun i x f hik hx hf => ⟨(q5 i x f hx hf).1, OwVs.keep _ _ _ (fun b' hb' => g6b b' (OwVs.lt _ _ _ (q5 i x f hx hf).2 b' hb') fun h3 => hpk i f hik hf b' hb' (List.mem_append_right _ (List.mem_append_left _ h3))) (q5 i x f hx hf).2⟩) q7 e3 hel' p1
            (fun hbm => by
              rcases List.mem_append.1 hbm with h | h
              · exact hbF (List.mem_append_left _ h)
              · rcases List.mem_append.1 h with h | h
                · exact hbF (List.mem_append_right _ (List.mem_append_left _ (hnew b h (by rw [q6]; exact List.mem_cons_self))))
                · exact hbF (List.mem_append_right _ (List.mem_append_right _ h)))
            (fun b' hb' i g hik hg hbg => by
              have hbgX : b' ∈ φ X := by rw [q6]; exact List.mem_cons_of_mem _ (List.mem_flatten.2 ⟨g, List.mem_of_getElem? hg, hbg⟩)
              refine hpk i g hik hg b' hbg ?_
              rcases List.mem_append.1 hb' with h | h
              · exact List.mem_append_left _ h
              · rcases List.mem_append.1 h with h | h
                · exact List.mem_append_right _ (List.mem_append_left _ (hnew b' h hbgX))
                · exact List.mem_append_right _ (List.mem_append_right _ h))
            (Chg.of_below (Bel.refl _ _)) (by rw [splice_same hC p1]; exact hbox')
          rw [← e1] at hset
          -- all together
          have hlk : ∀ i, fupd fsA X none i = if i = X then none else fsA i := fun i => fupd_eq _ _ _ _
          have R1 : Rel P (fupd fsA X none) β φ dom ψ IN w0 w' := by
            refine R.step0 (NN := (· = X)) (C := (· ∈ F3)) g6.ofD (dr_le hD R.chg.drawn g6.drawn) (fun _ h => ⟨h, rfl⟩) R.all1 (fun i g hg => ?_) (fun _ _ => rfl) (fun b' _ hb' => ?_) (fun i g hn hg => ?_) (fun i V d hn hg => ?_) (fun i g hn hg => ?_) (fun i1 j1 g g' hi hj hg => ?_)
            · rw [hlk] at hg
              by_cases hi : i = X
              · exact .inl hi
              · rw [if_neg hi] at hg; exact .inr hg
            · exact ⟨X, _, rfl, hsub _ _ hX, rfl, hFX b' (List.mem_append_right _ (List.mem_append_left _ hb'))⟩
            all_goals (rw [hlk, if_pos (by assumption)] at hg; cases hg)
          have hsz : w.heap.size ≤ w'.heap.size := g6.size
          have hL : RL P (fupd fsA X none) β φ dom ψ IN w0 w' ((b :: (fps.set k (F1 ++ (fb1 ++ F4))).flatten) ++ []) := ⟨R1, by rw [List.append_nil]; exact OwV.nd hset, fun b' hb' => by
            rw [List.append_nil] at hb'
            have hlt := OwV.lt _ _ _ hset b' hb'
            refine ⟨hlt, ?_⟩
            have hcase : b' ∈ φ X ∨ w.heap.size ≤ b' := by
              rcases List.mem_cons.1 hb' with rfl | hb'
              · exact .inl (by rw [q6]; exact List.mem_cons_self)
              · obtain ⟨g, hg, hag⟩ := List.mem_flatten.1 hb'
                rcases List.mem_or_eq_of_mem_set hg with hg | rfl
                · exact .inl (by rw [q6]; exact List.mem_cons_of_mem _ (List.mem_flatten.2 ⟨g, hg, hag⟩))
                · rcases List.mem_append.1 hag with hag | hag
                  · exact .inl (hFX _ (List.mem_append_left _ hag))
                  · rcases List.mem_append.1 hag with hag | hag
                    · rcases (g5 b' hag).2 with h | h
                      · exact .inl (hFX _ (List.mem_append_right _ (List.mem_append_left _ h)))
                      · exact .inr h
                    · exact .inl (hFX _ (List.mem_append_right _ (List.mem_append_right _ hag)))
            rcases hcase with hbX | hbn
            · obtain ⟨_, z1, z2⟩ := R.lt X _ (hsub _ _ hX) rfl b' hbX
              refine ⟨z1, z2, fun i g' hg' hm' hbid => ?_⟩
              rw [hlk] at hg'
              by_cases hi : i = X
              · rw [if_pos hi] at hg'; cases hg'
              · rw [if_neg hi] at hg'
                exact R.dis X i _ g' (hsub _ _ hX) hg' rfl hm' (fun e => hi e.symm) b' hbX hbid
            · refine ⟨.inl (Nat.le_trans R.chg.size hbn), fun hp => by have := R.psi b' hp; omega, fun i g' hg' hm' hbid => ?_⟩
              rw [hlk] at hg'
              by_cases hi : i = X
              · rw [if_pos hi] at hg'; cases hg'
              · rw [if_neg hi] at hg'
                have := (R.lt i g' hg' hm' b' hbid).1
                omega⟩
          have hX0 : fupd fsA X none X = none := by rw [hlk, if_pos rfl]
          have H2 := hL.add X (.own base (.l sz enc' ys)) (β X) (fun i => dom i ∨ i = base) rfl hX0 (fun _ => rfl) (R.one X hXd) (fun _ h => .inl h) (.inl hXd) ⟨.inr rfl, by rw [up_self, up_self]; exact hset⟩ (fun V d e => by cases e; exact hnb)
          rw [up_same] at H2
          have hff : fupd (fupd fsA X none) X (some (.own base (.l sz enc' ys))) = fupds fsA [(X, some (.own base (.l sz enc' ys)))] := by
            funext i
            simp only [fupds]
            rw [fupd_eq, fupd_eq, fupd_eq]
            by_cases hi : i = X
            · simp [hi]
            · simp [hi]
          rw [hff] at H2
          exact ⟨β, _, _, rfl, trivial, fun i h => ⟨.inl h, rfl⟩, fun i h => h.imp (fun h => h) fun h => by subst h; exact ⟨Nat.le_refl _, by unfold stride; omega⟩, H2.rel⟩
      · cases h
    · cases h
  · cases h

end
end Go.Proofs.YtbhjkcicpobmhaaDoor
