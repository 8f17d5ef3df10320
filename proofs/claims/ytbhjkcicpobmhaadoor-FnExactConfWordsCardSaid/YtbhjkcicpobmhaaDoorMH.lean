/-
  The machine, seventeenth part: a region, whole.
-/
import Derived.Test.YtbhjkcicpobmhaaDoorMG
namespace Go.Proofs.YtbhjkcicpobmhaaDoor
open Go.RowKit
set_option linter.unusedVariables false
set_option linter.unusedSimpArgs false

section
variable {D : Bool} {P : Program} {fs fs' : Nat → Option Fact} {β : Nat → Nat → Value} {φ : Nat → List Nat} {dom ψ IN : Nat → Prop} {w0 w w' : World}

theorem Rel.sub (R : Rel P fs β φ dom ψ IN w0 w) (h : ∀ id f, fs' id = some f → fs id = some f) : Rel P fs' β φ dom ψ IN w0 w := by
  refine ⟨fun id f hf => ?_, fun i j f g hi hj => R.dis i j f g (h _ _ hi) (h _ _ hj), fun id f hf => R.lt id f (h _ _ hf), R.psi, R.all1, R.chg, R.glo⟩
  obtain ⟨h1, h2⟩ := R.ok id f (h _ _ hf)
  refine ⟨h1, ?_⟩
  have hl : ∀ X V, Live fs' X V → Live fs X V := fun X V ⟨d, hd⟩ => ⟨d, h _ _ hd⟩
  cases f with
  | shr dep d =>
    cases dep with
    | none => exact h2
    | some XV => exact ⟨h2.1, h2.2.1, fun k => h2.2.2 (hl _ _ k)⟩
  | mem dep el ds =>
    cases dep with
    | none => exact h2
    | some XV => exact ⟨h2.1, h2.2.1, fun k => h2.2.2 (hl _ _ k)⟩
  | part X V lo sz d => exact ⟨h2.1, h2.2.1, fun k => h2.2.2 (hl _ _ k)⟩
  | _ => exact h2

theorem Rel.same (R : Rel P fs β φ dom ψ IN w0 w) (hc : Bel w.heap.size w w') : Rel P fs β φ dom ψ IN w0 w' :=
  R.step (NN := fun _ => False) (C := fun _ => False) (Chg.of_below hc) (fun _ h => ⟨h, rfl⟩) R.all1 (fun _ _ h => .inr h) (fun _ _ => rfl) (fun _ _ h => h.elim) (fun _ _ h => h.elim) (fun _ _ _ h => h.elim) (fun _ _ h => h.elim) (fun _ _ _ _ h => h.elim)
end

section
variable {D : Bool} {P : Program} {l : List Oper} {N : Nat} {sl0 : Nat → Option AV} {fs0 : Nat → Option Fact} {nx : Nat} {anc : Nat → Nat → Bool} {cont : Nat → Nat → Bool} {hs : List (Nat × Hint D P)} {rs : List RI} {ψ IN : Nat → Prop} {w0 : World}

theorem runI_ok : ∀ (os : List Oper) (i : Nat) (done : List RI), runI P l sl0 fs0 nx anc cont hs i os done = some rs → done.length = i →
    rs.length = i + os.length ∧ rs.take i = done ∧ ∀ (j : Nat) (o : Oper), os[j]? = some o → ∃ ri, rs[i + j]? = some ri ∧ evI P l sl0 fs0 nx anc cont hs (rs.take (i + j)) (i + j) o = some ri
  | [], i, done, h, hd => by
    simp only [runI, Option.some.injEq] at h
    subst h
    exact ⟨by simpa using hd, by rw [← hd]; exact List.take_length, fun j o hj => by simp at hj⟩
  | o :: os, i, done, h, hd => by
    simp only [runI] at h
    split at h
    · rename_i ri hri
      obtain ⟨h1, h2, h3⟩ := runI_ok os (i + 1) (done ++ [ri]) h (by simp [hd])
      have ht : rs.take i = done := by
        have := congrArg (List.take i) h2
        rw [List.take_take, Nat.min_eq_left (by omega)] at this
        rw [this, List.take_append_of_le_length (by omega), List.take_of_length_le (by omega)]
      have hri2 : rs[i]? = some ri := by
        have := congrArg (fun x : List RI => x[i]?) h2
        simp only [List.getElem?_take, Nat.lt_succ_self, if_true] at this
        rw [this, List.getElem?_append_right (by omega), hd, Nat.sub_self]
        rfl
      refine ⟨by rw [h1, List.length_cons]; omega, ht, fun j o' hj => ?_⟩
      cases j with
      | zero =>
        simp only [List.getElem?_cons_zero, Option.some.injEq] at hj
        subst hj
        exact ⟨ri, hri2, by rw [Nat.add_zero, ht]; exact hri⟩
      | succ j =>
        obtain ⟨rj, g1, g2⟩ := h3 j o' (by simpa using hj)
        rw [show i + 1 + j = i + (j + 1) by omega] at g1 g2
        exact ⟨rj, g1, g2⟩
    · cases h

theorem chkAll_ok : ∀ (os : List Oper) (rs : List RI) (i : Nat), chkAll l N anc cont i os rs = true → ∀ (j : Nat) (o : Oper) (ri : RI), os[j]? = some o → rs[j]? = some ri → chkI l N anc cont (i + j) o ri = true
  | [], rs, i, h, j, o, ri, hj, _ => by simp at hj
  | o :: os, [], i, h, j, o', ri, _, hj => by simp at hj
  | o :: os, ri :: rs, i, h, j, o', ri', hj, hr => by
    simp only [chkAll, Bool.and_eq_true] at h
    cases j with
    | zero =>
      simp only [List.getElem?_cons_zero, Option.some.injEq] at hj hr
      subst hj; subst hr
      exact h.1
    | succ j =>
      have := chkAll_ok os rs (i + 1) h.2 j o' ri' (by simpa using hj) (by simpa using hr)
      rw [show i + (j + 1) = i + 1 + j by omega]
      exact this

theorem impAll_ok : ∀ {cs : List Prop} {p : Prop}, impAll cs p → (∀ c ∈ cs, c) → p
  | [], p, h, _ => h
  | c :: cs, p, h, hc => impAll_ok (h (hc c List.mem_cons_self)) fun c' h' => hc c' (List.mem_cons_of_mem _ h')
theorem allP_map {f : Prop → Prop} : ∀ {ps : List Prop}, AllP (ps.map f) → (∀ p, f p → p) → AllP ps
  | [], _, _ => trivial
  | p :: ps, h, hf => ⟨hf p h.1, allP_map h.2 hf⟩
theorem vcs_ok : ∀ (r : List RI), AllP (vcsOf rs r) → ∀ (i : Nat) (ri : RI), r[i]? = some ri → condI rs ri → AllP ri.r.vcs
  | [], _, i, ri, hi, _ => by simp at hi
  | r0 :: r, h, i, ri, hi, hc => by
    obtain ⟨h1, h2⟩ := AllP.app h
    cases i with
    | zero =>
      simp only [List.getElem?_cons_zero, Option.some.injEq] at hi
      subst hi
      refine allP_map h1 fun p hp => impAll_ok hp fun c hcm => ?_
      obtain ⟨key, hk, rfl⟩ := List.mem_map.1 hcm
      exact hc key hk
    | succ i => exact vcs_ok r h2 i ri (by simpa using hi) hc

theorem pushS_cases {t : Nat} {av : AV} : ∀ (os : List Oper) (rs : List RI) (sl : List (Nat × Option AV)), os.length = rs.length → slG (pushS sl os rs) t = some av →
    (∃ (k : Nat) (o : Oper) (ri : RI), os[k]? = some o ∧ rs[k]? = some ri ∧ o.dst = some t ∧ ri.keys = [] ∧ av = ri.r.av) ∨ (slG sl t = some av ∧ ∀ (k : Nat) (o : Oper), os[k]? = some o → o.dst ≠ some t)
  | [], [], sl, _, h => .inr ⟨h, fun k o hk => by simp at hk⟩
  | [], _ :: _, sl, hl, _ => by simp at hl
  | _ :: _, [], sl, hl, _ => by simp at hl
  | o :: os, ri :: rs, sl, hl, h => by
    have lift : (∃ (k : Nat) (o' : Oper) (ri' : RI), os[k]? = some o' ∧ rs[k]? = some ri' ∧ o'.dst = some t ∧ ri'.keys = [] ∧ av = ri'.r.av) → ∃ (k : Nat) (o' : Oper) (ri' : RI), (o :: os)[k]? = some o' ∧ (ri :: rs)[k]? = some ri' ∧ o'.dst = some t ∧ ri'.keys = [] ∧ av = ri'.r.av :=
      fun ⟨k, o', ri', h1, h2, h3⟩ => ⟨k + 1, o', ri', by simpa using h1, by simpa using h2, h3⟩
    have hall : o.dst ≠ some t → (∀ (k : Nat) (o' : Oper), os[k]? = some o' → o'.dst ≠ some t) → ∀ (k : Nat) (o' : Oper), (o :: os)[k]? = some o' → o'.dst ≠ some t := by
      intro hne ha k o' hk
      cases k with
      | zero => simp only [List.getElem?_cons_zero, Option.some.injEq] at hk; exact hk ▸ hne
      | succ k => exact ha k o' (by simpa using hk)
    simp only [pushS] at h
    cases hd : o.dst with
    | none =>
      rw [hd] at h
      rcases pushS_cases os rs sl (by simpa using hl) h with h1 | ⟨h1, h2⟩
      · exact .inl (lift h1)
      · exact .inr ⟨h1, hall (by rw [hd]; simp) h2⟩
    | some d =>
      rw [hd] at h
      rcases pushS_cases os rs _ (by simpa using hl) h with h1 | ⟨h1, h2⟩
      · exact .inl (lift h1)
      · simp only [slG] at h1
        cases hb : Nat.beq d t with
        | false =>
          rw [hb] at h1
          exact .inr ⟨h1, hall (by rw [hd]; intro e; simp only [Option.some.injEq] at e; subst e; simp at hb) h2⟩
        | true =>
          rw [hb] at h1
          simp only [cond_true] at h1
          have hdt := Nat.eq_of_beq_eq_true hb
          cases hk : ri.keys with
          | nil =>
            rw [hk] at h1
            simp only [keepA, Option.some.injEq] at h1
            exact .inl ⟨0, o, ri, rfl, rfl, by rw [hd, hdt], hk, h1.symm⟩
          | cons x xs => rw [hk] at h1; cases h1

theorem fsG_rev (g : Nat × Option Fact → Option Fact) (fs : List (Nat × Option Fact)) (id : Nat) : ∀ (sets : List (Nat × Option Fact)), fsG ((sets.map fun p => (p.1, g p)).reverse ++ fs) id = (match setsGet sets id with | some o => g (id, o) | none => fsG fs id)
  | [] => rfl
  | (i, o) :: sets => by
    simp only [List.map_cons, List.reverse_cons, List.append_assoc, List.singleton_append]
    rw [fsG_rev g ((i, g (i, o)) :: fs) id sets]
    simp only [setsGet]
    cases setsGet sets id with
    | some x => rfl
    | none =>
      simp only [fsG]
      cases hb : Nat.beq i id with
      | true =>
        have := Nat.eq_of_beq_eq_true hb
        subst this
        rfl
      | false => rfl

theorem mrgV_ok {b : Bool} {x y v : Value} (h : mrgV b x y = some v) : v = bif b then y else x := by
  unfold mrgV at h
  split at h
  · split at h
    · rename_i hk
      subst hk
      simp only [Option.some.injEq] at h
      subst h
      cases b <;> rfl
    · cases h
  · simp only [Option.some.injEq] at h
    subst h
    cases b <;> rfl
  · cases h
theorem mrgA_ok {b : Bool} {x y v : AV} (h : mrgA b x y = some v) : v = bif b then y else x := by
  unfold mrgA at h
  split at h
  · obtain ⟨v, h1, rfl⟩ := Option.map_eq_some_iff.1 h
    rw [mrgV_ok h1]
    cases b <;> rfl
  · rename_i g i g' i'
    cases hb : (Nat.beq g g' && Nat.beq i i') with
    | false => rw [hb] at h; cases h
    | true =>
      rw [hb] at h
      simp only [Bool.and_eq_true] at hb
      have e1 := Nat.eq_of_beq_eq_true hb.1
      have e2 := Nat.eq_of_beq_eq_true hb.2
      subst e1; subst e2
      simp only [cond_true, Option.some.injEq] at h
      rw [← h]
      cases b <;> rfl
  · cases h
theorem mrgL_ok {b : Bool} : ∀ {xs ys vs : List AV}, mrgL b xs ys = some vs → vs = bif b then ys else xs
  | [], [], vs, h => by
    simp only [mrgL, Option.some.injEq] at h
    rw [← h]; cases b <;> rfl
  | a :: xs, c :: ys, vs, h => by
    simp only [mrgL] at h
    split at h
    · rename_i x v h1 h2
      simp only [Option.some.injEq] at h
      rw [← h, mrgA_ok h1, mrgL_ok h2]
      cases b <;> rfl
    · cases h
  | [], _ :: _, vs, h => by simp [mrgL] at h
  | _ :: _, [], vs, h => by simp [mrgL] at h
theorem mrgF_ok {b : Bool} {x y : Option Fact} {f : Fact} (h : mrgF b x y = some f) : (bif b then y else x) = some f := by
  unfold mrgF at h
  split at h
  · rename_i T cs T' cs'
    cases hb : Nat.beq T T' with
    | false => rw [hb] at h; cases h
    | true =>
      rw [hb] at h
      have e1 := Nat.eq_of_beq_eq_true hb
      subst e1
      simp only [cond_true] at h
      obtain ⟨ms, h1, rfl⟩ := Option.map_eq_some_iff.1 h
      rw [mrgL_ok h1]
      cases b <;> rfl
  · cases h

theorem pushF_ok {E : Nat → Bool} {id : Nat} {f : Fact} {rs0 : List RI} : ∀ (rs : List RI) (fs : List (Nat × Option Fact)) (k : Nat) (x : Option Fact), (∀ (j : Nat) (ri : RI), rs[j]? = some ri → (ri.keys = [] → E (k + j) = true) ∧ ∀ b, keyB rs0 ri.keys = some b → E (k + j) = b) → (∀ g, fsG fs id = some g → x = some g) → fsG (pushF rs0 fs rs) id = some f → fsP E id k rs x = some f
  | [], fs, k, x, _, hx, h => hx f h
  | ri :: rs, fs, k, x, hE, hx, h => by
    simp only [pushF] at h
    simp only [fsP]
    refine pushF_ok rs _ (k + 1) _ (fun j rj hj => by have := hE (j + 1) rj (by simpa using hj); rwa [show k + (j + 1) = k + 1 + j by omega] at this) ?_ h
    intro g hg
    rw [fsG_rev (mrgS rs0 fs ri.keys)] at hg
    obtain ⟨e0, e1⟩ := hE 0 ri rfl
    rw [Nat.add_zero] at e0 e1
    cases hs : setsGet ri.r.sets id with
    | none =>
      rw [hs] at hg
      simp only at hg
      have e : (bif E k then Option.getD none x else x) = x := by cases E k <;> rfl
      rw [e]
      exact hx g hg
    | some o =>
      rw [hs] at hg
      simp only at hg
      cases hk : ri.keys with
      | nil =>
        rw [hk] at hg
        rw [e0 hk]
        exact hg
      | cons y ys =>
        rw [hk] at hg e1
        unfold mrgS at hg
        simp only at hg
        cases hb : keyB rs0 (y :: ys) with
        | none => rw [hb] at hg; cases hg
        | some b =>
          rw [hb] at hg
          simp only at hg
          have h2 := mrgF_ok hg
          rw [e1 b hb]
          cases b with
          | true => exact h2
          | false => exact hx g h2

/-- a region, by what has been reckoned -/
theorem reg_of_reck (hD : D = false → w0.drawn = 0) {s : St} (H : Reck P l N (slG s.sl) (fsG s.fs) s.nx anc cont hs rs) (hv : AllP (vcsOf rs rs)) (Q : Exit → Act → World → Prop) :
    (∀ S a w i o, l[i]? = some o → ¬ S i → (∀ k, anc i k = true → S k) → (∀ k, S k → anc k i = false) → (∃ E β φ dom, Inv2 P l N (slG s.sl) (fsG s.fs) s.nx rs ψ IN w0 S E β φ dom a w) → wpOp P l.toArray Q i (fun a' w' => ∃ E β φ dom, Inv2 P l N (slG s.sl) (fsG s.fs) s.nx rs ψ IN w0 (fun k => S k ∨ k = i) E β φ dom a' w') a w) ∧
    (∀ a w, (∃ E β φ dom, Inv2 P l N (slG s.sl) (fsG s.fs) s.nx rs ψ IN w0 (fun k => k < l.length) E β φ dom a w) → Holds P N ψ IN w0 ⟨pushS s.sl l rs, pushF rs s.fs rs, s.nx + stride * l.length⟩ a w) ∧
    (∀ S S' a w, (∀ i, i < l.length → (S i ↔ S' i)) → (∃ E β φ dom, Inv2 P l N (slG s.sl) (fsG s.fs) s.nx rs ψ IN w0 S E β φ dom a w) → ∃ E β φ dom, Inv2 P l N (slG s.sl) (fsG s.fs) s.nx rs ψ IN w0 S' E β φ dom a w) ∧
    (∀ a w, Holds P N ψ IN w0 s a w → ∃ E β φ dom, Inv2 P l N (slG s.sl) (fsG s.fs) s.nx rs ψ IN w0 (fun _ => False) E β φ dom a w) := by
  have hl : ∀ (k : Nat) (o : Oper), l[k]? = some o → k < l.length := fun k o h => (List.getElem?_eq_some_iff.1 h).1
  have hr : ∀ (k : Nat) (r : RI), rs[k]? = some r → k < l.length := fun k o h => by rw [← H.len]; exact (List.getElem?_eq_some_iff.1 h).1
  refine ⟨fun S a w i o ho hi hS hS' ⟨E, β, φ, dom, V⟩ => V.step hD H (vcs_ok rs hv) ho hi hS hS', fun a w ⟨E, β, φ, dom, V⟩ => ⟨β, φ, dom, V.size, V.defers, fun t av ht => ?_, V.rel.sub fun id f hf => ?_, fun id hid => ?_⟩, fun S S' a w hSS ⟨E, β, φ, dom, V⟩ => ?_, fun a w ⟨β, φ, dom, V⟩ => ?_⟩
  · rcases pushS_cases l rs s.sl H.len.symm ht with ⟨k, o, ri, h1, h2, h3, h4, rfl⟩ | ⟨h1, h2⟩
    · have hc : condI rs ri := fun key hk => by rw [h4] at hk; cases hk
      exact ⟨V.new k o ri t h1 h2 (hl k o h1) h3 hc, V.newwf k ri h2 (hl k o h1) hc⟩
    · exact ⟨V.old t av h1 fun k o hk _ => h2 k o hk, V.oldwf t av h1⟩
  · refine pushF_ok rs s.fs 0 _ (fun j ri hj => ⟨fun hk => ?_, fun b hb => ?_⟩) (fun g h => h) hf
    · rw [Nat.zero_add]
      exact (V.exec j ri hj).2 ⟨hr j ri hj, fun key hkm => by rw [hk] at hkm; cases hkm⟩
    · rw [Nat.zero_add]
      have hx := V.exec j ri hj
      unfold keyB at hb
      split at hb
      · rename_i jk w hks
        split at hb
        · rename_i rj hrj
          split at hb
          · rename_i b0 hk0 ha0
            simp only [Option.some.injEq] at hb
            have hc : condI rs ri ↔ b0 = w := by
              unfold condI
              rw [hks]
              simp only [List.mem_singleton, forall_eq, kap, hrj, ha0]
            rw [hc] at hx
            have hj' := hr j ri hj
            rw [Bool.eq_iff_iff, hx, ← hb]
            cases w <;> cases b0 <;> simp [hj']
          · cases hb
        · cases hb
      · cases hb
  · rcases V.bound id hid with h | ⟨k, h1, h2, h3⟩
    · show id < s.nx + stride * l.length
      omega
    · show id < s.nx + stride * l.length
      unfold stride at *
      omega
  · refine ⟨E, β, φ, dom, fun k ri hk => ?_, V.size, V.defers, fun t av hs hn => V.old t av hs fun k o hk hS => hn k o hk ((hSS k (hl k o hk)).1 hS), V.oldwf, fun k o ri t h1 h2 hS => V.new k o ri t h1 h2 ((hSS k (hl k o h1)).2 hS), fun k ri h1 hS => V.newwf k ri h1 ((hSS k (hr k ri h1)).2 hS), fun k o ri t h1 h2 hS => V.skip k o ri t h1 h2 ((hSS k (hl k o h1)).2 hS), V.rel, fun id hid => ?_⟩
    · rw [V.exec k ri hk, hSS k (hr k ri hk)]
    · rcases V.bound id hid with h | ⟨k, h1, h2, h3⟩
      · exact .inl h
      · exact .inr ⟨k, ⟨(hSS k h1.2).1 h1.1, h1.2⟩, h2, h3⟩
  · refine ⟨fun _ => false, β, φ, dom, fun k ri hk => by simp, V.size, V.defers, fun t av hs _ => (V.has t av hs).1, fun t av hs => (V.has t av hs).2, fun _ _ _ _ _ _ h => h.elim, fun _ _ _ h => h.elim, fun _ _ _ _ _ _ h => h.elim, ?_, fun id hid => .inl (V.bound id hid)⟩
    have e : (fun id => fsP (fun _ => false) id 0 rs (fsG s.fs id)) = fsG s.fs := by
      funext id
      exact fsP_const rs 0 _ fun j ri hj h => by cases h
    rw [e]
    exact V.rel

theorem ancT_iff {i k : Nat} : ancT i k = true ↔ k < i := by simp [ancT]
theorem ancT_no {i k : Nat} : ancT i k = false ↔ ¬ k < i := by rw [← ancT_iff]; simp

/-- some slots are as they were -/
def Par (n : List Nat) (a a' : Act) : Prop := ∀ t, t ∈ n → a'.tmps[t]? = a.tmps[t]?
def parD (n : List Nat) : Option Tmp → Bool
  | some d => !(n.any (Nat.beq d))
  | none => true
/-- nothing is put into these slots -/
def parL (n : List Nat) (l : List Oper) : Bool := l.all fun o => parD n o.dst

theorem Par.put {n : List Nat} {a0 a : Act} (h : Par n a0 a) {o : Oper} (ho : parD n o.dst = true) (v : Value) : Par n a0 (a.put o.dst v) := by
  intro t ht
  rw [← h t ht]
  cases hd : o.dst with
  | none => rfl
  | some d =>
    rw [hd] at ho
    have hne : d ≠ t := fun e => by
      have : n.any (Nat.beq d) = true := List.any_eq_true.2 ⟨t, ht, by rw [e]; simp⟩
      simp [parD, this] at ho
    simp only [Act.put]
    rw [Array.getElem?_setIfInBounds_ne hne]

theorem wpOp_par {n : List Nat} {i : Nat} {a0 a : Act} {w : World} {K : Act → World → Prop} {Q : Exit → Act → World → Prop} (hl : parL n l = true) (h0 : Par n a0 a) (h : wpOp P l.toArray Q i K a w) : wpOp P l.toArray Q i (fun a' w' => K a' w' ∧ Par n a0 a') a w := by
  unfold wpOp at h ⊢
  cases ho : l.toArray[i]? with
  | none => rw [ho] at h; exact ⟨h, h0⟩
  | some o =>
    rw [ho] at h
    have hp : parD n o.dst = true := List.all_eq_true.1 hl o (List.mem_of_getElem? (by simpa using ho))
    simp only at h ⊢
    split at h
    · rename_i hw
      rw [if_pos hw]
      refine h.imp (fun h => ?_) id
      unfold Oper.wp at h ⊢
      generalize (execOp a.eval o).run P w = r at h ⊢
      cases r with
      | ok nx w' =>
        cases nx <;> simp only [Oper.upon] at h ⊢ <;> first
          | exact ⟨h, h0.put hp _⟩
          | (rename_i d; exact ⟨h, Par.put (n := n) (a0 := a0) (a := { a with defers := d :: a.defers }) (fun t ht => h0 t ht) hp undef⟩)
          | exact Calls.mono h fun e w2 hh => by cases e <;> first | exact ⟨hh, h0.put hp _⟩ | exact hh
          | exact Rows.mono h fun v w2 hh => ⟨hh, h0.put hp _⟩
          | exact h
      | halt x w' => cases x <;> simp only [Oper.upon] at h ⊢ <;> exact h
    · rename_i hw
      rw [if_neg hw]
      exact ⟨h, h0.put hp _⟩

/-- **A REGION.** -/
theorem regSt_ok (hD : D = false → w0.drawn = 0) (hm : P.follows .mixedOrders = true) {s s' : St} {draw : Bool} {hs : List (Nat × Hint D P)} {vcs : List Prop} (h : regSt P N s l draw hs = some (vcs, s')) (hv : AllP vcs) {a : Act} {w : World} (H : Holds P N ψ IN w0 s a w) {Q : Exit → Act → World → Prop} {n : List Nat} (hpar : parL n l = true)
    (hQ : ∀ a' w', Holds P N ψ IN w0 s' a' w' → Par n a a' → Q .normal a' w') (id : Nat) : (Code.region id l.toArray draw).wp P Q a w := by
  unfold regSt at h
  split at h
  · -- the text's order
    split at h
    · rename_i rs hrs
      cases hc : chkAll l N ancT (fun _ _ => false) 0 l rs with
      | false => rw [hc] at h; cases h
      | true =>
        rw [hc] at h
        simp only [cond_true, Option.some.injEq, Prod.mk.injEq] at h
        obtain ⟨rfl, rfl⟩ := h
        obtain ⟨r1, r2, r3⟩ := runI_ok l 0 [] hrs rfl
        have HR : Reck P l N (slG s.sl) (fsG s.fs) s.nx ancT (fun _ _ => false) hs rs := by
          refine ⟨fun i o ho => ?_, fun i o ri ho hr => ?_, by omega, fun i k hk => by simpa [ancT] using hk, fun i j rj p hne hj hp h1 h2 => ?_⟩
          · have := r3 i o ho; rwa [Nat.zero_add] at this
          · have := chkAll_ok l rs 0 hc i o ri ho hr; rwa [Nat.zero_add] at this
          · exfalso
            rw [ancT_no] at h1 h2
            omega
        obtain ⟨q1, q2, q3, q4⟩ := reg_of_reck (w0 := w0) (ψ := ψ) (IN := IN) hD HR hv Q
        refine wp_region ?_
        rw [List.range_eq_range']
        have := ops_text (P := P) (l := l) (Q := Q) (Inv := fun S a' w' => (∃ E β φ dom, Inv2 P l N (slG s.sl) (fsG s.fs) s.nx rs ψ IN w0 S E β φ dom a' w') ∧ Par n a a') (fun S S' a w e h => ⟨q3 S S' a w e h.1, h.2⟩) (fun S a w i o ho hS hI => wpOp_par hpar hI.2 <| q1 S a w i o ho (fun h => by have := (hS i).1 h; omega) (fun k hk => (hS k).2 (by simpa [ancT] using hk)) (fun k hk => by
          have := (hS k).1 hk
          rw [ancT_no]; omega) hI.1) (fun a w h => hQ a w (q2 a w h.1) h.2) l.length 0 (by omega) a w ⟨q3 _ _ a w (fun i _ => by simp) (q4 a w H), fun _ _ => rfl⟩
        simpa using this
    · cases h
  · -- any order
    split at h
    · rename_i rs1 hrs1
      split at h
      · rename_i rs hrs
        cases hc : (backB l && subIds (idsOf rs) (idsOf rs1) && chkAll l N (ancD (msks l [])) (contB (ancD (msks l [])) (idsOf rs1)) 0 l rs) with
        | false => rw [hc] at h; cases h
        | true =>
          rw [hc] at h
          simp only [cond_true, Option.some.injEq, Prod.mk.injEq] at h
          obtain ⟨rfl, rfl⟩ := h
          simp only [Bool.and_eq_true] at hc
          obtain ⟨⟨hbk, hsb⟩, hc⟩ := hc
          obtain ⟨r1, r2, r3⟩ := runI_ok l 0 [] hrs rfl
          have back : ∀ (i : Nat) (o : Oper), l[i]? = some o → ∀ e ∈ o.after, Region.binds .any e = true → e.on < i := by
            intro i o ho e he hb
            have hmem : (o, i) ∈ l.zipIdx := by rw [List.mem_zipIdx_iff_getElem?]; exact ho
            have := List.all_eq_true.1 (List.all_eq_true.1 hbk _ hmem) e (by simpa using he)
            simp only [hb, Bool.not_true, Bool.false_or] at this
            simpa using this
          have hsub : ∀ (as bs : List (List Nat)), subIds as bs = true → ∀ (j : Nat) (x : List Nat), as[j]? = some x → ∃ y, bs[j]? = some y ∧ ∀ i ∈ x, i ∈ y := by
            intro as
            induction as with
            | nil => intro bs _ j x hj; simp at hj
            | cons a as ih =>
              intro bs hb j x hj
              cases bs with
              | nil => simp [subIds] at hb
              | cons b bs =>
                simp only [subIds, Bool.and_eq_true] at hb
                cases j with
                | zero =>
                  simp only [List.getElem?_cons_zero, Option.some.injEq] at hj
                  subst hj
                  refine ⟨b, rfl, fun i hi => ?_⟩
                  obtain ⟨i', h1, h2⟩ := List.any_eq_true.1 (List.all_eq_true.1 hb.1 i hi)
                  exact Nat.eq_of_beq_eq_true h2 ▸ h1
                | succ j => exact ih bs hb.2 j x (by simpa using hj)
          have HR : Reck P l N (slG s.sl) (fsG s.fs) s.nx (ancD (msks l [])) (contB (ancD (msks l [])) (idsOf rs1)) hs rs := by
            refine ⟨fun i o ho => ?_, fun i o ri ho hr => ?_, by omega, fun i k hk => ?_, fun i j rj p hne hj hp h1 h2 => ?_⟩
            · have := r3 i o ho; rwa [Nat.zero_add] at this
            · have := chkAll_ok l rs 0 hc i o ri ho hr; rwa [Nat.zero_add] at this
            · simp only [ancD, Bool.and_eq_true] at hk
              simpa using hk.1
            · obtain ⟨y, hy, hin⟩ := hsub _ _ hsb j (rj.r.sets.map (·.1)) (by simp [idsOf, hj])
              refine List.any_eq_true.2 ⟨(y, j), by rw [List.mem_zipIdx_iff_getElem?]; exact hy, ?_⟩
              have hb : Nat.beq j i = false := Bool.eq_false_iff.2 fun h => hne (Nat.eq_of_beq_eq_true h)
              simp only [hb, h1, h2, Bool.not_false, Bool.true_and]
              exact List.any_eq_true.2 ⟨p.1, hin _ (List.mem_map.2 ⟨p, hp, rfl⟩), by simp⟩
          obtain ⟨q1, q2, q3, q4⟩ := reg_of_reck (w0 := w0) (ψ := ψ) (IN := IN) hD HR hv Q
          refine wp_region_any hm ?_
          have hfalse : ∀ j, (Array.replicate l.length false).getD j false = true ↔ False := by
            intro j
            simp only [Array.getD_eq_getD_getElem?, Array.getElem?_replicate]
            split <;> simp
          obtain ⟨β, φ, dom, V⟩ := H
          have H2 : Holds P N ψ IN w0 s a { w with drawn := w.drawn + 1 } := ⟨β, φ, dom, V.size, V.defers, V.has, V.rel.same ⟨⟨rfl, rfl, rfl, Nat.le_refl _, fun _ _ => rfl⟩, Nat.le_succ _⟩, V.bound⟩
          have := ops_any (P := P) (l := l) (Q := Q) (Inv := fun S a' w' => (∃ E β φ dom, Inv2 P l N (slG s.sl) (fsG s.fs) s.nx rs ψ IN w0 S E β φ dom a' w') ∧ Par n a a') (fun S S' a w e h => ⟨q3 S S' a w e h.1, h.2⟩) back (fun S a w i o ho hn hpre hd hI => wpOp_par hpar hI.2 <| q1 S a w i o ho hn (fun k hk => by
              simp only [ancD, Bool.and_eq_true] at hk
              exact mask_closed (l := l) (SS := S) (m := l.length) (fun i o ho _ => back i o ho) (fun k ok hok hk => hd k ok hok hk) i o (List.getElem?_eq_some_iff.1 ho).1 ho hpre k hk.2) (fun k hk => by
              cases ha : ancD (msks l []) k i with
              | false => rfl
              | true =>
                exfalso
                simp only [ancD, Bool.and_eq_true] at ha
                rcases Nat.lt_or_ge k l.length with hkl | hkl
                · exact hn (mask_closed (l := l) (SS := S) (m := l.length) (fun i o ho _ => back i o ho) (fun k ok hok hk => hd k ok hok hk) k l[k] hkl (List.getElem?_eq_getElem hkl) (hd k l[k] (List.getElem?_eq_getElem hkl) hk) i ha.2)
                · have hz : (msks l []).getD k 0 = 0 := by
                    have hlen : ∀ (l : List Oper) (acc : List Nat), (msks l acc).length = acc.length + l.length := by
                      intro l
                      induction l with
                      | nil => intro acc; simp [msks]
                      | cons o l ih => intro acc; simp only [msks, ih]; simp; omega
                    rw [List.getD_eq_getElem?_getD, List.getElem?_eq_none (by rw [hlen]; simpa using hkl)]
                    rfl
                  rw [hz] at ha
                  simp at ha) hI.1) (fun a w h => hQ a w (q2 a w h.1) h.2) l.length (Array.replicate l.length false) a { w with drawn := w.drawn + 1 } (by simp) (by simp) (fun k ok _ h => ((hfalse k).1 h).elim) ⟨q3 _ _ a _ (fun i _ => (hfalse i).symm) (q4 a _ H2), fun _ _ => rfl⟩
          simpa using this
      · cases h
    · cases h

end
end Go.Proofs.YtbhjkcicpobmhaaDoor
