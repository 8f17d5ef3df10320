/-
  The machine, sixteenth part: one operation comes up; the region's end.
-/
import Derived.Test.YtbhjkcicpobmhaaDoorMF
namespace Go.Proofs.YtbhjkcicpobmhaaDoor
open Go.RowKit
set_option linter.unusedVariables false
set_option linter.unusedSimpArgs false

section
variable {D : Bool} {P : Program} {l : List Oper} {N : Nat} {sl0 : Nat → Option AV} {fs0 : Nat → Option Fact} {nx : Nat} {anc : Nat → Nat → Bool} {cont : Nat → Nat → Bool} {hs : List (Nat × Hint D P)} {rs : List RI} {ψ IN : Nat → Prop} {w0 : World}

theorem chkI_ok {i : Nat} {o : Oper} {ri : RI} (h : chkI l N anc cont i o ri = true) :
    dstOk N o.dst = true ∧ (∀ cs b, o.op ≠ .select cs b) ∧ (∀ p ∈ ri.r.sets, cont i p.1 = false) ∧
    (∀ (k : Nat) (ok : Oper) (d : Nat), l[k]? = some ok → k ≠ i → ok.dst = some d → o.dst ≠ some d ∧ (d ∈ readsOf l o → anc i k = true ∨ anc k i = true)) := by
  simp only [chkI, Bool.and_eq_true] at h
  obtain ⟨⟨⟨h1, h2⟩, h3⟩, h4⟩ := h
  refine ⟨h1, fun cs b hc => ?_, fun p hp => ?_, fun k ok d hok hne hd => ?_⟩
  · simp [hc] at h2
  · have := List.all_eq_true.1 h3 p hp
    simpa using this
  · have hmem : (ok, k) ∈ l.zipIdx := by rw [List.mem_zipIdx_iff_getElem?]; exact hok
    have := List.all_eq_true.1 h4 _ hmem
    have hkb : Nat.beq k i = false := Bool.eq_false_iff.2 fun h => hne (Nat.eq_of_beq_eq_true h)
    simp only [hkb, Bool.false_or, hd, Bool.and_eq_true, Bool.or_eq_true, Bool.not_eq_true'] at this
    refine ⟨fun hdo => ?_, fun hmt => ?_⟩
    · rw [hdo] at this
      have h0 := this.1
      simp at h0
    · rcases this.2 with (h0 | h0) | h0
      · have : (readsOf l o).any (fun t => Nat.beq t d) = true := List.any_eq_true.2 ⟨d, hmt, by simp⟩
        rw [this] at h0; cases h0
      · exact .inl h0
      · exact .inr h0

theorem opA_pick {a b c : Operand} {d : Option Tmp} {ty : TypeId} {pos : String} {af : Array Edge} {g : Option (Nat × Bool)} {w : World} {ρ : Operand → Value} {cb x y : Bool} (h : ρ c = .bool cb) (h1 : cb = true → ρ a = .bool x) (h2 : cb = false → ρ b = .bool y) :
    (execOp ρ ⟨d, .pick c a b, ty, pos, af, g⟩).run P w = .ok (.value (.bool (bif cb then x else y))) w := by
  cases cb with
  | true => simp [execOp, h, asBool, h1 rfl]
  | false => simp [execOp, h, asBool, h2 rfl]

/-- ONE OPERATION COMES UP. -/
theorem Inv2.step (hD : D = false → w0.drawn = 0) (H : Reck P l N sl0 fs0 nx anc cont hs rs) (hvc : ∀ (i : Nat) (ri : RI), rs[i]? = some ri → condI rs ri → AllP ri.r.vcs) {Q : Exit → Act → World → Prop} {S : Nat → Prop} {E : Nat → Bool} {β : Nat → Nat → Value} {φ : Nat → List Nat} {dom : Nat → Prop} {a : Act} {w : World}
    (V : Inv2 P l N sl0 fs0 nx rs ψ IN w0 S E β φ dom a w) {i : Nat} {o : Oper} (ho : l[i]? = some o) (hi : ¬ S i) (hS : ∀ k, anc i k = true → S k) (hS' : ∀ k, S k → anc k i = false) :
    wpOp P l.toArray Q i (fun a' w' => ∃ E' β' φ' dom', Inv2 P l N sl0 fs0 nx rs ψ IN w0 (fun k => S k ∨ k = i) E' β' φ' dom' a' w') a w := by
  obtain ⟨ri, hri, hev⟩ := H.ev i o ho
  obtain ⟨c1, c2, c3, c4⟩ := chkI_ok (H.chk i o ri ho hri)
  have hil : i < l.length := (List.getElem?_eq_some_iff.1 ho).1
  have hpre : ∀ (j : Nat) (rj : RI), (rs.take i)[j]? = some rj ↔ j < i ∧ rs[j]? = some rj := by
    intro j rj
    rw [List.getElem?_take]
    by_cases h : j < i
    · simp [h]
    · simp [h]
  -- slots
  have hslot : ∀ (keys : List (Nat × Bool)) (t : Nat) (av : AV), (∀ key ∈ keys, kap rs key) → lookS (anc i) keys t (sl0 t) 0 l (rs.take i) = some av → av.wf dom ∧ (t ∈ readsOf l o → a.tmps[t]? = some (val β av)) ∧
      (∀ (jc : Nat) (ojc : Oper), jc < i → l[jc]? = some ojc → ojc.dst = some t → ∃ rj, rs[jc]? = some rj ∧ av = rj.r.av) := by
    intro keys t av hk h
    rcases lookS_cases l _ 0 h with ⟨j, oj, rj, h1, h2, h3, h4, h5, rfl⟩ | ⟨h1, h2⟩
    · rw [Nat.zero_add] at h4
      obtain ⟨hji, h2⟩ := (hpre j rj).1 h2
      have hSj := hS j h4
      have hcj : condI rs rj := keySub_ok h5 hk
      refine ⟨V.newwf j rj h2 hSj hcj, fun _ => V.new j oj rj t h1 h2 hSj h3 hcj, fun jc ojc hjc hojc hd => ?_⟩
      by_cases hjj : jc = j
      · subst hjj; exact ⟨rj, h2, rfl⟩
      · exfalso
        obtain ⟨rjc, hrjc, _⟩ := H.ev jc ojc hojc
        exact ((chkI_ok (H.chk jc ojc rjc hojc hrjc)).2.2.2 j oj t h1 (Ne.symm hjj) h3).1 hd
    · have hnw : ∀ (k : Nat) (ok : Oper), k < i → l[k]? = some ok → ok.dst ≠ some t := by
        intro k ok hki hok
        obtain ⟨rk, hrk, _⟩ := H.ev k ok hok
        exact h2 k ok rk hok ((hpre k rk).2 ⟨hki, hrk⟩)
      refine ⟨V.oldwf t av h1, fun hmt => V.old t av h1 fun k ok hok hSk hd => ?_, fun jc ojc hjc hojc hd => absurd hd (hnw jc ojc hjc hojc)⟩
      by_cases hki : k = i
      · subst hki; exact hi hSk
      · rcases (c4 k ok t hok hki hd).2 hmt with h3 | h3
        · exact hnw k ok (H.lt i k h3) hok hd
        · rw [hS' k hSk] at h3; cases h3
  have hget : (l.toArray)[i]? = some o := by simpa using ho
  -- the guard
  have hguard : ∃ keys, gKeys l (anc i) (rs.take i) o.guard = some keys ∧ ri.keys = keys := by
    unfold evI at hev
    split at hev
    · rename_i keys hg
      refine ⟨keys, hg, ?_⟩
      split at hev
      · split at hev
        · split at hev
          · obtain ⟨v, _, rfl⟩ := Option.map_eq_some_iff.1 hev; rfl
          · cases hev
        · cases hev
      · obtain ⟨v, _, rfl⟩ := Option.map_eq_some_iff.1 hev; rfl
    · cases hev
  obtain ⟨keys, hg, hkeys⟩ := hguard
  have hwant : Region.wanted o (yielded l.toArray a.tmps) = true ↔ condI rs ri := by
    unfold Region.wanted condI
    rw [hkeys]
    cases hgd : o.guard with
    | none =>
      rw [hgd] at hg
      simp only [gKeys, Option.some.injEq] at hg
      subst hg
      simp
    | some g =>
      obtain ⟨j, want⟩ := g
      rw [hgd] at hg
      simp only [gKeys] at hg
      split at hg
      · rename_i rj d hrj hd
        split at hg
        · rename_i b hb
          cases ha : anc i j with
          | false => rw [ha] at hg; cases hg
          | true =>
            rw [ha] at hg
            simp only [cond_true, Option.some.injEq] at hg
            subst hg
            obtain ⟨hji, hrj⟩ := (hpre j rj).1 hrj
            obtain ⟨oj, hoj, hdj⟩ := Option.bind_eq_some_iff.1 hd
            have hSj := hS j ha
            have hkap : kap rs (j, want) ↔ b = want := by simp only [kap, hrj, hb]
            have hopsl : (l.toArray)[j]? = some oj := by simpa using hoj
            by_cases hcj : condI rs rj
            · have hat := V.new j oj rj d hoj hrj hSj hdj hcj
              rw [hb] at hat
              have hy : yielded l.toArray a.tmps j = some b := by simp [yielded, hopsl, hdj, hat, val]
              simp only [hy, List.mem_cons, forall_eq_or_imp, hkap]
              constructor
              · intro h
                exact ⟨by simpa using h, hcj⟩
              · intro h
                simpa using h.1
            · have hat := V.skip j oj rj d hoj hrj hSj hdj hcj
              have hy : yielded l.toArray a.tmps j = none := by simp [yielded, hopsl, hdj, hat, undef]
              simp only [hy, List.mem_cons, forall_eq_or_imp]
              constructor
              · intro h; cases h
              · intro h; exact absurd h.2 hcj
        · cases hg
      · cases hg
  have hputne : ∀ (t : Nat) (v : Value), o.dst ≠ some t → (a.put o.dst v).tmps[t]? = a.tmps[t]? := by
    intro t v hne
    cases hd : o.dst with
    | none => rfl
    | some d =>
      have : d ≠ t := fun e => hne (by rw [hd, e])
      simp only [Act.put]
      rw [Array.getElem?_setIfInBounds_ne this]
  have hputeq : ∀ (t : Nat) (v : Value), o.dst = some t → (a.put o.dst v).tmps[t]? = some v := by
    intro t v he
    rw [he]
    have hlt : t < N := by have := c1; rw [he] at this; simpa [dstOk] using this
    simp [Act.put, V.size, hlt]
  have hputsz : ∀ v, (a.put o.dst v).tmps.size = N ∧ (a.put o.dst v).defers = [] := by
    intro v
    cases o.dst <;> simp [Act.put, V.size, V.defers]
  have huniq : ∀ (k : Nat) (ok : Oper) (t : Nat), l[k]? = some ok → S k → ok.dst = some t → o.dst ≠ some t := fun k ok t hok hSk hd => (c4 k ok t hok (fun e => hi (e ▸ hSk)) hd).1
  have hadd := fun (b : Bool) (id : Nat) => fsP_add (nx := nx) (sl0 := sl0) (fs0 := fs0) (hs := hs) H V.exec hi hS' hri c3 id b rs 0 (fs0 id) (Nat.zero_le _) (fun j => by rw [Nat.zero_add])
  have hexec : ∀ b : Bool, (b = true ↔ condI rs ri) → ∀ (k : Nat) (rk : RI), rs[k]? = some rk → ((bif Nat.beq k i then b else E k) = true ↔ (S k ∨ k = i) ∧ condI rs rk) := by
    intro b hb k rk hrk
    by_cases hki : k = i
    · subst hki
      rw [hri] at hrk; cases hrk
      simp [hb]
    · have hkb : Nat.beq k i = false := Bool.eq_false_iff.2 fun h => hki (Nat.eq_of_beq_eq_true h)
      rw [hkb, cond_false, V.exec k rk hrk]
      simp [hki]
  unfold wpOp
  simp only [hget]
  by_cases hc : condI rs ri
  · rw [if_pos (hwant.2 hc)]
    left
    unfold Oper.wp
    have hkk : ∀ key ∈ keys, kap rs key := hkeys ▸ hc
    have hvs := hvc i ri hri hc
    -- what it comes to, by the machine
    have hout : Snd P (fun id => fsP E id 0 rs (fs0 id)) (nx + stride * i) ri.r β φ dom ψ IN w0 ((execOp a.eval o).run P w) := by
      unfold evI at hev
      rw [hg] at hev
      simp only at hev
      split at hev
      · -- a choice
        rename_i c x y hop
        split at hev
        · rename_i jc hjc
          split at hev
          · rename_i vc vx vy h1 h2 h3
            obtain ⟨v, h4, rfl⟩ := Option.map_eq_some_iff.1 hev
            obtain ⟨jj, ojc, hj1, hj2, hj3⟩ := whoW_ok hjc
            rw [Nat.zero_add] at hj1
            subst hj1
            rw [List.getElem?_take] at hj2
            have hjci : jc < i := by
              rcases Nat.lt_or_ge jc i with h | h
              · exact h
              · rw [if_neg (by omega)] at hj2; cases hj2
            rw [if_pos hjci] at hj2
            obtain ⟨dst, op, type, pos, after, guard⟩ := o
            simp only at hop
            subst hop
            have hrd : ∀ z : Operand, z ∈ [Operand.tmp c, x, y] → ∀ t, z = .tmp t → t ∈ readsOf l ⟨dst, .pick (.tmp c) x y, type, pos, after, guard⟩ := by
              intro z hz t ht
              subst ht
              refine List.mem_append_left _ (List.mem_filterMap.2 ⟨.tmp t, ?_, rfl⟩)
              simpa [Op.operands] using hz
            have hev1 : ∀ (ks : List (Nat × Bool)) (z : Operand) (av : AV), z ∈ [Operand.tmp c, x, y] → (∀ key ∈ ks, kap rs key) → opA (fun t => lookS (anc i) ks t (sl0 t) 0 l (rs.take i)) z = some av → a.eval z = val β av := by
              intro ks z av hz hks hza
              cases z with
              | tmp t =>
                have := (hslot ks t av hks hza).2.1 (hrd _ hz t rfl)
                simp [Act.eval, this]
              | const v => simp only [opA, Option.some.injEq] at hza; subst hza; rfl
              | func f => simp only [opA, Option.some.injEq] at hza; subst hza; rfl
              | global g => simp [opA] at hza
            unfold eqV at h4
            split at h4
            · rename_i cb xb yb
              simp only [Option.some.injEq] at h4
              subst h4
              obtain ⟨rj, hrj, hrja⟩ := (hslot keys c _ hkk h1).2.2 jc ojc hjci hj2 hj3
              have hkap : ∀ want, kap rs (jc, want) ↔ cb = want := by
                intro want
                simp only [kap, hrj, ← hrja]
              refine Snd.pure V.rel trivial ?_
              refine opA_pick (hev1 keys _ _ (by simp) hkk h1) (fun hcb => hev1 ((jc, true) :: keys) _ _ (by simp) ?_ h2) (fun hcb => hev1 ((jc, false) :: keys) _ _ (by simp) ?_ h3)
              · intro key hkey
                rcases List.mem_cons.1 hkey with rfl | hkey
                · exact (hkap true).2 hcb
                · exact hkk key hkey
              · intro key hkey
                rcases List.mem_cons.1 hkey with rfl | hkey
                · exact (hkap false).2 hcb
                · exact hkk key hkey
            · cases h4
          · cases hev
        · cases hev
      · obtain ⟨r, h1, rfl⟩ := Option.map_eq_some_iff.1 hev
        -- the operands
        classical
        let sl := fun t => lookS (anc i) keys t (sl0 t) 0 l (rs.take i)
        let ρ : Operand → Value := fun x => if x ∈ o.op.operands then a.eval x else (match opA sl x with | some av => val β av | none => undef)
        have hρ : execOp a.eval o = execOp ρ o := execOp_congr o c2 fun x hx => by simp [ρ, hx]
        rw [hρ]
        have hSl : SlOK sl β dom ρ := by
          intro x av hx
          have hwf : av.wf dom := by
            cases x with
            | tmp t => exact (hslot keys t av hkk hx).1
            | const v => simp only [opA, Option.some.injEq] at hx; subst hx; trivial
            | func f => simp only [opA, Option.some.injEq] at hx; subst hx; trivial
            | global g => simp [opA] at hx
          refine ⟨?_, hwf⟩
          by_cases hxo : x ∈ o.op.operands
          · simp only [ρ, if_pos hxo]
            cases x with
            | tmp t =>
              have hmt : t ∈ readsOf l o := List.mem_append_left _ (List.mem_filterMap.2 ⟨.tmp t, by simpa using hxo, rfl⟩)
              have := (hslot keys t av hkk hx).2.1 hmt
              simp [Act.eval, this]
            | const v => simp only [opA, Option.some.injEq] at hx; subst hx; rfl
            | func f => simp only [opA, Option.some.injEq] at hx; subst hx; rfl
            | global g => simp [opA] at hx
          · simp only [ρ, if_neg hxo, hx]
        refine opEv_ok hD V.rel (fun id h2 h3 hd => ?_) (fun id f hf => ?_) hSl h1 hvs
        · rcases V.bound id hd with h4 | ⟨k, ⟨hSk, _⟩, h5, h6⟩
          · unfold stride at *; omega
          · have hki : k ≠ i := fun e => hi (e ▸ hSk)
            unfold stride at *
            omega
        · cases hcn : cont i id with
          | true => rw [hcn] at hf; cases hf
          | false =>
            rw [hcn] at hf
            exact lookF_ok H V.exec hi hS hS' hkk hcn rs 0 _ _ (fun j => by rw [Nat.zero_add]) (fun f h => h) f (by rw [Nat.sub_zero]; exact hf)
    refine Out.upon hout fun v w' ⟨β', φ', dom', e1, e2, e3, e4, R'⟩ => ?_
    refine ⟨fun k => bif Nat.beq k i then true else E k, β', φ', dom', ?_⟩
    have hvc' : ∀ (av : AV), av.wf dom → val β' av = val β av := fun av h => val_congr (fun id hid => (e3 id hid).2) av h
    refine ⟨hexec true (by simp [hc]), (hputsz v).1, (hputsz v).2, fun t av hs hn => ?_, fun t av hs => AV.wf_mono (fun id h => (e3 id h).1) _ (V.oldwf t av hs), fun k ok rk t hok hrk hSk hd hck => ?_, fun k rk hrk hSk hck => ?_, fun k ok rk t hok hrk hSk hd hck => ?_, ?_, fun id hid => ?_⟩
    · rw [hputne t v (hn i o ho (.inr rfl)), hvc' av (V.oldwf t av hs)]
      exact V.old t av hs fun k ok hok hSk => hn k ok hok (.inl hSk)
    · rcases hSk with hSk | rfl
      · rw [hputne t v (huniq k ok t hok hSk hd), hvc' _ (V.newwf k rk hrk hSk hck)]
        exact V.new k ok rk t hok hrk hSk hd hck
      · rw [ho] at hok; cases hok
        rw [hri] at hrk; cases hrk
        rw [hputeq t v hd, e1]
    · rcases hSk with hSk | rfl
      · exact AV.wf_mono (fun id h => (e3 id h).1) _ (V.newwf k rk hrk hSk hck)
      · rw [hri] at hrk; cases hrk
        exact e2
    · rcases hSk with hSk | rfl
      · rw [hputne t v (huniq k ok t hok hSk hd)]
        exact V.skip k ok rk t hok hrk hSk hd hck
      · rw [hri] at hrk; cases hrk
        exact absurd hc hck
    · have e : (fun id => fsP (fun k => bif Nat.beq k i then true else E k) id 0 rs (fs0 id)) = fupds (fun id => fsP E id 0 rs (fs0 id)) ri.r.sets := by
        funext id
        rw [hadd true id, fupds_get]
        rfl
      rw [e]
      exact R'
    · rcases e4 id hid with h | ⟨h1, h2⟩
      · rcases V.bound id h with h | ⟨k, h1, h2⟩
        · exact .inl h
        · exact .inr ⟨k, ⟨.inl h1.1, h1.2⟩, h2⟩
      · exact .inr ⟨i, ⟨.inr rfl, hil⟩, h1, by unfold stride at *; omega⟩
  · rw [if_neg fun h => hc (hwant.1 h)]
    refine ⟨fun k => bif Nat.beq k i then false else E k, β, φ, dom, ?_⟩
    refine ⟨hexec false (by simp [hc]), (hputsz undef).1, (hputsz undef).2, fun t av hs hn => ?_, V.oldwf, fun k ok rk t hok hrk hSk hd hck => ?_, fun k rk hrk hSk hck => ?_, fun k ok rk t hok hrk hSk hd hck => ?_, ?_, fun id hid => ?_⟩
    · rw [hputne t _ (hn i o ho (.inr rfl))]
      exact V.old t av hs fun k ok hok hSk => hn k ok hok (.inl hSk)
    · rcases hSk with hSk | rfl
      · rw [hputne t _ (huniq k ok t hok hSk hd)]
        exact V.new k ok rk t hok hrk hSk hd hck
      · rw [hri] at hrk; cases hrk
        exact absurd hck hc
    · rcases hSk with hSk | rfl
      · exact V.newwf k rk hrk hSk hck
      · rw [hri] at hrk; cases hrk
        exact absurd hck hc
    · rcases hSk with hSk | rfl
      · rw [hputne t _ (huniq k ok t hok hSk hd)]
        exact V.skip k ok rk t hok hrk hSk hd hck
      · rw [ho] at hok; cases hok
        exact hputeq t _ hd
    · have e : (fun id => fsP (fun k => bif Nat.beq k i then false else E k) id 0 rs (fs0 id)) = fun id => fsP E id 0 rs (fs0 id) := by
        funext id
        rw [hadd false id]
        rfl
      rw [e]
      exact V.rel
    · rcases V.bound id hid with h | ⟨k, h1, h2⟩
      · exact .inl h
      · exact .inr ⟨k, ⟨.inl h1.1, h1.2⟩, h2⟩

/-! ### What the machine knows between regions -/

structure St : Type 1 where
  sl : List (Nat × Option AV)
  fs : List (Nat × Option Fact)
  nx : Nat

def slG : List (Nat × Option AV) → Nat → Option AV
  | [], _ => none
  | (k, v) :: r, t => bif Nat.beq k t then v else slG r t
def fsG : List (Nat × Option Fact) → Nat → Option Fact
  | [], _ => none
  | (k, v) :: r, t => bif Nat.beq k t then v else fsG r t

/-- the machine's knowledge holds of frame and world -/
structure StOK (P : Program) (N : Nat) (ψ IN : Nat → Prop) (w0 : World) (s : St) (a : Act) (w : World) (β : Nat → Nat → Value) (φ : Nat → List Nat) (dom : Nat → Prop) : Prop where
  size : a.tmps.size = N
  defers : a.defers = []
  has : ∀ t av, slG s.sl t = some av → a.tmps[t]? = some (val β av) ∧ av.wf dom
  rel : Rel P (fsG s.fs) β φ dom ψ IN w0 w
  bound : ∀ id, dom id → id < s.nx

def Holds (P : Program) (N : Nat) (ψ IN : Nat → Prop) (w0 : World) (s : St) (a : Act) (w : World) : Prop := ∃ β φ dom, StOK P N ψ IN w0 s a w β φ dom

def ancT (i k : Nat) : Bool := Nat.blt k i
def ancD (ms : List Nat) (i k : Nat) : Bool := Nat.blt k i && (ms.getD i 0).testBit k

/-- of an operation that has a guard nothing is kept -/
def keepIf {α : Type 1} (ks : List (Nat × Bool)) (x : Option α) : Option α := match ks with
  | [] => x
  | _ => none
def keepA (ks : List (Nat × Bool)) (x : AV) : Option AV := match ks with
  | [] => some x
  | _ => none

def pushS (sl : List (Nat × Option AV)) : List Oper → List RI → List (Nat × Option AV)
  | o :: os, ri :: rs => match o.dst with
    | some d => pushS ((d, keepA ri.keys ri.r.av) :: sl) os rs
    | none => pushS sl os rs
  | _, _ => sl
/-- a value that a guarded operation puts in another one's place (b: it was carried out) -/
def mrgV (b : Bool) : Value → Value → Option Value
  | .int k x, .int k' x' => if k = k' then some (.int k (bif b then x' else x)) else none
  | .bool x, .bool x' => some (.bool (bif b then x' else x))
  | _, _ => none
def mrgA (b : Bool) : AV → AV → Option AV
  | .v x, .v y => (mrgV b x y).map .v
  | .h g i, .h g' i' => bif Nat.beq g g' && Nat.beq i i' then some (.h g i) else none
  | _, _ => none
def mrgL (b : Bool) : List AV → List AV → Option (List AV)
  | [], [] => some []
  | a :: as', c :: cs => match mrgA b a c, mrgL b as' cs with | some x, some xs => some (x :: xs) | _, _ => none
  | _, _ => none
def mrgF (b : Bool) : Option Fact → Option Fact → Option Fact
  | some (.box T cs), some (.box T' cs') => bif Nat.beq T T' then (mrgL b cs cs').map (.box T) else none
  | _, _ => none
/-- is it carried out? -/
def keyB (rs0 : List RI) : List (Nat × Bool) → Option Bool
  | [(j, w)] => match rs0[j]? with
    | some rj => (match rj.keys, rj.r.av with
      | [], .v (.bool b) => some (bif w then b else !b)
      | _, _ => none)
    | none => none
  | _ => none
def mrgS (rs0 : List RI) (fs : List (Nat × Option Fact)) (ks : List (Nat × Bool)) (p : Nat × Option Fact) : Option Fact := match ks with
  | [] => p.2
  | _ => match keyB rs0 ks with
    | some b => mrgF b (fsG fs p.1) p.2
    | none => none
def pushF (rs0 : List RI) (fs : List (Nat × Option Fact)) : List RI → List (Nat × Option Fact)
  | [] => fs
  | ri :: rs => pushF rs0 ((ri.r.sets.map fun p => (p.1, mrgS rs0 fs ri.keys p)).reverse ++ fs) rs

def idsOf (rs : List RI) : List (List Nat) := rs.map fun ri => ri.r.sets.map (·.1)
def subIds : List (List Nat) → List (List Nat) → Bool
  | [], _ => true
  | a :: as, b :: bs => (a.all fun i => b.any (Nat.beq i)) && subIds as bs
  | _ :: _, [] => false

def backB (l : List Oper) : Bool := l.zipIdx.all fun (o, i) => o.after.toList.all fun e => !Region.binds .any e || Nat.blt e.on i

/-- what is to be shown of a region -/
def vcsOf (rs : List RI) : List RI → List Prop
  | [] => []
  | ri :: r => (ri.r.vcs.map (impAll (ri.keys.map (kap rs)))) ++ vcsOf rs r

/-- a region: what is to be shown, what is known behind it -/
def regSt {D : Bool} (P : Program) (N : Nat) (s : St) (l : List Oper) (draw : Bool) (hs : List (Nat × Hint D P)) : Option (List Prop × St) :=
  match draw with
  | false => (match runI P l (slG s.sl) (fsG s.fs) s.nx ancT (fun _ _ => false) hs 0 l [] with
    | some rs => bif chkAll l N ancT (fun _ _ => false) 0 l rs then some (vcsOf rs rs, ⟨pushS s.sl l rs, pushF rs s.fs rs, s.nx + stride * l.length⟩) else none
    | none => none)
  | true => (match runI P l (slG s.sl) (fsG s.fs) s.nx ancT (fun _ _ => false) hs 0 l [] with
    | some rs1 => (match runI P l (slG s.sl) (fsG s.fs) s.nx (ancD (msks l [])) (contB (ancD (msks l [])) (idsOf rs1)) hs 0 l [] with
      | some rs => bif backB l && subIds (idsOf rs) (idsOf rs1) && chkAll l N (ancD (msks l [])) (contB (ancD (msks l [])) (idsOf rs1)) 0 l rs then some (vcsOf rs rs, ⟨pushS s.sl l rs, pushF rs s.fs rs, s.nx + stride * l.length⟩) else none
      | none => none)
    | none => none)

end
end Go.Proofs.YtbhjkcicpobmhaaDoor
