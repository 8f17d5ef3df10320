/-
  The machine, twenty-first part: the way out of a function; functions.
-/
import Derived.Test.YtbhjkcicpobmhaaDoorMK
namespace Go.Proofs.YtbhjkcicpobmhaaDoor
open Go.RowKit
set_option linter.unusedVariables false
set_option linter.unusedSimpArgs false

def resAV (P : Program) (s : St) : ResultVar → Option AV
  | .tmp t => slG s.sl t
  | .cell t T => match slG s.sl t with
    | some a => (match eLoad P (fsG s.fs) T a with | some r => some r.av | none => none)
    | none => none
def resAVs (P : Program) (s : St) : List ResultVar → Option (List AV)
  | [] => some []
  | r :: rs => match resAV P s r, resAVs P s rs with
    | some a, some as => some (a :: as)
    | _, _ => none

/-- a known value that reads as something, as a cell -/
def plainC (fs : Nat → Option Fact) : List AV → List AV
  | .h id 0 :: cs => (match fs id with | some (.vl x _) => bif x.oneCell' then .v x else .h id 0 | _ => .h id 0) :: plainC fs cs
  | c :: cs => c :: plainC fs cs
  | [] => []
def mPtv (fs : Nat → Option Fact) (id : Nat) (T : TypeId) (ds : List Dat) : Option MA := match fs id with
  | some (.box T0 cs) => bif Nat.beq T T0 then (match ownDats fs (plainC fs cs) with
    | some (d0s, ids) => some ⟨[Imps d0s ds], id :: ids, []⟩
    | none => none) else none
  | _ => none
mutual
/-- a result: what is to be shown, the items that go out -/
def mRes (P : Program) (fs : Nat → Option Fact) : AV → RT → Option (List Prop × List Nat)
  | av, .v x => (match av with | .v y => bif y.oneCell' then some ([y = x], []) else none | _ => none)
  | av, .ow d => (match d with
    | .any => bif av.one then some ([], []) else none
    | d => (match mArg P fs none av (.ow d none) with | some m => some (m.vcs, m.cons) | none => none))
  | av, .ag l => (match aggCells av with | some cs => bif cs.all AV.one then mRess P fs cs l else none | none => none)
  | av, .tu l => (match av with | .tu cs => mRess P fs cs l | _ => none)
  | av, .cl f l => (match av with | .cl f' cs => bif Nat.beq f f' then mRess P fs cs l else none | _ => none)
  | av, .pt T ds => (match av with | .p id 0 => (match mPtv fs id T ds with | some m => some (m.vcs, m.cons) | none => none) | _ => none)
def mRess (P : Program) (fs : Nat → Option Fact) : List AV → List RT → Option (List Prop × List Nat)
  | [], [] => some ([], [])
  | a :: as, r :: rs => match mRes P fs a r, mRess P fs as rs with
    | some m, some n => some (m.1 ++ n.1, m.2 ++ n.2)
    | _, _ => none
  | _, _ => none
end

/-- an argument, behind -/
def mBeh (P : Program) (s : St) (i : Nat) : Arg → Option (List Prop × List Nat)
  | .pt T _ ds' => match slG s.sl i with
    | some av => (match mArg P (fsG s.fs) none av (.pt T ds' ds') with | some m => some (m.vcs, m.cons) | none => none)
    | none => none
  | .ptg _ T x _ _ ds' => match slG s.sl i with
    | some av => (match av with | .p id 0 => (match mPtv (fsG s.fs) id T (.v x :: ds') with | some m => some (m.vcs, m.cons) | none => none) | _ => none)
    | none => none
  | .og _ ds' => match slG s.sl i with
    | some av => (match mArg P (fsG s.fs) none av (.og ds' ds') with | some m => some (m.vcs, m.cons) | none => none)
    | none => none
  | .ow _ (some d') => match slG s.sl i with
    | some av => (match mArg P (fsG s.fs) none av (.ow d' none) with | some m => some (m.vcs, m.cons) | none => none)
    | none => none
  | _ => some ([], [])
def mBehs (P : Program) (s : St) : Nat → List Arg → Option (List Prop × List Nat)
  | _, [] => some ([], [])
  | i, a :: as => match mBeh P s i a, mBehs P s (i + 1) as with
    | some m, some n => some (m.1 ++ n.1, m.2 ++ n.2)
    | _, _ => none

/-- the slots of arguments that come back -/
def keepT : Nat → List Arg → List Nat
  | _, [] => []
  | i, .pt _ _ _ :: as => i :: keepT (i + 1) as
  | i, .ptg _ _ _ _ _ _ :: as => i :: keepT (i + 1) as
  | i, .ow _ (some _) :: as => i :: keepT (i + 1) as
  | i, .og _ _ :: as => i :: keepT (i + 1) as
  | i, _ :: as => keepT (i + 1) as

def resOf : List AV → AV
  | [a] => a
  | as => .tu as

def finV (P : Program) (fn : Func) (sp : Spec) (s : St) : Option (List Prop) :=
  match resAVs P s fn.results.toList with
  | some as => (match mRes P (fsG s.fs) (resOf as) sp.res, mBehs P s 0 sp.args with
    | some m, some n => bif nodupB (m.2 ++ n.2) then some (m.1 ++ n.1) else none
    | _, _ => none)
  | none => none
def finP (P : Program) (fn : Func) (sp : Spec) (s : St) : Prop := match finV P fn sp s with
  | some ps => ps.foldr And True
  | none => False
/-- what is to be shown of a function -/
def fnP {D : Bool} (P : Program) (fn : Func) (c : Code) (ct : Cert D P) (sp : Spec) : Prop := cwp P fn.ntmps c ct (stIn sp.args) fun e s => match e with
  | .x _ => False
  | _ => finP P fn sp s

section
variable {D : Bool} {P : Program} {N : Nat} {β : Nat → Nat → Value} {φ : Nat → List Nat} {dom ψ IN : Nat → Prop} {w0 w : World} {s : St} {a : Act}

theorem resAV_ok (V : StOK P N ψ IN w0 s a w β φ dom) : ∀ {r : ResultVar} {av : AV}, resAV P s r = some av → (rvSem a.tmps r).run P w = .ok (val β av) w ∧ av.wf dom
  | .tmp t, av, h => by
    obtain ⟨h1, h2⟩ := V.has t av h
    exact ⟨by simp [rvSem, h1], h2⟩
  | .cell t T, av, h => by
    simp only [resAV] at h
    split at h
    · rename_i p hp
      split at h
      · rename_i r hr
        simp only [Option.some.injEq] at h
        subst h
        obtain ⟨h1, h2⟩ := V.has t p hp
        obtain ⟨k1, k2, _⟩ := eLoad_ok V.rel (fun _ _ h => h) hr
        refine ⟨?_, k2⟩
        cases p <;> simp only [eLoad] at hr <;> first | cases hr | skip
        rename_i id off
        split at hr
        · rename_i cs hcs
          obtain ⟨b, o, g1, _⟩ := cellsAt_ok V.rel (fun _ _ h => h) hcs
          have e : val β (.p id off) = .pointer (some ⟨b, o + off, none⟩) := by simp [val, g1, padd]
          rw [e] at k1 h1
          simp only [Instr.loadAt, Instr.sureAddr, Sem.run_bind, Sem.run_pure, Result.andThen_ok] at k1
          simp [rvSem, h1, asAddr, k1]
        · cases hr
      · cases h
    · cases h

theorem resAVs_ok (V : StOK P N ψ IN w0 s a w β φ dom) : ∀ {rs : List ResultVar} {as : List AV}, resAVs P s rs = some as → (rs.mapM (rvSem a.tmps)).run P w = .ok (vals β as) w ∧ AVs.wf dom as
  | [], as, h => by
    simp only [resAVs, Option.some.injEq] at h
    subst h
    exact ⟨by simp [vals], trivial⟩
  | r :: rs, as, h => by
    simp only [resAVs] at h
    split at h
    · rename_i av avs h1 h2
      simp only [Option.some.injEq] at h
      subst h
      obtain ⟨k1, k2⟩ := resAV_ok V h1
      obtain ⟨m1, m2⟩ := resAVs_ok V h2
      exact ⟨by simp [List.mapM_cons, k1, m1, vals], k2, m2⟩
    · cases h

theorem results_ok (V : StOK P N ψ IN w0 s a w β φ dom) {fn : Func} {as : List AV} (h : resAVs P s fn.results.toList = some as) : (results fn a.tmps).run P w = .ok (val β (resOf as)) w ∧ (resOf as).wf dom := by
  obtain ⟨h1, h2⟩ := resAVs_ok V h
  rw [results_eq]
  have e : (fn.results.mapM (rvSem a.tmps)).run P w = .ok (vals β as).toArray w := by
    rw [Array.mapM_eq_mapM_toList]
    simp [h1]
  cases as with
  | nil => exact ⟨by simp [e, resOf, vals, val], trivial⟩
  | cons x as =>
    cases as with
    | nil => exact ⟨by simp [e, resOf, vals], h2.1⟩
    | cons y as => exact ⟨by simp [e, resOf, vals, val], h2⟩

/-- blocks of items -/
def FPo (φ : Nat → List Nat) (f ids : List Nat) : Prop := f.Nodup ∧ ∀ b, b ∈ f ↔ ∃ id ∈ ids, b ∈ φ id

theorem FPo.nil : FPo φ [] [] := ⟨List.nodup_nil, fun b => ⟨fun h => (by cases h), fun ⟨_, h, _⟩ => (by cases h)⟩⟩
theorem FPo.app {fs : Nat → Option Fact} (R : Rel P fs β φ dom ψ IN w0 w) {f g i j : List Nat} (hf : FPo φ f i) (hg : FPo φ g j) (hnd : (i ++ j).Nodup) (hm : ∀ id ∈ i ++ j, ∃ x, fs id = some x ∧ x.mod = true) : FPo φ (f ++ g) (i ++ j) := by
  obtain ⟨n1, n2, n3⟩ := List.nodup_append.1 hnd
  refine ⟨List.nodup_append.2 ⟨hf.1, hg.1, fun b hb b' hb' e => ?_⟩, fun b => ?_⟩
  · subst e
    obtain ⟨x, hx, hbx⟩ := (hf.2 b).1 hb
    obtain ⟨y, hy, hby⟩ := (hg.2 b).1 hb'
    obtain ⟨fx, ex, mx⟩ := hm x (List.mem_append_left _ hx)
    obtain ⟨fy, ey, my⟩ := hm y (List.mem_append_right _ hy)
    exact R.dis x y _ _ ex ey mx my (n3 x hx y hy) b hbx hby
  · rw [List.mem_append, hf.2, hg.2]
    constructor
    · rintro (⟨x, h1, h2⟩ | ⟨x, h1, h2⟩)
      · exact ⟨x, List.mem_append_left _ h1, h2⟩
      · exact ⟨x, List.mem_append_right _ h1, h2⟩
    · rintro ⟨x, h1, h2⟩
      rcases List.mem_append.1 h1 with h1 | h1
      · exact .inl ⟨x, h1, h2⟩
      · exact .inr ⟨x, h1, h2⟩

theorem mArg_out {fs : Nat → Option Fact} (R : Rel P fs β φ dom ψ IN w0 w) {av : AV} {ar : Arg} {m : MA} (hk : (match ar with | .pt _ _ _ => true | .ow _ none => true | .og _ _ => true | _ => false) = true) (h : mArg P fs none av ar = some m) (hv : AllP m.vcs) (hnd : m.cons.Nodup) :
    ∃ fp, ArgOK P (Outs φ w m.cons) w ar (val β av) fp ∧ FPo φ fp m.cons ∧ ∀ id ∈ m.cons, ∃ x, fs id = some x ∧ x.mod = true := by
  have hC := mArg_cons (fun _ _ h => h) R h
  have hr : m.reads = [] := by
    cases ar with
    | pt T ds ds' =>
      simp only [mArg, mPt] at h
      split at h
      · split at h
        · rename_i T0 cs hid
          cases hT : Nat.beq T T0 with
          | false => rw [hT] at h; cases h
          | true =>
            rw [hT] at h
            simp only [cond_true] at h
            split at h
            · cases h; rfl
            · cases h
        · cases h
      · cases h
    | og ds ds' =>
      simp only [mArg] at h
      split at h
      · simp only [mOg] at h
        split at h
        · cases h; rfl
        · cases h
      · cases h
    | ow d d' =>
      cases d' with
      | none =>
        simp only [mArg, mOw] at h
        split at h
        · cases h; rfl
        · cases h
      | some d' => simp at hk
    | _ => simp at hk
  obtain ⟨fp, h1, h2, _, _, h5⟩ := mArg_ok R (fun _ _ h => h) hC h hv (fun X hX => by rw [hr] at hX; cases hX) hnd
  exact ⟨fp, h1, ⟨h5, h2⟩, hC⟩

theorem aggCells_wf {av : AV} {cs : List AV} (h : aggCells av = some cs) (hw : av.wf dom) : AVs.wf dom cs := by
  cases av with
  | ag cs' => simp only [aggCells, Option.some.injEq] at h; subst h; exact hw
  | v x =>
    cases x <;> simp only [aggCells, Option.some.injEq] at h <;> first | cases h | skip
    all_goals exact AVs.wf_v _
  | _ => simp [aggCells] at h

theorem plainC_ok {fs : Nat → Option Fact} (R : Rel P fs β φ dom ψ IN w0 w) : ∀ cs : List AV, vals β (plainC fs cs) = vals β cs
  | [] => rfl
  | c :: cs => by
    have ih := plainC_ok R cs
    cases c with
    | h id j =>
      cases j with
      | zero =>
        simp only [plainC, vals, ih]
        congr 1
        split
        · rename_i x d hf
          cases hx : x.oneCell' with
          | false => rfl
          | true => exact (R.ok id _ hf).2.1.symm
        · rfl
      | succ j => simp only [plainC, vals, ih]
    | _ => simp only [plainC, vals, ih]
theorem mPtv_ok {fs : Nat → Option Fact} (R : Rel P fs β φ dom ψ IN w0 w) {id : Nat} {T : TypeId} {ds : List Dat} {m : MA} (h : mPtv fs id T ds = some m) (hv : AllP m.vcs) (hnd : m.cons.Nodup) :
    ∃ fp, (∃ b vs f, val β (.p id 0) = .pointer (some ⟨b, 0, none⟩) ∧ Box w b T vs ∧ OwVs w ds vs f ∧ fp = b :: f ∧ fp.Nodup) ∧ FPo φ fp m.cons ∧ ∀ id ∈ m.cons, ∃ x, fs id = some x ∧ x.mod = true := by
  simp only [mPtv] at h
  split at h
  · rename_i T0 cs hid
    cases hT : Nat.beq T T0 with
    | false => rw [hT] at h; cases h
    | true =>
      rw [hT] at h
      simp only [cond_true] at h
      have hT' := Nat.eq_of_beq_eq_true hT
      subst hT'
      split at h
      · rename_i d0s ids hds
        cases h
        obtain ⟨k1, ⟨g0, g0'⟩, b, g1, g2, g3⟩ := R.ok id _ hid
        obtain ⟨fp, q1, q2, q3, q4, q5, q6, q7⟩ := ownDats_ok R (fun _ _ h => h) hds
        rw [plainC_ok R] at q1
        obtain ⟨n1, n2⟩ := List.nodup_cons.1 hnd
        have hbid : b ∈ φ id := by rw [g3]; exact List.mem_cons_self
        have hbf : b ∉ fp := fun hb => by
          obtain ⟨i, h1, h2⟩ := q2 b hb
          obtain ⟨V, d, hd⟩ := q5 i h1
          exact R.dis id i _ _ hid hd rfl rfl (fun e => n1 (e ▸ h1)) b hbid h2
        have hfp : ∀ b', (∃ i ∈ ids, b' ∈ φ i) → b' ∈ fp := fun b' ⟨i, h1, h2⟩ => q7 i h1 b' h2
        refine ⟨b :: fp, ⟨b, _, fp, by simp [val, g1, padd], g2, hv.1.ow q1, rfl, List.nodup_cons.2 ⟨hbf, q1.nd⟩⟩, ⟨List.nodup_cons.2 ⟨hbf, q1.nd⟩, fun b' => ⟨fun hb' => ?_, fun ⟨i, h1, h2⟩ => ?_⟩⟩, fun i hi => ?_⟩
        · rcases List.mem_cons.1 hb' with rfl | hb'
          · exact ⟨id, List.mem_cons_self, hbid⟩
          · obtain ⟨i, h1, h2⟩ := q2 b' hb'
            exact ⟨i, List.mem_cons_of_mem _ h1, h2⟩
        · rcases List.mem_cons.1 h1 with rfl | h1
          · rw [g3] at h2
            simp only [List.mem_singleton] at h2
            subst h2
            exact List.mem_cons_self
          · exact List.mem_cons_of_mem _ (hfp b' ⟨i, h1, h2⟩)
        · rcases List.mem_cons.1 hi with rfl | hi
          · exact ⟨_, hid, rfl⟩
          · obtain ⟨V, d, hd⟩ := q5 i hi
            exact ⟨_, hd, rfl⟩
      · cases h
  · cases h

mutual
theorem mRes_ok {fs : Nat → Option Fact} (R : Rel P fs β φ dom ψ IN w0 w) : ∀ (av : AV) (rt : RT) (m : List Prop × List Nat), mRes P fs av rt = some m → AllP m.1 → m.2.Nodup → av.wf dom →
    ∃ fp, RTOK w rt (val β av) fp ∧ FPo φ fp m.2 ∧ ∀ id ∈ m.2, ∃ x, fs id = some x ∧ x.mod = true
  | av, .v x, m, h, hv, hnd, hw => by
    unfold mRes at h
    split at h
    · rename_i y
      cases hy : y.oneCell' with
      | false => rw [hy] at h; cases h
      | true =>
        simp only [hy, cond_true, Option.some.injEq] at h
        subst h
        obtain ⟨rfl, _⟩ := hv
        exact ⟨[], ⟨rfl, hy, rfl⟩, FPo.nil, fun id hid => by cases hid⟩
    · cases h
  | av, .ow d, m, h, hv, hnd, hw => by
    unfold mRes at h
    split at h
    · cases ho : av.one with
      | false => rw [ho] at h; cases h
      | true =>
        rw [ho] at h
        simp only [cond_true, Option.some.injEq] at h
        subst h
        exact ⟨[], ⟨AV.one_val R.one ho hw, rfl⟩, FPo.nil, fun id hid => by cases hid⟩
    · split at h
      · rename_i m' hm'
        cases h
        exact mArg_out R rfl hm' hv hnd
      · cases h
  | av, .ag l, m, h, hv, hnd, hw => by
    unfold mRes at h
    split at h
    · rename_i cs hcs
      cases ho : cs.all AV.one with
      | false => rw [ho] at h; cases h
      | true =>
        rw [ho] at h
        obtain ⟨e1, e2'⟩ := aggCells_ok (β := β) (dom := dom) hcs
        have e2 := aggCells_wf hcs hw
        obtain ⟨fp, k1, k2, k3⟩ := mRess_ok R cs l m h hv hnd e2
        exact ⟨fp, ⟨_, e1, vals_one R.one ho e2, k1⟩, k2, k3⟩
    · cases h
  | av, .tu l, m, h, hv, hnd, hw => by
    unfold mRes at h
    split at h
    · rename_i cs
      obtain ⟨fp, k1, k2, k3⟩ := mRess_ok R cs l m h hv hnd hw
      exact ⟨fp, ⟨_, rfl, k1⟩, k2, k3⟩
    · cases h
  | av, .cl f l, m, h, hv, hnd, hw => by
    unfold mRes at h
    split at h
    · rename_i f' cs
      cases hb : Nat.beq f f' with
      | false => rw [hb] at h; cases h
      | true =>
        rw [hb] at h
        have e := Nat.eq_of_beq_eq_true hb
        subst e
        obtain ⟨fp, k1, k2, k3⟩ := mRess_ok R cs l m h hv hnd hw
        exact ⟨fp, ⟨_, rfl, k1⟩, k2, k3⟩
    · cases h
  | av, .pt T ds, m, h, hv, hnd, hw => by
    unfold mRes at h
    split at h
    · rename_i id
      split at h
      · rename_i m' hm'
        cases h
        obtain ⟨fp, k1, k2, k3⟩ := mPtv_ok R hm' hv hnd
        exact ⟨fp, k1, k2, k3⟩
      · cases h
    · cases h
theorem mRess_ok {fs : Nat → Option Fact} (R : Rel P fs β φ dom ψ IN w0 w) : ∀ (as : List AV) (rs : List RT) (m : List Prop × List Nat), mRess P fs as rs = some m → AllP m.1 → m.2.Nodup → AVs.wf dom as →
    ∃ fp, RTsOK w rs (vals β as) fp ∧ FPo φ fp m.2 ∧ ∀ id ∈ m.2, ∃ x, fs id = some x ∧ x.mod = true
  | [], [], m, h, hv, hnd, hw => by
    simp only [mRess, Option.some.injEq] at h
    subst h
    exact ⟨[], ⟨rfl, rfl⟩, FPo.nil, fun id hid => by cases hid⟩
  | a :: as, r :: rs, m, h, hv, hnd, hw => by
    simp only [mRess] at h
    split at h
    · rename_i m1 m2 h1 h2
      cases h
      obtain ⟨v1, v2⟩ := AllP.app hv
      obtain ⟨n1, n2, n3⟩ := List.nodup_append.1 hnd
      obtain ⟨f1, k1, k2, k3⟩ := mRes_ok R a r m1 h1 v1 n1 hw.1
      obtain ⟨f2, q1, q2, q3⟩ := mRess_ok R as rs m2 h2 v2 n2 hw.2
      have hm : ∀ id ∈ m1.2 ++ m2.2, ∃ x, fs id = some x ∧ x.mod = true := fun id hid => (List.mem_append.1 hid).elim (k3 id) (q3 id)
      exact ⟨f1 ++ f2, ⟨_, _, f1, f2, rfl, k1, q1, rfl⟩, FPo.app R k2 q2 hnd hm, hm⟩
    · cases h
  | [], _ :: _, m, h, _, _, _ => by simp [mRess] at h
  | _ :: _, [], m, h, _, _, _ => by simp [mRess] at h
end

theorem mBehs_ok (V : StOK P N ψ IN w0 s a w β φ dom) : ∀ (as : List Arg) (i : Nat) (us : List Value) (m : List Prop × List Nat), (∀ j, i + j ∈ keepT i as → a.tmps[i + j]? = us[j]?) → us.length = as.length → mBehs P s i as = some m → AllP m.1 → m.2.Nodup →
    ∃ fp, BehsOK w as us fp ∧ FPo φ fp m.2 ∧ ∀ id ∈ m.2, ∃ x, fsG s.fs id = some x ∧ x.mod = true
  | [], i, us, m, hp, hl, h, hv, hnd => by
    simp only [mBehs, Option.some.injEq] at h
    subst h
    exact ⟨[], rfl, FPo.nil, fun id hid => by cases hid⟩
  | ar :: as, i, us, m, hp, hl, h, hv, hnd => by
    simp only [mBehs] at h
    split at h
    · rename_i m1 m2 h1 h2
      cases h
      obtain ⟨v1, v2⟩ := AllP.app hv
      obtain ⟨n1, n2, n3⟩ := List.nodup_append.1 hnd
      cases us with
      | nil => simp at hl
      | cons u us =>
        have hu : i ∈ keepT i (ar :: as) → a.tmps[i]? = some u := fun h => by simpa using hp 0 (by simpa using h)
        obtain ⟨f2, q1, q2, q3⟩ := mBehs_ok V as (i + 1) us m2 (fun j hj => by
          have := hp (j + 1) (by
            rw [show i + (j + 1) = i + 1 + j by omega]
            unfold keepT
            split <;> first | exact List.mem_cons_of_mem _ hj | exact hj | (rename_i e; cases e <;> first | exact List.mem_cons_of_mem _ hj | exact hj))
          rw [show i + 1 + j = i + (j + 1) by omega]; simpa using this) (by simpa using hl) h2 v2 n2
        obtain ⟨f1, k1, k2, k3⟩ : ∃ f1, BehOK w ar u f1 ∧ FPo φ f1 m1.2 ∧ ∀ id ∈ m1.2, ∃ x, fsG s.fs id = some x ∧ x.mod = true := by
          cases ar with
          | pt T ds ds' =>
            simp only [mBeh] at h1
            split at h1
            · rename_i av hav
              split at h1
              · rename_i m' hm'
                cases h1
                obtain ⟨fp, g1, g2, g3⟩ := mArg_out V.rel rfl hm' v1 n1
                have e := (V.has i av hav).1
                rw [hu (by simp [keepT])] at e
                cases e
                obtain ⟨b, vs, f, e1, e2, e3, e4, _⟩ := g1
                exact ⟨fp, ⟨b, vs, f, e1, e2, e3, e4⟩, g2, g3⟩
              · cases h1
            · cases h1
          | ptg gi T x d ds ds' =>
            simp only [mBeh] at h1
            split at h1
            · rename_i av hav
              split at h1
              · rename_i id
                split at h1
                · rename_i m' hm'
                  cases h1
                  obtain ⟨fp, g1, g2, g3⟩ := mPtv_ok V.rel hm' v1 n1
                  have e := (V.has i (.p id 0) hav).1
                  rw [hu (by simp [keepT])] at e
                  cases e
                  obtain ⟨b, vs, f, e1, e2, e3, e4, _⟩ := g1
                  obtain ⟨u2, us2, f1, f2, rfl, ⟨rfl, _, rfl⟩, q2, rfl, _⟩ := e3
                  exact ⟨fp, ⟨b, us2, _, e1, e2, q2, e4⟩, g2, g3⟩
                · cases h1
              · cases h1
            · cases h1
          | og ds ds' =>
            simp only [mBeh] at h1
            split at h1
            · rename_i av hav
              split at h1
              · rename_i m' hm'
                cases h1
                obtain ⟨fp, g1, g2, g3⟩ := mArg_out V.rel rfl hm' v1 n1
                have e := (V.has i av hav).1
                rw [hu (by simp [keepT])] at e
                cases e
                exact ⟨fp, g1, g2, g3⟩
              · cases h1
            · cases h1
          | ow d d' =>
            cases d' with
            | none =>
              simp only [mBeh, Option.some.injEq] at h1
              subst h1
              exact ⟨[], rfl, FPo.nil, fun id hid => by cases hid⟩
            | some d' =>
              simp only [mBeh] at h1
              split at h1
              · rename_i av hav
                split at h1
                · rename_i m' hm'
                  cases h1
                  obtain ⟨fp, g1, g2, g3⟩ := mArg_out V.rel rfl hm' v1 n1
                  have e := (V.has i av hav).1
                  rw [hu (by simp [keepT])] at e
                  cases e
                  exact ⟨fp, g1, g2, g3⟩
                · cases h1
              · cases h1
          | _ =>
            simp only [mBeh, Option.some.injEq] at h1
            subst h1
            exact ⟨[], rfl, FPo.nil, fun id hid => by cases hid⟩
        have hm : ∀ id ∈ m1.2 ++ m2.2, ∃ x, fsG s.fs id = some x ∧ x.mod = true := fun id hid => (List.mem_append.1 hid).elim (k3 id) (q3 id)
        exact ⟨f1 ++ f2, ⟨_, _, f1, f2, rfl, k1, q1, rfl⟩, FPo.app V.rel k2 q2 hnd hm, hm⟩
    · cases h

theorem ArgsOK.len {S : Nat → Prop} : ∀ {as : List Arg} {vs : List Value} {fp : List Nat}, ArgsOK P S w as vs fp → vs.length = as.length
  | [], vs, fp, h => by rw [h.1]; rfl
  | a :: as, vs, fp, h => by
    obtain ⟨u, us, f, g, rfl, _, h2, _⟩ := h
    simp [ArgsOK.len h2]

theorem ArgOK.lt {S : Nat → Prop} : ∀ {a : Arg} {v : Value} {fp : List Nat}, ArgOK P S w a v fp → (∀ b ∈ fp, b < w.heap.size) ∧ fp.Nodup
  | .r a, v, fp, h => by rw [h.2]; exact ⟨fun b hb => (by cases hb), List.nodup_nil⟩
  | .rp ds, v, fp, h => by rw [h.2]; exact ⟨fun b hb => (by cases hb), List.nodup_nil⟩
  | .fn F _, v, fp, h => by rw [h.2]; exact ⟨fun b hb => (by cases hb), List.nodup_nil⟩
  | .ow d d', v, fp, h => ⟨OwV.lt _ _ _ h, OwV.nd h⟩
  | .og ds ds', v, fp, h => by
    obtain ⟨vs, _, h⟩ := h
    exact ⟨OwVs.lt _ _ _ h, OwVs.nd h⟩
  | .ot ds, v, fp, h => by
    obtain ⟨vs, _, h⟩ := h
    exact ⟨OwVs.lt _ _ _ h, OwVs.nd h⟩
  | .pt T ds ds', v, fp, h => by
    obtain ⟨b, vs, f, rfl, h2, h3, rfl, h5⟩ := h
    refine ⟨fun b' hb => ?_, h5⟩
    rcases List.mem_cons.1 hb with rfl | hb
    · exact h2.lt
    · exact OwVs.lt _ _ _ h3 b' hb
  | .ptg gi T x d ds ds', v, fp, h => by
    obtain ⟨⟨b, vs, f, rfl, h2, h3, rfl, h5⟩, _⟩ := h
    refine ⟨fun b' hb => ?_, h5⟩
    rcases List.mem_cons.1 hb with rfl | hb
    · exact h2.lt
    · exact OwVs.lt _ _ _ h3 b' hb
  | .vl x d, v, fp, h => by rw [h.2]; exact ⟨fun b hb => (by cases hb), List.nodup_nil⟩
theorem ArgsOK.lt {S : Nat → Prop} : ∀ {as : List Arg} {vs : List Value} {fp : List Nat}, ArgsOK P S w as vs fp → (∀ b ∈ fp, b < w.heap.size) ∧ fp.Nodup
  | [], vs, fp, h => by rw [h.2]; exact ⟨fun b hb => (by cases hb), List.nodup_nil⟩
  | a :: as, vs, fp, h => by
    obtain ⟨u, us, f, g, rfl, h1, h2, rfl, h4⟩ := h
    exact ⟨fun b hb => (List.mem_append.1 hb).elim ((ArgOK.lt h1).1 b) ((ArgsOK.lt h2).1 b), h4⟩


theorem keepT_lt : ∀ (as : List Arg) (i t : Nat), t ∈ keepT i as → t < i + as.length
  | [], i, t, h => by cases h
  | a :: as, i, t, h => by
    have key : t = i ∨ t ∈ keepT (i + 1) as := by
      unfold keepT at h
      split at h
      · rename_i e; cases e
      · rename_i e; cases e; exact List.mem_cons.1 h
      · rename_i e; cases e; exact List.mem_cons.1 h
      · rename_i e; cases e; exact List.mem_cons.1 h
      · rename_i e; cases e; exact List.mem_cons.1 h
      · rename_i e; cases e; exact .inr h
    rcases key with h | h
    · subst h; simp
    · have := keepT_lt as (i + 1) t h
      simp; omega

/-- **A FUNCTION.** -/
theorem fn_ok {f : FuncId} {fn : Func} {c : Code} {ct : Cert D P} {sp : Spec} (hm : P.follows .mixedOrders = true) (hf : P.funcs[f]? = some fn) (hb : fn.body = some c) (hn : Nat.ble sp.args.length fn.ntmps = true) (hpar : parC (keepT 0 sp.args) c = true) (h : sp.pre → fnP P fn c ct sp) : Spec.ok P f sp D := by
  intro hpre S w vs fp hS hG ha
  have hlen := ArgsOK.len ha
  obtain ⟨hlt, hnd⟩ := ArgsOK.lt ha
  have hN := Nat.le_of_ble_eq_true hn
  refine calls_of_wp hf hb ?_
  have H0 := stIn_ok D (N := fn.ntmps) hS hG ha hlt hnd (by omega)
  have hD0 : D = false → (atD D w).drawn = 0 := fun h => by rw [h]; rfl
  refine cwp_ok hD0 hm (n := keepT 0 sp.args) _ c ct _ _ hpar (h hpre) _ w H0 (fun _ _ => rfl) _ fun e s' a' w' hq hH hp => ?_
  have key : finP P fn sp s' → a'.defers = [] ∧ ∃ v, (results fn a'.tmps).run P w' = .ok v w' ∧ ∃ rv fr fb, Ending.returned v = .returned rv ∧ RTOK w' sp.res rv fr ∧ BehsOK w' sp.args vs fb ∧ (fr ++ fb).Nodup ∧ (∀ b ∈ fr ++ fb, b < w'.heap.size ∧ (b ∈ fp ∨ w.heap.size ≤ b)) ∧ Chg (· ∈ fp) (atD D w) w' := by
    intro hfin
    obtain ⟨β, φ, dom, V⟩ := hH
    unfold finP at hfin
    split at hfin
    · rename_i ps hps
      obtain ⟨hv, _⟩ := foldr_and hfin
      unfold finV at hps
      split at hps
      · rename_i as has
        split at hps
        · rename_i m n h1 h2
          cases hb : nodupB (m.2 ++ n.2) with
          | false => rw [hb] at hps; cases hps
          | true =>
            simp only [hb, cond_true, Option.some.injEq] at hps
            subst hps
            have hnn := nodupB_ok hb
            obtain ⟨n1, n2, n3⟩ := List.nodup_append.1 hnn
            obtain ⟨v1, v2⟩ := AllP.app hv
            obtain ⟨r1, r2⟩ := results_ok V has
            obtain ⟨fr, k1, k2, k3⟩ := mRes_ok V.rel _ _ m h1 v1 n1 r2
            obtain ⟨fb, q1, q2, q3⟩ := mBehs_ok V sp.args 0 vs n (fun j hj => by
              have hj' : j < vs.length := by have := keepT_lt sp.args 0 _ hj; omega
              rw [hp (0 + j) hj, Nat.zero_add]
              simp only
              rw [Array.getElem?_append_left (by simpa using hj')]
              simp) hlen h2 v2 n2
            have hmm : ∀ id ∈ m.2 ++ n.2, ∃ x, fsG s'.fs id = some x ∧ x.mod = true := fun id hid => (List.mem_append.1 hid).elim (k3 id) (q3 id)
            obtain ⟨g1, g2⟩ := FPo.app V.rel k2 q2 hnn hmm
            refine ⟨V.defers, _, r1, _, fr, fb, rfl, k1, q1, g1, fun b hb => ?_, V.rel.chg⟩
            obtain ⟨id, hid, hbi⟩ := (g2 b).1 hb
            obtain ⟨x, hx, hxm⟩ := hmm id hid
            obtain ⟨l1, l2, _⟩ := V.rel.lt id x hx hxm b hbi
            exact ⟨l1, l2.symm⟩
        · cases hps
      · cases hps
    · exact hfin.elim
  cases e with
  | n => exact key hq
  | r => exact key hq
  | x id => exact hq.elim

/-- what is to be shown of a function, its body looked up -/
def fnG {D : Bool} (P : Program) (fn : Func) (ct : Cert D P) (sp : Spec) : Prop := match fn.body with
  | some c => bif Nat.ble sp.args.length fn.ntmps && parC (keepT 0 sp.args) c then sp.pre → fnP P fn c ct sp else False
  | none => False
theorem fnG_ok (hm : P.follows .mixedOrders = true) {f : FuncId} {fn : Func} {ct : Cert D P} {sp : Spec} (hf : P.funcs[f]? = some fn) {A : Prop} (h : A) (e : A = fnG P fn ct sp) : Spec.ok P f sp D := by
  rw [e] at h
  unfold fnG at h
  split at h
  · rename_i c hc
    cases hb : (Nat.ble sp.args.length fn.ntmps && parC (keepT 0 sp.args) c) with
    | false => rw [hb] at h; exact h.elim
    | true =>
      rw [hb] at h
      simp only [Bool.and_eq_true] at hb
      exact fn_ok hm hf hc hb.1 hb.2 h
  · exact h.elim

end
end Go.Proofs.YtbhjkcicpobmhaaDoor
