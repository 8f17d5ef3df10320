/-
  The machine, sixth part: slices.
-/
import Derived.Test.YtbhjkcicpobmhaaDoorM5
namespace Go.Proofs.YtbhjkcicpobmhaaDoor
open Go.RowKit
set_option linter.unusedVariables false
set_option linter.unusedSimpArgs false

theorem fupds_dels (fs : Nat → Option Fact) (ids : List Nat) (j : Nat) : fupds fs (ids.map fun i => (i, none)) j = if j ∈ ids then none else fs j := by
  induction ids generalizing fs with
  | nil => simp [fupds]
  | cons i ids ih =>
    simp only [List.map_cons, fupds, ih, fupd_eq, List.mem_cons]
    by_cases h : j ∈ ids
    · simp [h]
    · by_cases h2 : j = i <;> simp [h, h2]

section
variable {P : Program} {fs fsA : Nat → Option Fact} {β : Nat → Nat → Value} {φ : Nat → List Nat} {dom ψ IN : Nat → Prop} {w0 w w' : World} {base : Nat}

/-- a new item, into which others go -/
theorem Snd.newC (R : Rel P fsA β φ dom ψ IN w0 w) (hb : ∀ id, base ≤ id → id < base + stride → ¬ dom id) (f : Fact) (βn : Nat → Value) (fpn ids : List Nat) (hids : ∀ id ∈ ids, ∃ g, fsA id = some g ∧ g.mod = true)
    (hc : Chg (fun b => ∃ id ∈ ids, b ∈ φ id) w w') (hone : ∀ j, (βn j).oneCell' = true)
    (hF : FactOK P (fupds fsA ((base, some f) :: ids.map fun i => (i, none))) (up β base βn) (up φ base fpn) (fun i => dom i ∨ i = base) ψ w' base f) (hV : ∀ V d, f = .own V d → ¬ dom V)
    (hfp : f.mod = true → ∀ b ∈ fpn, b < w'.heap.size ∧ (w.heap.size ≤ b ∨ ∃ id ∈ ids, b ∈ φ id))
    {av : AV} {vcs : List Prop} {run : Result Next} (hw : av.wf (fun i => dom i ∨ i = base)) (hrun : run = .ok (.value (val (up β base βn) av)) w') : Snd P fsA base ⟨vcs, av, (base, some f) :: ids.map fun i => (i, none)⟩ β φ dom ψ IN w0 run := by
  have hnb : ¬ dom base := hb base (Nat.le_refl _) (by unfold stride; omega)
  have hni : base ∉ ids := fun h => by
    obtain ⟨g, hg, _⟩ := hids base h
    exact hnb (R.ok base g hg).1
  have hlk : ∀ j, fupds fsA ((base, some f) :: ids.map fun i => (i, none)) j = if j ∈ ids then none else if j = base then some f else fsA j := by
    intro j
    rw [fupds, fupds_dels, fupd_eq]
  rw [hrun]
  refine ⟨up β base βn, up φ base fpn, fun i => dom i ∨ i = base, rfl, hw, fun id h => ⟨.inl h, up_ne _ _ _ fun e => hnb (e ▸ h)⟩, fun id h => ?_, ?_⟩
  · rcases h with h | rfl
    · exact .inl h
    · exact .inr ⟨Nat.le_refl _, by unfold stride; omega⟩
  · refine R.step (NN := fun i => i = base ∨ i ∈ ids) (C := fun b => ∃ id ∈ ids, b ∈ φ id) hc (fun id h => ⟨.inl h, up_ne _ _ _ fun e => hnb (e ▸ h)⟩) (up_all1 R.all1 _ hone) (fun id g hg => ?_) (fun id hn => up_ne _ _ _ fun e => hn (.inl e)) (fun b _ h => ?_) (fun id g hn hg => ?_) (fun id V d hn hg => ?_) (fun id g hn hg hm b hbb => ?_) (fun i j g g' hi hj hg hg' _ _ hne => ?_)
    · rw [hlk] at hg
      by_cases h1 : id ∈ ids
      · exact .inl (.inr h1)
      · rw [if_neg h1] at hg
        by_cases h2 : id = base
        · exact .inl (.inl h2)
        · rw [if_neg h2] at hg; exact .inr hg
    · obtain ⟨id, h1, h2⟩ := h
      obtain ⟨g, hg, hm⟩ := hids id h1
      exact ⟨id, g, .inr h1, hg, hm, h2⟩
    · rw [hlk] at hg
      rcases hn with rfl | hn
      · rw [if_neg hni, if_pos rfl] at hg
        cases hg
        exact ⟨.inr rfl, hF⟩
      · rw [if_pos hn] at hg; cases hg
    · rw [hlk] at hg
      rcases hn with rfl | hn
      · rw [if_neg hni, if_pos rfl] at hg
        exact hV V d (Option.some.inj hg)
      · rw [if_pos hn] at hg; cases hg
    · rw [hlk] at hg
      rcases hn with rfl | hn
      · rw [if_neg hni, if_pos rfl] at hg
        cases hg
        rw [up_self] at hbb
        obtain ⟨h1, h2⟩ := hfp hm b hbb
        refine ⟨h1, h2.imp (fun h => h) fun ⟨i, h3, h4⟩ => ?_⟩
        obtain ⟨g', hg', hm'⟩ := hids i h3
        exact ⟨i, g', .inr h3, hg', hm', h4⟩
      · rw [if_pos hn] at hg; cases hg
    · rw [hlk] at hg hg'
      rcases hi with rfl | hi
      · rcases hj with rfl | hj
        · exact absurd rfl hne
        · rw [if_pos hj] at hg'; cases hg'
      · rw [if_pos hi] at hg; cases hg

/-! ### What is of its own goes into what is made -/

def ownDats (fs : Nat → Option Fact) : List AV → Option (List Dat × List Nat)
  | [] => some ([], [])
  | .v x :: r => bif x.oneCell' then (match ownDats fs r with | some (ds, ids) => some (.v x :: ds, ids) | none => none) else none
  | .cl f [] :: r => (match ownDats fs r with | some (ds, ids) => some (.v (.func (.func f) #[] #[]) :: ds, ids) | none => none)
  | .h id 0 :: r => match fs id with
    | some (.own _ d) => (match ownDats fs r with | some (ds, ids) => bif ids.any (Nat.beq id) then none else some (d :: ds, id :: ids) | none => none)
    | _ => none
  | _ => none

theorem ownDats_ok (R : Rel P fsA β φ dom ψ IN w0 w) (hsub : ∀ id f, fs id = some f → fsA id = some f) : ∀ {cs : List AV} {ds : List Dat} {ids : List Nat}, ownDats fs cs = some (ds, ids) →
    ∃ fp, OwVs w ds (vals β cs) fp ∧ (∀ b ∈ fp, ∃ id ∈ ids, b ∈ φ id) ∧ AVs.wf dom cs ∧ cs.all AV.one = true ∧ (∀ id ∈ ids, ∃ V d, fsA id = some (.own V d)) ∧ ids.Nodup ∧ ∀ id ∈ ids, ∀ b ∈ φ id, b ∈ fp
  | [], ds, ids, h => by
    simp only [ownDats, Option.some.injEq, Prod.mk.injEq] at h
    obtain ⟨rfl, rfl⟩ := h
    exact ⟨[], ⟨rfl, rfl⟩, fun b hb => by (cases hb), trivial, rfl, fun b hb => by (cases hb), List.nodup_nil, fun b hb => by (cases hb)⟩
  | a :: r, ds, ids, h => by
    unfold ownDats at h
    split at h
    · rename_i e; cases e
    · rename_i x r' e
      cases e
      cases hx : x.oneCell' with
      | false => rw [hx] at h; cases h
      | true =>
        rw [hx] at h
        simp only [cond_true] at h
        split at h
        · rename_i ds' ids' h'
          simp only [Option.some.injEq, Prod.mk.injEq] at h
          obtain ⟨rfl, rfl⟩ := h
          obtain ⟨fp, g1, g2, g3, g4, g5, g6, g7⟩ := ownDats_ok R hsub h'
          exact ⟨fp, ⟨x, _, [], fp, rfl, ⟨rfl, hx, rfl⟩, g1, rfl, g1.nd⟩, g2, ⟨trivial, g3⟩, by simp [AV.one, hx, g4], g5, g6, g7⟩
        · cases h
    · rename_i f r' e
      cases e
      split at h
      · rename_i ds' ids' h'
        simp only [Option.some.injEq, Prod.mk.injEq] at h
        obtain ⟨rfl, rfl⟩ := h
        obtain ⟨fp, g1, g2, g3, g4, g5, g6, g7⟩ := ownDats_ok R hsub h'
        exact ⟨fp, ⟨.func (.func f) #[] #[], _, [], fp, rfl, ⟨rfl, rfl, rfl⟩, g1, rfl, g1.nd⟩, g2, ⟨trivial, g3⟩, by simp [AV.one, g4], g5, g6, g7⟩
      · cases h
    · rename_i id r' e
      cases e
      split at h
      · rename_i V d hf
        split at h
        · rename_i ds' ids' h'
          cases ha : ids'.any (Nat.beq id) with
          | true => rw [ha] at h; cases h
          | false =>
            rw [ha] at h
            simp only [cond_false, Option.some.injEq, Prod.mk.injEq] at h
            obtain ⟨rfl, rfl⟩ := h
            obtain ⟨fp, g1, g2, g3, g4, g5, g6, g7⟩ := ownDats_ok R hsub h'
            obtain ⟨h1, h2, h3⟩ := R.ok id _ (hsub _ _ hf)
            have hni : id ∉ ids' := fun hm => by
              have : ids'.any (Nat.beq id) = true := List.any_eq_true.2 ⟨id, hm, by simp⟩
              rw [this] at ha; cases ha
            refine ⟨φ id ++ fp, ⟨_, _, φ id, fp, rfl, h3, g1, rfl, ?_⟩, ?_, ⟨h1, g3⟩, by simp [AV.one, g4], ?_, List.nodup_cons.2 ⟨hni, g6⟩, fun i hi b hb => ?_⟩
            · refine List.nodup_append.2 ⟨h3.nd, g1.nd, fun a ha b hb e => ?_⟩
              subst e
              obtain ⟨i, hi, hbi⟩ := g2 a hb
              obtain ⟨V', d', hfi⟩ := g5 i hi
              exact R.dis id i _ _ (hsub _ _ hf) hfi rfl rfl (fun e => hni (e ▸ hi)) a ha hbi
            · intro b hb
              rcases List.mem_append.1 hb with hb | hb
              · exact ⟨id, List.mem_cons_self, hb⟩
              · obtain ⟨i, hi, hbi⟩ := g2 b hb
                exact ⟨i, List.mem_cons_of_mem _ hi, hbi⟩
            · intro i hi
              rcases List.mem_cons.1 hi with rfl | hi
              · exact ⟨V, _, hsub _ _ hf⟩
              · exact g5 i hi
            · rcases List.mem_cons.1 hi with rfl | hi
              · exact List.mem_append_left _ hb
              · exact List.mem_append_right _ (g7 i hi b hb)
        · cases h
      · cases h
    · cases h

/-- rows of cells, each with its memory -/
theorem OwVs.split {α : Type} {enc : α → List Dat} {sz : Nat} : ∀ {ys : List α} {vs : List Value} {fp : List Nat}, OwVs w (ys.map enc).flatten vs fp → (∀ y ∈ ys, (enc y).length = sz) →
    ∃ gs : List (List Nat), gs.length = ys.length ∧ vs.length = ys.length * sz ∧ gs.flatten = fp ∧ ∀ (i : Nat) (y : α) (g : List Nat), ys[i]? = some y → gs[i]? = some g → ((vs.drop (i * sz)).take sz).length = sz ∧ OwVs w (enc y) ((vs.drop (i * sz)).take sz) g
  | [], vs, fp, h, _ => ⟨[], rfl, by simp [h.1], by simp [h.2], fun i y g hy => by simp at hy⟩
  | y :: ys, vs, fp, h, hl => by
    have app : ∀ (ds : List Dat) {es : List Dat} {vs : List Value} {fp : List Nat}, OwVs w (ds ++ es) vs fp → ∃ us ws f g, vs = us ++ ws ∧ fp = f ++ g ∧ OwVs w ds us f ∧ OwVs w es ws g := by
      intro ds
      induction ds with
      | nil => intro es vs fp h; exact ⟨[], vs, [], fp, rfl, rfl, ⟨rfl, rfl⟩, h⟩
      | cons d ds ih =>
        intro es vs fp h
        obtain ⟨u, us, f, g, rfl, h1, h2, rfl, h3⟩ := h
        obtain ⟨us', ws, f', g', rfl, rfl, h4, h5⟩ := ih h2
        refine ⟨u :: us', ws, f ++ f', g', rfl, by simp, ⟨u, us', f, f', rfl, h1, h4, rfl, ?_⟩, h5⟩
        rw [← List.append_assoc] at h3
        exact (List.nodup_append.1 h3).1
    simp only [List.map_cons, List.flatten_cons] at h
    obtain ⟨us, ws, f, g, rfl, rfl, h1, h2⟩ := app _ h
    obtain ⟨gs, g1, g2, g3, g4⟩ := OwVs.split h2 fun y hy => hl y (List.mem_cons_of_mem _ hy)
    have hu : us.length = sz := by rw [h1.len]; exact hl y List.mem_cons_self
    refine ⟨f :: gs, by simp [g1], by simp [hu, g2, Nat.succ_mul, Nat.add_comm], by simp [g3], fun i y' g' hy hg => ?_⟩
    cases i with
    | zero =>
      simp only [List.getElem?_cons_zero, Option.some.injEq] at hy hg
      subst hy; subst hg
      have : ((us ++ ws).drop (0 * sz)).take sz = us := by rw [Nat.zero_mul, List.drop_zero, ← hu, List.take_left]
      rw [this]
      exact ⟨hu, h1⟩
    | succ i =>
      have : ((us ++ ws).drop ((i + 1) * sz)).take sz = (ws.drop (i * sz)).take sz := by
        rw [List.drop_append, List.drop_of_length_le (by rw [hu, Nat.succ_mul]; omega), hu, Nat.succ_mul, Nat.add_sub_cancel]
        rfl
      rw [this]
      exact g4 i y' g' (by simpa using hy) (by simpa using hg)

/-- rows of cells are a list -/
def BuildOK (n sz : Nat) (cs : List Dat) (d : Dat) : Prop :=
  ∃ (α : Type) (_ : Inhabited α) (enc : α → List Dat) (ys : List α), d = .l sz enc ys ∧ ys.length = n ∧ Imps cs (ys.map enc).flatten ∧ ∀ y ∈ ys, (enc y).length = sz
theorem BuildOK.mk {α : Type} [Inhabited α] {n sz : Nat} {cs : List Dat} (enc : α → List Dat) (ys : List α) (hn : ys.length = n) (hc : Imps cs (ys.map enc).flatten) (hl : ∀ y, (enc y).length = sz) : BuildOK n sz cs (.l sz enc ys) := ⟨α, inferInstance, enc, ys, rfl, hn, hc, fun y _ => hl y⟩

def zeros (zc : List Value) (n : Nat) : List Value := (List.replicate n zc).flatten
theorem zeros_len (zc : List Value) (n : Nat) : (zeros zc n).length = n * zc.length := by simp [zeros, List.length_flatten]
theorem flat_chunk {sz : Nat} : ∀ (cells : List (List Value)) (i : Nat) (c : List Value), (∀ x ∈ cells, x.length = sz) → cells[i]? = some c → (cells.flatten.drop (i * sz)).take sz = c
  | [], i, c, _, h => by simp at h
  | x :: cells, 0, c, hl, h => by
    simp only [List.getElem?_cons_zero, Option.some.injEq] at h
    subst h
    have := hl x List.mem_cons_self
    simp [this]
  | x :: cells, i + 1, c, hl, h => by
    have hx := hl x List.mem_cons_self
    have := flat_chunk cells i c (fun y hy => hl y (List.mem_cons_of_mem _ hy)) (by simpa using h)
    rw [← this, List.flatten_cons, List.drop_append, List.drop_of_length_le (by rw [hx, Nat.succ_mul]; omega), hx, Nat.succ_mul, Nat.add_sub_cancel]
    rfl
theorem madeCells_eq (z : Array Value) (n : Nat) (hz : 0 < z.size) : ((Array.range (n * z.size)).map (z[· % z.size]!)) = (zeros z.toList n).toArray := by
  refine Array.ext (by simp [zeros_len]) fun i h1 h2 => ?_
  simp only [Array.size_map, Array.size_range] at h1
  simp only [Array.getElem_map, Array.getElem_range, List.getElem_toArray]
  have hm : i % z.size < z.size := Nat.mod_lt _ hz
  rw [getElem!_pos z (i % z.size) hm]
  have hi : i / z.size < n := Nat.div_lt_of_lt_mul (by rw [Nat.mul_comm]; exact h1)
  have hc := flat_chunk (sz := z.size) (List.replicate n z.toList) (i / z.size) z.toList (by intro x hx; rw [List.eq_of_mem_replicate hx]; simp) (by simp [hi])
  have h3 := congrArg (fun l : List Value => l[i % z.size]?) hc
  simp only [List.getElem?_take, hm, if_true, List.getElem?_drop, Array.getElem?_toList] at h3
  have e : i / z.size * z.size + i % z.size = i := by rw [Nat.mul_comm]; exact Nat.div_add_mod i z.size
  rw [e] at h3
  have h4 : (zeros z.toList n)[i]? = some z[i % z.size] := by
    show (List.replicate n z.toList).flatten[i]? = _
    rw [h3]; simp [hm]
  exact (List.getElem?_eq_some_iff.1 h4).2.symm

def eBuildS (P : Program) (fs : Nat → Option Fact) (base : Nat) (T : TypeId) (n : Nat) (ps : List (Nat × AV)) (hint : Option Dat) : Option OpR :=
  match tElem P T with
  | some U => (match (P.info? U).map (fun i => (i.size, i.zero)) with
    | some (sz + 1, some z) => (bif Nat.ble (n * (sz + 1)) 16777216 && Nat.beq z.cells.size (sz + 1) then (match fillA (fun i => some (i * (sz + 1), sz + 1)) ((zeros z.cells.toList n).map .v) ps with
      | some out => (bif out.all AV.one then (match hint with
        | none => some ⟨[], .h base 0, [(base, some (.arr n out))]⟩
        | some d => (match ownDats fs out with
          | some (ds, ids) => some ⟨[BuildOK n (sz + 1) ds d], .h base 0, (base, some (.own base d)) :: ids.map fun i => (i, none)⟩
          | none => none)) else none)
      | none => none) else none)
    | _ => none)
  | none => none

theorem tElem_ok {T U : TypeId} (h : tElem P T = some U) : P.underlying T = some (.slice U) := by
  unfold tElem at h
  split at h
  · rename_i e hu; simp only [Option.some.injEq] at h; rw [hu, h]
  · cases h

/-- a slice that lies at the head of a new row -/
theorem own_of_split {α : Type} [Inhabited α] {enc : α → List Dat} {sz c : Nat} {T : TypeId} {ys : List α} {vs rest : List Value} {fp : List Nat} (h : OwVs w (ys.map enc).flatten vs fp) (hl : ∀ y ∈ ys, (enc y).length = sz) (hc : Bel w.heap.size w w') (hs : w.heap.size < w'.heap.size)
    (hbox : Box w' w.heap.size T (vs ++ rest)) (hlen : (vs ++ rest).length = c * sz) (hle : ys.length ≤ c) (hm : ys.length ≤ 9223372036854775807) : OwV w' (.l sz enc ys) (.slice (some ⟨w.heap.size, 0, none⟩) ys.length c) (w.heap.size :: fp) := by
  obtain ⟨gs, g1, g2, g3, g4⟩ := h.split hl
  refine ⟨some ⟨w.heap.size, 0, none⟩, c, rfl, hle, hm, .inr ⟨w.heap.size, 0, T, vs ++ rest, gs, rfl, hbox, by omega, g1, fun i y g hy hg => ?_, by rw [g3], ?_⟩⟩
  · obtain ⟨k1, k2⟩ := g4 i y g hy hg
    have hi : i < ys.length := (List.getElem?_eq_some_iff.1 hy).1
    have hfit : i * sz + sz ≤ vs.length := by
      rw [g2]
      calc i * sz + sz = (i + 1) * sz := by rw [Nat.succ_mul]
        _ ≤ ys.length * sz := Nat.mul_le_mul_right _ hi
    have e : ((vs ++ rest).drop (0 + i * sz)).take sz = (vs.drop (i * sz)).take sz := by
      rw [Nat.zero_add, List.drop_append_of_le_length (by omega), List.take_append_of_le_length (by simp; omega)]
    rw [e]
    exact ⟨k1, OwVs.keep _ _ _ (fun b hb => hc.block b (OwVs.lt _ _ _ k2 b hb)) k2⟩
  · refine List.nodup_cons.2 ⟨fun hm => ?_, h.nd⟩
    have := OwVs.lt _ _ _ h _ hm
    omega

theorem eBuildS_ok (R : Rel P fsA β φ dom ψ IN w0 w) (hb : ∀ id, base ≤ id → id < base + stride → ¬ dom id) (hsub : ∀ id f, fs id = some f → fsA id = some f) {T : TypeId} {n : Nat} {ps : List (Nat × AV)} {hint : Option Dat} {r : OpR} (h : eBuildS P fs base T n ps hint = some r) (hv : AllP r.vcs)
    (hw : ∀ p ∈ ps, p.2.wf dom) : Snd P fsA base r β φ dom ψ IN w0 ((do pure (Next.value (← Instr.buildSlice T n (ps.map fun p => (p.1, val β p.2)).toArray)) : Sem Next).run P w) := by
  have hnb : ¬ dom base := hb base (Nat.le_refl _) (by unfold stride; omega)
  unfold eBuildS at h
  split at h
  · rename_i U hU
    split at h
    · rename_i sz z hi
      obtain ⟨inf, hinf, hrow⟩ := Option.map_eq_some_iff.1 hi
      simp only [Prod.mk.injEq] at hrow
      obtain ⟨hsz, hz⟩ := hrow
      cases hbb : (Nat.ble (n * (sz + 1)) 16777216 && Nat.beq z.cells.size (sz + 1)) with
      | false => rw [hbb] at h; cases h
      | true =>
        rw [hbb] at h
        simp only [cond_true] at h
        simp only [Bool.and_eq_true] at hbb
        have hle := Nat.le_of_ble_eq_true hbb.1
        have hzs := Nat.eq_of_beq_eq_true hbb.2
        split at h
        · rename_i out hout
          obtain ⟨g1, g2⟩ := fillA_ok R.one _ ps _ out hout hw (AVs.wf_v _)
          rw [vals_v] at g1
          have hrun : (do pure (Next.value (← Instr.buildSlice T n (ps.map fun p => (p.1, val β p.2)).toArray)) : Sem Next).run P w = .ok (.value (.slice (some ⟨w.heap.size, 0, none⟩) n n)) { w with heap := w.heap.push (.cells (vals β out).toArray U) } := by
            have hle' : ¬ (n * (sz + 1) > 2 ^ 24) := by omega
            by_cases h0 : n = 0
            · subst h0
              have e : (zeros z.cells.toList 0).toArray = #[] := by simp [zeros]
              rw [e] at g1
              have hr0 : Array.range 0 = #[] := by simp
              simp [Instr.buildSlice, run_underlying (tElem_ok hU), sizeOf, typeInfo, hinf, hsz, newRow]
              rw [hr0]
              simp [g1]
            · have h0' : ¬ (n * (sz + 1) = 0) := by
                intro h; rcases Nat.mul_eq_zero.1 h with h | h <;> omega
              have hm := madeCells_eq z.cells n (by omega)
              rw [hzs] at hm
              simp [Instr.buildSlice, run_underlying (tElem_ok hU), sizeOf, typeInfo, hinf, hsz, hz, hle', h0, zeroValue, hzs, hm, g1, newRow]
              intro hcon
              exact absurd hcon h0'
          have hbelow := bpush w (.cells (vals β out).toArray U)
          have hvs : vals (up β base fun _ => .slice (some ⟨w.heap.size, 0, none⟩) n n) out = vals β out := vals_congr (β := β) (dom := dom) (fun id hid => up_ne _ _ _ (fun e : id = base => hnb (e ▸ hid))) out g2
          cases ho : out.all AV.one with
          | false => rw [ho] at h; cases h
          | true =>
            rw [ho] at h
            simp only [cond_true] at h
            split at h
            · cases h
              refine Snd.new1 R hb (.arr n out) (fun _ => .slice (some ⟨w.heap.size, 0, none⟩) n n) [w.heap.size] hbelow (fun _ => rfl) ⟨⟨AVs.wf_mono (fun i h => .inl h) out g2, ho⟩, w.heap.size, U, by rw [up_self], ?_, by rw [up_self]⟩ (fun _ _ e => by cases e) (fun _ b hbb => ?_) (.inr rfl) ?_
              · rw [hvs]; simp [Box]
              · simp only [List.mem_singleton] at hbb
                subst hbb
                simp
              · rw [hrun]; simp [val, up_self]
            · rename_i d
              split at h
              · rename_i ds ids hds
                cases h
                obtain ⟨⟨α, inst, enc, ys, rfl, hn, hfl, hel⟩, _⟩ := hv
                obtain ⟨fp, k1, k2, k3, k4, k5, k6⟩ := ownDats_ok R hsub hds
                replace k1 := hfl.ow k1
                have hlen2 : (vals β out).length = n * (sz + 1) := by
                  obtain ⟨gs, _, e, _, _⟩ := k1.split hel
                  rw [e, hn]
                refine Snd.newC R hb (.own base (.l (sz + 1) enc ys)) (fun _ => .slice (some ⟨w.heap.size, 0, none⟩) n n) (w.heap.size :: fp) ids (fun id hid => ?_) (Chg.of_below hbelow) (fun _ => rfl) ⟨.inr rfl, ?_⟩ (fun V d e => ?_) (fun _ b hbb => ?_) (.inr rfl) ?_
                · obtain ⟨V, d, hd⟩ := k5 id hid
                  exact ⟨_, hd, rfl⟩
                · rw [up_self, up_self, ← hn]
                  refine own_of_split (rest := []) (T := U) k1 hel hbelow (by simp) ?_ (by rw [List.append_nil, hlen2, hn]) (Nat.le_refl _) ?_
                  · simp [Box]
                  · rw [hn]
                    have : n ≤ n * (sz + 1) := Nat.le_mul_of_pos_right _ (by omega)
                    omega
                · cases e; exact hnb
                · rcases List.mem_cons.1 hbb with rfl | hbb
                  · exact ⟨by simp, .inl (Nat.le_refl _)⟩
                  · exact ⟨Nat.lt_of_lt_of_le (OwVs.lt _ _ _ k1 b hbb) hbelow.size, .inr (k2 b hbb)⟩
                · rw [hrun]; simp [val, up_self]
              · cases h
        · cases h
    · cases h
  · cases h

end
end Go.Proofs.YtbhjkcicpobmhaaDoor
