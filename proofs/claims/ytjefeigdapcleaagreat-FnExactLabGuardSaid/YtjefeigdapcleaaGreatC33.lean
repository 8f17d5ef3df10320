/- The statement of FnExactLabGuard: for all arguments the law returns true. -/
import Derived.Test.YtjefeigdapcleaaGreatRows
import Derived.Test.YtjefeigdapcleaaGreatCF
import Derived.Test.YtjefeigdapcleaaGreatPGL
namespace Go.Proofs.YtjefeigdapcleaaGreat
open Go.RowKit Go.ChangeShapes Go.WideShapes Go.ChangeAt
set_option maxRecDepth 100000
set_option linter.unusedVariables false
theorem op_3 : OpD Tryz.prog 3 eInt := OpD.int Tryz.underlying3
theorem op_135 : OpD Tryz.prog 135 eLabLink := by
  intro H en W fuel cs y h
  obtain ⟨hl, hf⟩ := trod_struct Tryz.underlying135 h
  have hn : Tryz.prog.cellsOf 135 = 2 := by kernel_rfl
  rw [hn] at hl
  obtain ⟨c0, cs0, rfl⟩ : ∃ c r, cs = c :: r := by cases cs with | nil => simp at hl | cons a b => exact ⟨a, b, rfl⟩
  obtain ⟨c1, cs1, rfl⟩ : ∃ c r, cs0 = c :: r := by cases cs0 with | nil => simp at hl | cons a b => exact ⟨a, b, rfl⟩
  obtain rfl : cs1 = [] := by simpa using hl
  obtain ⟨n0, z0, g0⟩ := hf 0 _ rfl
  have g0 : DataW.trod en Tryz.prog W 0 (fun _ => true) true n0 3 [c0] = some z0 := g0
  obtain ⟨x0, r0⟩ := op_3 H en W n0 [c0] z0 g0
  obtain ⟨n1, z1, g1⟩ := hf 1 _ rfl
  have g1 : DataW.trod en Tryz.prog W 0 (fun _ => true) true n1 3 [c1] = some z1 := g1
  obtain ⟨x1, r1⟩ := op_3 H en W n1 [c1] z1 g1
  exact ⟨⟨x0, x1⟩, (RdVs.app r0 r1)⟩
theorem op_54 : OpD Tryz.prog 54 (fun xs : List LabLink => [.l 2 eLabLink xs]) := OpD.slice 2 Tryz.underlying54 op_135 (fun _ => rfl) (by kernel_rfl) (by decide)
theorem op_175 : OpD Tryz.prog 175 eLabRow := by
  intro H en W fuel cs y h
  obtain ⟨hl, hf⟩ := trod_struct Tryz.underlying175 h
  have hn : Tryz.prog.cellsOf 175 = 3 := by kernel_rfl
  rw [hn] at hl
  obtain ⟨c0, cs0, rfl⟩ : ∃ c r, cs = c :: r := by cases cs with | nil => simp at hl | cons a b => exact ⟨a, b, rfl⟩
  obtain ⟨c1, cs1, rfl⟩ : ∃ c r, cs0 = c :: r := by cases cs0 with | nil => simp at hl | cons a b => exact ⟨a, b, rfl⟩
  obtain ⟨c2, cs2, rfl⟩ : ∃ c r, cs1 = c :: r := by cases cs1 with | nil => simp at hl | cons a b => exact ⟨a, b, rfl⟩
  obtain rfl : cs2 = [] := by simpa using hl
  obtain ⟨n0, z0, g0⟩ := hf 0 _ rfl
  have g0 : DataW.trod en Tryz.prog W 0 (fun _ => true) true n0 3 [c0] = some z0 := g0
  obtain ⟨x0, r0⟩ := op_3 H en W n0 [c0] z0 g0
  obtain ⟨n1, z1, g1⟩ := hf 1 _ rfl
  have g1 : DataW.trod en Tryz.prog W 0 (fun _ => true) true n1 3 [c1] = some z1 := g1
  obtain ⟨x1, r1⟩ := op_3 H en W n1 [c1] z1 g1
  obtain ⟨n2, z2, g2⟩ := hf 2 _ rfl
  have g2 : DataW.trod en Tryz.prog W 0 (fun _ => true) true n2 3 [c2] = some z2 := g2
  obtain ⟨x2, r2⟩ := op_3 H en W n2 [c2] z2 g2
  exact ⟨⟨x0, x1, x2⟩, (RdVs.app r0 (RdVs.app r1 r2))⟩
theorem op_130 : OpD Tryz.prog 130 (fun xs : List LabRow => [.l 3 eLabRow xs]) := OpD.slice 3 Tryz.underlying130 op_175 (fun _ => rfl) (by kernel_rfl) (by decide)
theorem op_177 : OpD Tryz.prog 177 eLabVia := by
  intro H en W fuel cs y h
  obtain ⟨hl, hf⟩ := trod_struct Tryz.underlying177 h
  have hn : Tryz.prog.cellsOf 177 = 3 := by kernel_rfl
  rw [hn] at hl
  obtain ⟨c0, cs0, rfl⟩ : ∃ c r, cs = c :: r := by cases cs with | nil => simp at hl | cons a b => exact ⟨a, b, rfl⟩
  obtain ⟨c1, cs1, rfl⟩ : ∃ c r, cs0 = c :: r := by cases cs0 with | nil => simp at hl | cons a b => exact ⟨a, b, rfl⟩
  obtain ⟨c2, cs2, rfl⟩ : ∃ c r, cs1 = c :: r := by cases cs1 with | nil => simp at hl | cons a b => exact ⟨a, b, rfl⟩
  obtain rfl : cs2 = [] := by simpa using hl
  obtain ⟨n0, z0, g0⟩ := hf 0 _ rfl
  have g0 : DataW.trod en Tryz.prog W 0 (fun _ => true) true n0 3 [c0] = some z0 := g0
  obtain ⟨x0, r0⟩ := op_3 H en W n0 [c0] z0 g0
  obtain ⟨n1, z1, g1⟩ := hf 1 _ rfl
  have g1 : DataW.trod en Tryz.prog W 0 (fun _ => true) true n1 3 [c1] = some z1 := g1
  obtain ⟨x1, r1⟩ := op_3 H en W n1 [c1] z1 g1
  obtain ⟨n2, z2, g2⟩ := hf 2 _ rfl
  have g2 : DataW.trod en Tryz.prog W 0 (fun _ => true) true n2 3 [c2] = some z2 := g2
  obtain ⟨x2, r2⟩ := op_3 H en W n2 [c2] z2 g2
  exact ⟨⟨x0, x1, x2⟩, (RdVs.app r0 (RdVs.app r1 r2))⟩
theorem op_131 : OpD Tryz.prog 131 (fun xs : List LabVia => [.l 3 eLabVia xs]) := OpD.slice 3 Tryz.underlying131 op_177 (fun _ => rfl) (by kernel_rfl) (by decide)
theorem op_133 : OpD Tryz.prog 133 eLabBox := by
  intro H en W fuel cs y h
  obtain ⟨hl, hf⟩ := trod_struct Tryz.underlying133 h
  have hn : Tryz.prog.cellsOf 133 = 2 := by kernel_rfl
  rw [hn] at hl
  obtain ⟨c0, cs0, rfl⟩ : ∃ c r, cs = c :: r := by cases cs with | nil => simp at hl | cons a b => exact ⟨a, b, rfl⟩
  obtain ⟨c1, cs1, rfl⟩ : ∃ c r, cs0 = c :: r := by cases cs0 with | nil => simp at hl | cons a b => exact ⟨a, b, rfl⟩
  obtain rfl : cs1 = [] := by simpa using hl
  obtain ⟨n0, z0, g0⟩ := hf 0 _ rfl
  have g0 : DataW.trod en Tryz.prog W 0 (fun _ => true) true n0 130 [c0] = some z0 := g0
  obtain ⟨x0, r0⟩ := op_130 H en W n0 [c0] z0 g0
  obtain ⟨n1, z1, g1⟩ := hf 1 _ rfl
  have g1 : DataW.trod en Tryz.prog W 0 (fun _ => true) true n1 131 [c1] = some z1 := g1
  obtain ⟨x1, r1⟩ := op_131 H en W n1 [c1] z1 g1
  exact ⟨⟨x0, x1⟩, (RdVs.app r0 r1)⟩
theorem op_55 : OpD Tryz.prog 55 (fun xs : List LabBox => [.l 2 eLabBox xs]) := OpD.slice 2 Tryz.underlying55 op_133 (fun _ => rfl) (by kernel_rfl) (by decide)
theorem op_57 : OpD Tryz.prog 57 eLabNet := by
  intro H en W fuel cs y h
  obtain ⟨hl, hf⟩ := trod_struct Tryz.underlying57 h
  have hn : Tryz.prog.cellsOf 57 = 2 := by kernel_rfl
  rw [hn] at hl
  obtain ⟨c0, cs0, rfl⟩ : ∃ c r, cs = c :: r := by cases cs with | nil => simp at hl | cons a b => exact ⟨a, b, rfl⟩
  obtain ⟨c1, cs1, rfl⟩ : ∃ c r, cs0 = c :: r := by cases cs0 with | nil => simp at hl | cons a b => exact ⟨a, b, rfl⟩
  obtain rfl : cs1 = [] := by simpa using hl
  obtain ⟨n0, z0, g0⟩ := hf 0 _ rfl
  have g0 : DataW.trod en Tryz.prog W 0 (fun _ => true) true n0 54 [c0] = some z0 := g0
  obtain ⟨x0, r0⟩ := op_54 H en W n0 [c0] z0 g0
  obtain ⟨n1, z1, g1⟩ := hf 1 _ rfl
  have g1 : DataW.trod en Tryz.prog W 0 (fun _ => true) true n1 55 [c1] = some z1 := g1
  obtain ⟨x1, r1⟩ := op_55 H en W n1 [c1] z1 g1
  exact ⟨⟨x0, x1⟩, (RdVs.app r0 r1)⟩
theorem own : ownKnob Tryz.prog.godebug = none := by kernel_rfl
theorem cfA : Tryz.prog.inPlace 6 = Rows.fnExactLabGuardRow.inPlace := by kernel_rfl
theorem cfB : Tryz.prog.unfollowed 6 = Rows.fnExactLabGuardRow.unfollowed := by kernel_rfl
theorem cfC : Tryz.prog.recurses 6 = Rows.fnExactLabGuardRow.recurses := by kernel_rfl
theorem cfD : Tryz.prog.varsNamed 6 = Rows.fnExactLabGuardRow.named := by kernel_rfl
set_option maxRecDepth 100000 in
theorem lifted_FnExactLabGuard (os : Os) (started : os.Started) (H : Type) (enc : TypeId × Value → H) :
    ReturnsInHanded {} Tryz.checked os 6 .any (Rows.fnExactLabGuardSpec.pre6 enc Tryz.prog Tryz.f6 Rows.fnExactLabGuardRow.domain false) (Rows.fnExactLabGuardSpec.post enc Tryz.prog Tryz.f6 false true false false) := by
  refine returnsInHanded_of_change (C := Tryz.checked) own started (by kernel_rfl) Tryz.func6
    (ChangeSpec.witness6 (enc := enc) (C := Tryz.checked) false ⟨#[], #[.agg #[.slice none 0 0, .slice none 0 0], .int .i64 0, .int .i64 0], []⟩ 8 (by kernel_rfl) (by kernel_rfl) (by kernel_rfl) (by kernel_rfl)) ?_
  intro W base args ds gs before hval0 hW hcnd _
  have hval : ∀ (j : Nat) t v, Tryz.f6.params[j]? = some t → args[j]? = some v → Value.okWide Tryz.prog W .any base t v := hval0
  have hW' := hW
  obtain ⟨p, q, hA0, hV, rfl, hfz, hnd⟩ := hW
  have hA : DataW.TrodAll enc Tryz.prog W 0 (fun _ => true) true Tryz.f6.params.toList args.toList ds p := hA0
  rw [Tryz.params6] at hA hval
  obtain ⟨v0, vs0, d0, ds0, p0, q0, hargs, rfl, rfl, h0, r0⟩ := trodAll_cons hA
  obtain ⟨v1, vs1, d1, ds1, p1, q1, rfl, rfl, rfl, h1, r1⟩ := trodAll_cons r0
  obtain ⟨v2, vs2, d2, ds2, p2, q2, rfl, rfl, rfl, h2, r2⟩ := trodAll_cons r1
  obtain ⟨rfl, rfl, rfl⟩ := trodAll_nil r2
  obtain rfl : args = #[v0, v1, v2] := by cases args; simp_all
  obtain ⟨rfl, rfl⟩ := trodVars_none hV
  obtain ⟨fu0, t0⟩ := h0
  obtain ⟨cs0, rfl, -⟩ := okWide_struct Tryz.underlying57 (hval 0 57 v0 rfl rfl)
  obtain ⟨x0, o0⟩ := op_57 H enc W fu0 cs0.toList _ t0
  obtain ⟨fu1, t1⟩ := h1
  obtain ⟨x1, rfl⟩ := okWide_int Tryz.underlying3 (hval 1 3 v1 rfl rfl)
  obtain ⟨fu2, t2⟩ := h2
  obtain ⟨x2, rfl⟩ := okWide_int Tryz.underlying3 (hval 2 3 v2 rfl rfl)
  have hc := law_call (W := W) (vs := [.agg cs0, .int .i64 x1, .int .i64 x2]) (ok6 x0 x1 x2) trivial (x := .bool (F6 x0 x1 x2)) ⟨_, _, [], [], rfl, ⟨⟨cs0.toList, by simp, o0⟩, rfl⟩, ⟨_, _, [], [], rfl, ⟨⟨rfl, rfl⟩, rfl⟩, ⟨_, _, [], [], rfl, ⟨⟨rfl, rfl⟩, rfl⟩, ⟨rfl, rfl⟩, rfl, List.nodup_nil⟩, rfl, List.nodup_nil⟩, rfl, List.nodup_nil⟩ rfl rfl
  rw [plain_6 x0 x1 x2] at hc
  refine hc.mono fun e W' ⟨he, hb⟩ => ?_
  subst he
  exact ⟨_, rfl, law_post rfl hW' hb rfl Tryz.underlying4 rfl rfl rfl laid (by decide +kernel)⟩
/-- the statement -/
theorem proved_FnExactLabGuard : Rows.FnExactLabGuardSaid :=
  OpenClaim.holds_of_wide 6 Tryz.f6 rfl rfl rfl rfl rfl rfl rfl ⟨rfl, rfl, rfl, rfl, rfl⟩ rfl rfl rfl rfl rfl (by kernel_rfl) Tryz.func6 (by
      show joinedFacts Tryz.prog 6 Tryz.f6 Rows.fnExactLabGuardSpec Rows.fnExactLabGuardRow = true
      simp only [joinedFacts, laid, cfMaps, cfKeys, cfLifts, cfHeard, cfEnter, cfMake, cfA, cfB, cfC, cfD, Bool.and_true]
      kernel_rfl)
    (of_decide_eq_true (by kernel_rfl)) (by unfold Func.isWrapper; first | (rw [if_pos (by decide +kernel)]; kernel_rfl) | (rw [if_neg (by decide +kernel)]; exact ⟨rfl, rfl⟩))
    (fun os started H enc _ => lifted_FnExactLabGuard os started H enc)
#print axioms proved_FnExactLabGuard
end Go.Proofs.YtjefeigdapcleaaGreat
