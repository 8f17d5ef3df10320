/- The statement of FnExactLabLay: for all arguments the law returns true. -/
import Derived.Test.YtjefeigdapcleaaRows
import Derived.Test.YtjefeigdapcleaaCF
import Derived.Test.YtjefeigdapcleaaPLL
namespace Go.Proofs.Ytjefeigdapcleaa
open Go.RowKit Go.ChangeShapes Go.WideShapes Go.ChangeAt
set_option maxRecDepth 100000
set_option linter.unusedVariables false
theorem op_3 : OpD Try.prog 3 eInt := OpD.int Try.underlying3
theorem op_96 : OpD Try.prog 96 eLabLink := by
  intro H en W fuel cs y h
  obtain ⟨hl, hf⟩ := trod_struct Try.underlying96 h
  have hn : Try.prog.cellsOf 96 = 2 := by kernel_rfl
  rw [hn] at hl
  obtain ⟨c0, cs0, rfl⟩ : ∃ c r, cs = c :: r := by cases cs with | nil => simp at hl | cons a b => exact ⟨a, b, rfl⟩
  obtain ⟨c1, cs1, rfl⟩ : ∃ c r, cs0 = c :: r := by cases cs0 with | nil => simp at hl | cons a b => exact ⟨a, b, rfl⟩
  obtain rfl : cs1 = [] := by simpa using hl
  obtain ⟨n0, z0, g0⟩ := hf 0 _ rfl
  have g0 : DataW.trod en Try.prog W 0 (fun _ => true) true n0 3 [c0] = some z0 := g0
  obtain ⟨x0, r0⟩ := op_3 H en W n0 [c0] z0 g0
  obtain ⟨n1, z1, g1⟩ := hf 1 _ rfl
  have g1 : DataW.trod en Try.prog W 0 (fun _ => true) true n1 3 [c1] = some z1 := g1
  obtain ⟨x1, r1⟩ := op_3 H en W n1 [c1] z1 g1
  exact ⟨⟨x0, x1⟩, (RdVs.app r0 r1)⟩
theorem op_22 : OpD Try.prog 22 (fun xs : List LabLink => [.l 2 eLabLink xs]) := OpD.slice 2 Try.underlying22 op_96 (fun _ => rfl) (by kernel_rfl) (by decide)
theorem op_196 : OpD Try.prog 196 eLabRow := by
  intro H en W fuel cs y h
  obtain ⟨hl, hf⟩ := trod_struct Try.underlying196 h
  have hn : Try.prog.cellsOf 196 = 3 := by kernel_rfl
  rw [hn] at hl
  obtain ⟨c0, cs0, rfl⟩ : ∃ c r, cs = c :: r := by cases cs with | nil => simp at hl | cons a b => exact ⟨a, b, rfl⟩
  obtain ⟨c1, cs1, rfl⟩ : ∃ c r, cs0 = c :: r := by cases cs0 with | nil => simp at hl | cons a b => exact ⟨a, b, rfl⟩
  obtain ⟨c2, cs2, rfl⟩ : ∃ c r, cs1 = c :: r := by cases cs1 with | nil => simp at hl | cons a b => exact ⟨a, b, rfl⟩
  obtain rfl : cs2 = [] := by simpa using hl
  obtain ⟨n0, z0, g0⟩ := hf 0 _ rfl
  have g0 : DataW.trod en Try.prog W 0 (fun _ => true) true n0 3 [c0] = some z0 := g0
  obtain ⟨x0, r0⟩ := op_3 H en W n0 [c0] z0 g0
  obtain ⟨n1, z1, g1⟩ := hf 1 _ rfl
  have g1 : DataW.trod en Try.prog W 0 (fun _ => true) true n1 3 [c1] = some z1 := g1
  obtain ⟨x1, r1⟩ := op_3 H en W n1 [c1] z1 g1
  obtain ⟨n2, z2, g2⟩ := hf 2 _ rfl
  have g2 : DataW.trod en Try.prog W 0 (fun _ => true) true n2 3 [c2] = some z2 := g2
  obtain ⟨x2, r2⟩ := op_3 H en W n2 [c2] z2 g2
  exact ⟨⟨x0, x1, x2⟩, (RdVs.app r0 (RdVs.app r1 r2))⟩
theorem op_139 : OpD Try.prog 139 (fun xs : List LabRow => [.l 3 eLabRow xs]) := OpD.slice 3 Try.underlying139 op_196 (fun _ => rfl) (by kernel_rfl) (by decide)
theorem op_198 : OpD Try.prog 198 eLabVia := by
  intro H en W fuel cs y h
  obtain ⟨hl, hf⟩ := trod_struct Try.underlying198 h
  have hn : Try.prog.cellsOf 198 = 3 := by kernel_rfl
  rw [hn] at hl
  obtain ⟨c0, cs0, rfl⟩ : ∃ c r, cs = c :: r := by cases cs with | nil => simp at hl | cons a b => exact ⟨a, b, rfl⟩
  obtain ⟨c1, cs1, rfl⟩ : ∃ c r, cs0 = c :: r := by cases cs0 with | nil => simp at hl | cons a b => exact ⟨a, b, rfl⟩
  obtain ⟨c2, cs2, rfl⟩ : ∃ c r, cs1 = c :: r := by cases cs1 with | nil => simp at hl | cons a b => exact ⟨a, b, rfl⟩
  obtain rfl : cs2 = [] := by simpa using hl
  obtain ⟨n0, z0, g0⟩ := hf 0 _ rfl
  have g0 : DataW.trod en Try.prog W 0 (fun _ => true) true n0 3 [c0] = some z0 := g0
  obtain ⟨x0, r0⟩ := op_3 H en W n0 [c0] z0 g0
  obtain ⟨n1, z1, g1⟩ := hf 1 _ rfl
  have g1 : DataW.trod en Try.prog W 0 (fun _ => true) true n1 3 [c1] = some z1 := g1
  obtain ⟨x1, r1⟩ := op_3 H en W n1 [c1] z1 g1
  obtain ⟨n2, z2, g2⟩ := hf 2 _ rfl
  have g2 : DataW.trod en Try.prog W 0 (fun _ => true) true n2 3 [c2] = some z2 := g2
  obtain ⟨x2, r2⟩ := op_3 H en W n2 [c2] z2 g2
  exact ⟨⟨x0, x1, x2⟩, (RdVs.app r0 (RdVs.app r1 r2))⟩
theorem op_140 : OpD Try.prog 140 (fun xs : List LabVia => [.l 3 eLabVia xs]) := OpD.slice 3 Try.underlying140 op_198 (fun _ => rfl) (by kernel_rfl) (by decide)
theorem op_142 : OpD Try.prog 142 eLabBox := by
  intro H en W fuel cs y h
  obtain ⟨hl, hf⟩ := trod_struct Try.underlying142 h
  have hn : Try.prog.cellsOf 142 = 2 := by kernel_rfl
  rw [hn] at hl
  obtain ⟨c0, cs0, rfl⟩ : ∃ c r, cs = c :: r := by cases cs with | nil => simp at hl | cons a b => exact ⟨a, b, rfl⟩
  obtain ⟨c1, cs1, rfl⟩ : ∃ c r, cs0 = c :: r := by cases cs0 with | nil => simp at hl | cons a b => exact ⟨a, b, rfl⟩
  obtain rfl : cs1 = [] := by simpa using hl
  obtain ⟨n0, z0, g0⟩ := hf 0 _ rfl
  have g0 : DataW.trod en Try.prog W 0 (fun _ => true) true n0 139 [c0] = some z0 := g0
  obtain ⟨x0, r0⟩ := op_139 H en W n0 [c0] z0 g0
  obtain ⟨n1, z1, g1⟩ := hf 1 _ rfl
  have g1 : DataW.trod en Try.prog W 0 (fun _ => true) true n1 140 [c1] = some z1 := g1
  obtain ⟨x1, r1⟩ := op_140 H en W n1 [c1] z1 g1
  exact ⟨⟨x0, x1⟩, (RdVs.app r0 r1)⟩
theorem op_36 : OpD Try.prog 36 (fun xs : List LabBox => [.l 2 eLabBox xs]) := OpD.slice 2 Try.underlying36 op_142 (fun _ => rfl) (by kernel_rfl) (by decide)
theorem op_38 : OpD Try.prog 38 eLabNet := by
  intro H en W fuel cs y h
  obtain ⟨hl, hf⟩ := trod_struct Try.underlying38 h
  have hn : Try.prog.cellsOf 38 = 2 := by kernel_rfl
  rw [hn] at hl
  obtain ⟨c0, cs0, rfl⟩ : ∃ c r, cs = c :: r := by cases cs with | nil => simp at hl | cons a b => exact ⟨a, b, rfl⟩
  obtain ⟨c1, cs1, rfl⟩ : ∃ c r, cs0 = c :: r := by cases cs0 with | nil => simp at hl | cons a b => exact ⟨a, b, rfl⟩
  obtain rfl : cs1 = [] := by simpa using hl
  obtain ⟨n0, z0, g0⟩ := hf 0 _ rfl
  have g0 : DataW.trod en Try.prog W 0 (fun _ => true) true n0 22 [c0] = some z0 := g0
  obtain ⟨x0, r0⟩ := op_22 H en W n0 [c0] z0 g0
  obtain ⟨n1, z1, g1⟩ := hf 1 _ rfl
  have g1 : DataW.trod en Try.prog W 0 (fun _ => true) true n1 36 [c1] = some z1 := g1
  obtain ⟨x1, r1⟩ := op_36 H en W n1 [c1] z1 g1
  exact ⟨⟨x0, x1⟩, (RdVs.app r0 r1)⟩
theorem op_45 : OpD Try.prog 45 (fun xs : List Int => [.l 1 eInt xs]) := OpD.slice 1 Try.underlying45 op_3 (fun _ => rfl) (by kernel_rfl) (by decide)
theorem own : ownKnob Try.prog.godebug = none := by kernel_rfl
theorem cfA : Try.prog.inPlace 16 = Rows.fnExactLabLayRow.inPlace := by kernel_rfl
theorem cfB : Try.prog.unfollowed 16 = Rows.fnExactLabLayRow.unfollowed := by kernel_rfl
theorem cfC : Try.prog.recurses 16 = Rows.fnExactLabLayRow.recurses := by kernel_rfl
theorem cfD : Try.prog.varsNamed 16 = Rows.fnExactLabLayRow.named := by kernel_rfl
set_option maxRecDepth 100000 in
theorem lifted_FnExactLabLay (os : Os) (started : os.Started) (H : Type) (enc : TypeId × Value → H) :
    ReturnsInHanded {} Try.checked os 16 .any (Rows.fnExactLabLaySpec.pre6 enc Try.prog Try.f16 Rows.fnExactLabLayRow.domain false) (Rows.fnExactLabLaySpec.post enc Try.prog Try.f16 false true false false) := by
  refine returnsInHanded_of_change (C := Try.checked) own started (by kernel_rfl) Try.func16
    (ChangeSpec.witness6 (enc := enc) (C := Try.checked) false ⟨#[], #[.agg #[.slice none 0 0, .slice none 0 0], .slice none 0 0], []⟩ 8 (by kernel_rfl) (by kernel_rfl) (by kernel_rfl) (by kernel_rfl)) ?_
  intro W base args ds gs before hval0 hW hcnd _
  have hval : ∀ (j : Nat) t v, Try.f16.params[j]? = some t → args[j]? = some v → Value.okWide Try.prog W .any base t v := hval0
  have hW' := hW
  obtain ⟨p, q, hA0, hV, rfl, hfz, hnd⟩ := hW
  have hA : DataW.TrodAll enc Try.prog W 0 (fun _ => true) true Try.f16.params.toList args.toList ds p := hA0
  rw [Try.params16] at hA hval
  obtain ⟨v0, vs0, d0, ds0, p0, q0, hargs, rfl, rfl, h0, r0⟩ := trodAll_cons hA
  obtain ⟨v1, vs1, d1, ds1, p1, q1, rfl, rfl, rfl, h1, r1⟩ := trodAll_cons r0
  obtain ⟨rfl, rfl, rfl⟩ := trodAll_nil r1
  obtain rfl : args = #[v0, v1] := by cases args; simp_all
  obtain ⟨rfl, rfl⟩ := trodVars_none hV
  obtain ⟨fu0, t0⟩ := h0
  obtain ⟨cs0, rfl, -⟩ := okWide_struct Try.underlying38 (hval 0 38 v0 rfl rfl)
  obtain ⟨x0, o0⟩ := op_38 H enc W fu0 cs0.toList _ t0
  obtain ⟨fu1, t1⟩ := h1
  obtain ⟨a1, n1, c1, rfl⟩ := okWide_slice Try.underlying45 (hval 1 45 v1 rfl rfl)
  obtain ⟨x1, u1, us1, e1, o1, -⟩ := op_45 H enc W fu1 _ _ t1
  obtain rfl : u1 = _ := (List.cons.inj e1).1.symm
  have hc := law_call (W := W) (vs := [.agg cs0, .slice a1 n1 c1]) (ok16 x0 x1) trivial (x := .bool (F16 x0 x1)) ⟨_, _, [], [], rfl, ⟨⟨cs0.toList, by simp, o0⟩, rfl⟩, ⟨_, _, [], [], rfl, ⟨o1, rfl⟩, ⟨rfl, rfl⟩, rfl, List.nodup_nil⟩, rfl, List.nodup_nil⟩ rfl rfl
  rw [plain_16 x0 x1] at hc
  refine hc.mono fun e W' ⟨he, hb⟩ => ?_
  subst he
  exact ⟨_, rfl, law_post rfl hW' hb rfl Try.underlying4 rfl rfl rfl laid (by decide +kernel)⟩
/-- the statement -/
theorem proved_FnExactLabLay : Rows.FnExactLabLaySaid :=
  OpenClaim.holds_of_wide 16 Try.f16 rfl rfl rfl rfl rfl rfl rfl ⟨rfl, rfl, rfl, rfl, rfl⟩ rfl rfl rfl rfl rfl (by kernel_rfl) Try.func16 (by
      show joinedFacts Try.prog 16 Try.f16 Rows.fnExactLabLaySpec Rows.fnExactLabLayRow = true
      simp only [joinedFacts, laid, cfMaps, cfKeys, cfLifts, cfHeard, cfEnter, cfMake, cfA, cfB, cfC, cfD, Bool.and_true]
      kernel_rfl)
    (of_decide_eq_true (by kernel_rfl)) (by unfold Func.isWrapper; first | (rw [if_pos (by decide +kernel)]; kernel_rfl) | (rw [if_neg (by decide +kernel)]; exact ⟨rfl, rfl⟩))
    (fun os started H enc _ => lifted_FnExactLabLay os started H enc)
#print axioms proved_FnExactLabLay
end Go.Proofs.Ytjefeigdapcleaa
