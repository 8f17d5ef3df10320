/- The statement of FnExactTernLay: for all arguments the law returns true. -/
import Derived.Test.YtjcgnlpimefhpaaRows
import Derived.Test.YtjcgnlpimefhpaaCF
import Derived.Test.YtjcgnlpimefhpaaPTL
namespace Go.Proofs.Ytjcgnlpimefhpaa
open Go.RowKit Go.ChangeShapes Go.WideShapes Go.ChangeAt
set_option maxRecDepth 100000
set_option linter.unusedVariables false
theorem op_3 : OpD Try.prog 3 eInt := OpD.int Try.underlying3
theorem op_120 : OpD Try.prog 120 eFibHop := by
  intro H en W fuel cs y h
  obtain ⟨hl, hf⟩ := trod_struct Try.underlying120 h
  have hn : Try.prog.cellsOf 120 = 2 := by kernel_rfl
  rw [hn] at hl
  obtain ⟨c0, cs0, rfl⟩ : ∃ c r, cs = c :: r := by cases cs with | nil => simp at hl | cons a b => exact ⟨a, b, rfl⟩
  obtain ⟨c1, cs1, rfl⟩ : ∃ c r, cs0 = c :: r := by cases cs0 with | nil => simp at hl | cons a b => exact ⟨a, b, rfl⟩
  obtain rfl : cs1 = [] := by simpa using hl
  obtain ⟨n0, z0, g0⟩ := hf 0 _ rfl
  have g0 : DataW.trod en Try.prog W 0 (fun _ => true) true n0 3 [c0] = some z0 := g0
  obtain ⟨x0, r0⟩ := op_3 H en W n0 [c0] z0 g0
  obtain ⟨n1, z1, g1⟩ := hf 1 _ rfl
  have g1 : DataW.trod en Try.prog W 0 (fun _ => true) true n1 3 [c1] = some z1 := g1
  obtain ⟨x1, r1⟩ := op_3 H en W n1 [c1] z1 g1
  exact ⟨⟨x0, x1⟩, (RdVs.app r0 r1)⟩
theorem op_22 : OpD Try.prog 22 (fun xs : List FibHop => [.l 2 eFibHop xs]) := OpD.slice 2 Try.underlying22 op_120 (fun _ => rfl) (by kernel_rfl) (by decide)
theorem op_4 : OpD Try.prog 4 eBool := OpD.bool Try.underlying4
theorem op_5 : OpD Try.prog 5 eByte := OpD.byte Try.underlying5
theorem op_23 : OpD Try.prog 23 (fun xs : List Int => [.l 1 eByte xs]) := OpD.slice 1 Try.underlying23 op_5 (fun _ => rfl) (by kernel_rfl) (by decide)
theorem op_25 : OpD Try.prog 25 eFragPacket := by
  intro H en W fuel cs y h
  obtain ⟨hl, hf⟩ := trod_struct Try.underlying25 h
  have hn : Try.prog.cellsOf 25 = 9 := by kernel_rfl
  rw [hn] at hl
  obtain ⟨c0, cs0, rfl⟩ : ∃ c r, cs = c :: r := by cases cs with | nil => simp at hl | cons a b => exact ⟨a, b, rfl⟩
  obtain ⟨c1, cs1, rfl⟩ : ∃ c r, cs0 = c :: r := by cases cs0 with | nil => simp at hl | cons a b => exact ⟨a, b, rfl⟩
  obtain ⟨c2, cs2, rfl⟩ : ∃ c r, cs1 = c :: r := by cases cs1 with | nil => simp at hl | cons a b => exact ⟨a, b, rfl⟩
  obtain ⟨c3, cs3, rfl⟩ : ∃ c r, cs2 = c :: r := by cases cs2 with | nil => simp at hl | cons a b => exact ⟨a, b, rfl⟩
  obtain ⟨c4, cs4, rfl⟩ : ∃ c r, cs3 = c :: r := by cases cs3 with | nil => simp at hl | cons a b => exact ⟨a, b, rfl⟩
  obtain ⟨c5, cs5, rfl⟩ : ∃ c r, cs4 = c :: r := by cases cs4 with | nil => simp at hl | cons a b => exact ⟨a, b, rfl⟩
  obtain ⟨c6, cs6, rfl⟩ : ∃ c r, cs5 = c :: r := by cases cs5 with | nil => simp at hl | cons a b => exact ⟨a, b, rfl⟩
  obtain ⟨c7, cs7, rfl⟩ : ∃ c r, cs6 = c :: r := by cases cs6 with | nil => simp at hl | cons a b => exact ⟨a, b, rfl⟩
  obtain ⟨c8, cs8, rfl⟩ : ∃ c r, cs7 = c :: r := by cases cs7 with | nil => simp at hl | cons a b => exact ⟨a, b, rfl⟩
  obtain rfl : cs8 = [] := by simpa using hl
  obtain ⟨n0, z0, g0⟩ := hf 0 _ rfl
  have g0 : DataW.trod en Try.prog W 0 (fun _ => true) true n0 3 [c0] = some z0 := g0
  obtain ⟨x0, r0⟩ := op_3 H en W n0 [c0] z0 g0
  obtain ⟨n1, z1, g1⟩ := hf 1 _ rfl
  have g1 : DataW.trod en Try.prog W 0 (fun _ => true) true n1 3 [c1] = some z1 := g1
  obtain ⟨x1, r1⟩ := op_3 H en W n1 [c1] z1 g1
  obtain ⟨n2, z2, g2⟩ := hf 2 _ rfl
  have g2 : DataW.trod en Try.prog W 0 (fun _ => true) true n2 3 [c2] = some z2 := g2
  obtain ⟨x2, r2⟩ := op_3 H en W n2 [c2] z2 g2
  obtain ⟨n3, z3, g3⟩ := hf 3 _ rfl
  have g3 : DataW.trod en Try.prog W 0 (fun _ => true) true n3 3 [c3] = some z3 := g3
  obtain ⟨x3, r3⟩ := op_3 H en W n3 [c3] z3 g3
  obtain ⟨n4, z4, g4⟩ := hf 4 _ rfl
  have g4 : DataW.trod en Try.prog W 0 (fun _ => true) true n4 3 [c4] = some z4 := g4
  obtain ⟨x4, r4⟩ := op_3 H en W n4 [c4] z4 g4
  obtain ⟨n5, z5, g5⟩ := hf 5 _ rfl
  have g5 : DataW.trod en Try.prog W 0 (fun _ => true) true n5 4 [c5] = some z5 := g5
  obtain ⟨x5, r5⟩ := op_4 H en W n5 [c5] z5 g5
  obtain ⟨n6, z6, g6⟩ := hf 6 _ rfl
  have g6 : DataW.trod en Try.prog W 0 (fun _ => true) true n6 3 [c6] = some z6 := g6
  obtain ⟨x6, r6⟩ := op_3 H en W n6 [c6] z6 g6
  obtain ⟨n7, z7, g7⟩ := hf 7 _ rfl
  have g7 : DataW.trod en Try.prog W 0 (fun _ => true) true n7 4 [c7] = some z7 := g7
  obtain ⟨x7, r7⟩ := op_4 H en W n7 [c7] z7 g7
  obtain ⟨n8, z8, g8⟩ := hf 8 _ rfl
  have g8 : DataW.trod en Try.prog W 0 (fun _ => true) true n8 23 [c8] = some z8 := g8
  obtain ⟨x8, r8⟩ := op_23 H en W n8 [c8] z8 g8
  exact ⟨⟨x0, x1, x2, x3, x4, x5, x6, x7, x8⟩, (RdVs.app r0 (RdVs.app r1 (RdVs.app r2 (RdVs.app r3 (RdVs.app r4 (RdVs.app r5 (RdVs.app r6 (RdVs.app r7 r8))))))))⟩
theorem own : ownKnob Try.prog.godebug = none := by kernel_rfl
theorem cfA : Try.prog.inPlace 3 = Rows.fnExactTernLayRow.inPlace := by kernel_rfl
theorem cfB : Try.prog.unfollowed 3 = Rows.fnExactTernLayRow.unfollowed := by kernel_rfl
theorem cfC : Try.prog.recurses 3 = Rows.fnExactTernLayRow.recurses := by kernel_rfl
theorem cfD : Try.prog.varsNamed 3 = Rows.fnExactTernLayRow.named := by kernel_rfl
set_option maxRecDepth 100000 in
theorem lifted_FnExactTernLay (os : Os) (started : os.Started) (H : Type) (enc : TypeId × Value → H) :
    ReturnsInHanded {} Try.checked os 3 .any (Rows.fnExactTernLaySpec.pre6 enc Try.prog Try.f3 Rows.fnExactTernLayRow.domain false) (Rows.fnExactTernLaySpec.post enc Try.prog Try.f3 false true false false) := by
  refine returnsInHanded_of_change (C := Try.checked) own started (by kernel_rfl) Try.func3
    (ChangeSpec.witness6 (enc := enc) (C := Try.checked) false ⟨#[], #[.int .i64 0, .slice none 0 0, .int .i64 0, .agg #[.int .i64 0, .int .i64 0, .int .i64 0, .int .i64 0, .int .i64 0, .bool false, .int .i64 0, .bool false, .slice none 0 0]], []⟩ 8 (by kernel_rfl) (by kernel_rfl) (by kernel_rfl) (by kernel_rfl)) ?_
  intro W base args ds gs before hval0 hW hcnd _
  have hval : ∀ (j : Nat) t v, Try.f3.params[j]? = some t → args[j]? = some v → Value.okWide Try.prog W .any base t v := hval0
  have hW' := hW
  obtain ⟨p, q, hA0, hV, rfl, hfz, hnd⟩ := hW
  have hA : DataW.TrodAll enc Try.prog W 0 (fun _ => true) true Try.f3.params.toList args.toList ds p := hA0
  rw [Try.params3] at hA hval
  obtain ⟨v0, vs0, d0, ds0, p0, q0, hargs, rfl, rfl, h0, r0⟩ := trodAll_cons hA
  obtain ⟨v1, vs1, d1, ds1, p1, q1, rfl, rfl, rfl, h1, r1⟩ := trodAll_cons r0
  obtain ⟨v2, vs2, d2, ds2, p2, q2, rfl, rfl, rfl, h2, r2⟩ := trodAll_cons r1
  obtain ⟨v3, vs3, d3, ds3, p3, q3, rfl, rfl, rfl, h3, r3⟩ := trodAll_cons r2
  obtain ⟨rfl, rfl, rfl⟩ := trodAll_nil r3
  obtain rfl : args = #[v0, v1, v2, v3] := by cases args; simp_all
  obtain ⟨rfl, rfl⟩ := trodVars_none hV
  obtain ⟨fu0, t0⟩ := h0
  obtain ⟨x0, rfl⟩ := okWide_int Try.underlying3 (hval 0 3 v0 rfl rfl)
  obtain ⟨fu1, t1⟩ := h1
  obtain ⟨a1, n1, c1, rfl⟩ := okWide_slice Try.underlying22 (hval 1 22 v1 rfl rfl)
  obtain ⟨x1, u1, us1, e1, o1, -⟩ := op_22 H enc W fu1 _ _ t1
  obtain rfl : u1 = _ := (List.cons.inj e1).1.symm
  obtain ⟨fu2, t2⟩ := h2
  obtain ⟨x2, rfl⟩ := okWide_int Try.underlying3 (hval 2 3 v2 rfl rfl)
  obtain ⟨fu3, t3⟩ := h3
  obtain ⟨cs3, rfl, -⟩ := okWide_struct Try.underlying25 (hval 3 25 v3 rfl rfl)
  obtain ⟨x3, o3⟩ := op_25 H enc W fu3 cs3.toList _ t3
  have hc := law_call (W := W) (vs := [.int .i64 x0, .slice a1 n1 c1, .int .i64 x2, .agg cs3]) (ok3 x0 x1 x2 x3) trivial (x := .bool (F3 x0 x1 x2 x3)) ⟨_, _, [], [], rfl, ⟨⟨rfl, rfl⟩, rfl⟩, ⟨_, _, [], [], rfl, ⟨o1, rfl⟩, ⟨_, _, [], [], rfl, ⟨⟨rfl, rfl⟩, rfl⟩, ⟨_, _, [], [], rfl, ⟨⟨cs3.toList, by simp, o3⟩, rfl⟩, ⟨rfl, rfl⟩, rfl, List.nodup_nil⟩, rfl, List.nodup_nil⟩, rfl, List.nodup_nil⟩, rfl, List.nodup_nil⟩ rfl rfl
  rw [plain_3 x0 x1 x2 x3] at hc
  refine hc.mono fun e W' ⟨he, hb⟩ => ?_
  subst he
  exact ⟨_, rfl, law_post rfl hW' hb rfl Try.underlying4 rfl rfl rfl laid (by decide +kernel)⟩
/-- the statement -/
theorem proved_FnExactTernLay : Rows.FnExactTernLaySaid :=
  OpenClaim.holds_of_wide 3 Try.f3 rfl rfl rfl rfl rfl rfl rfl ⟨rfl, rfl, rfl, rfl, rfl⟩ rfl rfl rfl rfl rfl (by kernel_rfl) Try.func3 (by
      show joinedFacts Try.prog 3 Try.f3 Rows.fnExactTernLaySpec Rows.fnExactTernLayRow = true
      simp only [joinedFacts, laid, cfMaps, cfKeys, cfLifts, cfHeard, cfEnter, cfMake, cfA, cfB, cfC, cfD, Bool.and_true]
      kernel_rfl)
    (of_decide_eq_true (by kernel_rfl)) (by unfold Func.isWrapper; first | (rw [if_pos (by decide +kernel)]; kernel_rfl) | (rw [if_neg (by decide +kernel)]; exact ⟨rfl, rfl⟩))
    (fun os started H enc _ => lifted_FnExactTernLay os started H enc)
#print axioms proved_FnExactTernLay
end Go.Proofs.Ytjcgnlpimefhpaa
