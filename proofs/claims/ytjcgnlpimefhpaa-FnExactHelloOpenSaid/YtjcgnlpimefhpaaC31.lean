/- The statement of FnExactHelloOpen: for all arguments the law returns true. -/
import Derived.Test.YtjcgnlpimefhpaaRows
import Derived.Test.YtjcgnlpimefhpaaCF
import Derived.Test.YtjcgnlpimefhpaaPHOL
namespace Go.Proofs.Ytjcgnlpimefhpaa
open Go.RowKit Go.ChangeShapes Go.WideShapes Go.ChangeAt
set_option maxRecDepth 100000
set_option linter.unusedVariables false
theorem op_3 : OpD Try.prog 3 eInt := OpD.int Try.underlying3
theorem op_128 : OpD Try.prog 128 eHelloKey := by
  intro H en W fuel cs y h
  obtain ⟨hl, hf⟩ := trod_struct Try.underlying128 h
  have hn : Try.prog.cellsOf 128 = 2 := by kernel_rfl
  rw [hn] at hl
  obtain ⟨c0, cs0, rfl⟩ : ∃ c r, cs = c :: r := by cases cs with | nil => simp at hl | cons a b => exact ⟨a, b, rfl⟩
  obtain ⟨c1, cs1, rfl⟩ : ∃ c r, cs0 = c :: r := by cases cs0 with | nil => simp at hl | cons a b => exact ⟨a, b, rfl⟩
  obtain rfl : cs1 = [] := by simpa using hl
  obtain ⟨n0, z0, g0⟩ := hf 0 _ rfl
  have g0 : DataW.trod en Try.prog W 0 (fun _ => true) true n0 3 [c0] = some z0 := g0
  obtain ⟨x0, r0⟩ := op_3 H en W n0 [c0] z0 g0
  obtain ⟨n1, z1, g1⟩ := hf 1 _ rfl
  have g1 : DataW.trod en Try.prog W 0 (fun _ => true) true n1 3 [c1] = some z1 := g1
  obtain ⟨x1, r1⟩ := op_3 H en W n1 [c1] z1 g1
  exact ⟨⟨x0, x1⟩, (RdVs.app r0 r1)⟩
theorem op_44 : OpD Try.prog 44 (fun xs : List HelloKey => [.l 2 eHelloKey xs]) := OpD.slice 2 Try.underlying44 op_128 (fun _ => rfl) (by kernel_rfl) (by decide)
theorem op_67 : OpD Try.prog 67 eHelloEntry := by
  intro H en W fuel cs y h
  obtain ⟨hl, hf⟩ := trod_struct Try.underlying67 h
  have hn : Try.prog.cellsOf 67 = 4 := by kernel_rfl
  rw [hn] at hl
  obtain ⟨c0, cs0, rfl⟩ : ∃ c r, cs = c :: r := by cases cs with | nil => simp at hl | cons a b => exact ⟨a, b, rfl⟩
  obtain ⟨c1, cs1, rfl⟩ : ∃ c r, cs0 = c :: r := by cases cs0 with | nil => simp at hl | cons a b => exact ⟨a, b, rfl⟩
  obtain ⟨c2, cs2, rfl⟩ : ∃ c r, cs1 = c :: r := by cases cs1 with | nil => simp at hl | cons a b => exact ⟨a, b, rfl⟩
  obtain ⟨c3, cs3, rfl⟩ : ∃ c r, cs2 = c :: r := by cases cs2 with | nil => simp at hl | cons a b => exact ⟨a, b, rfl⟩
  obtain rfl : cs3 = [] := by simpa using hl
  obtain ⟨n0, z0, g0⟩ := hf 0 _ rfl
  have g0 : DataW.trod en Try.prog W 0 (fun _ => true) true n0 3 [c0] = some z0 := g0
  obtain ⟨x0, r0⟩ := op_3 H en W n0 [c0] z0 g0
  obtain ⟨n1, z1, g1⟩ := hf 1 _ rfl
  have g1 : DataW.trod en Try.prog W 0 (fun _ => true) true n1 3 [c1] = some z1 := g1
  obtain ⟨x1, r1⟩ := op_3 H en W n1 [c1] z1 g1
  obtain ⟨n2, z2, g2⟩ := hf 2 _ rfl
  have g2 : DataW.trod en Try.prog W 0 (fun _ => true) true n2 3 [c2] = some z2 := g2
  obtain ⟨x2, r2⟩ := op_3 H en W n2 [c2] z2 g2
  obtain ⟨n3, z3, g3⟩ := hf 3 _ rfl
  have g3 : DataW.trod en Try.prog W 0 (fun _ => true) true n3 3 [c3] = some z3 := g3
  obtain ⟨x3, r3⟩ := op_3 H en W n3 [c3] z3 g3
  exact ⟨⟨x0, x1, x2, x3⟩, (RdVs.app r0 (RdVs.app r1 (RdVs.app r2 r3)))⟩
theorem op_45 : OpD Try.prog 45 (fun xs : List HelloEntry => [.l 4 eHelloEntry xs]) := OpD.slice 4 Try.underlying45 op_67 (fun _ => rfl) (by kernel_rfl) (by decide)
theorem own : ownKnob Try.prog.godebug = none := by kernel_rfl
theorem cfA : Try.prog.inPlace 11 = Rows.fnExactHelloOpenRow.inPlace := by kernel_rfl
theorem cfB : Try.prog.unfollowed 11 = Rows.fnExactHelloOpenRow.unfollowed := by kernel_rfl
theorem cfC : Try.prog.recurses 11 = Rows.fnExactHelloOpenRow.recurses := by kernel_rfl
theorem cfD : Try.prog.varsNamed 11 = Rows.fnExactHelloOpenRow.named := by kernel_rfl
set_option maxRecDepth 100000 in
theorem lifted_FnExactHelloOpen (os : Os) (started : os.Started) (H : Type) (enc : TypeId × Value → H) :
    ReturnsInHanded {} Try.checked os 11 .any (Rows.fnExactHelloOpenSpec.pre6 enc Try.prog Try.f11 Rows.fnExactHelloOpenRow.domain false) (Rows.fnExactHelloOpenSpec.post enc Try.prog Try.f11 false true false false) := by
  refine returnsInHanded_of_change (C := Try.checked) own started (by kernel_rfl) Try.func11
    (ChangeSpec.witness6 (enc := enc) (C := Try.checked) false ⟨#[], #[.int .i64 0, .int .i64 0, .slice none 0 0, .slice none 0 0, .slice none 0 0], []⟩ 8 (by kernel_rfl) (by kernel_rfl) (by kernel_rfl) (by kernel_rfl)) ?_
  intro W base args ds gs before hval0 hW hcnd _
  have hval : ∀ (j : Nat) t v, Try.f11.params[j]? = some t → args[j]? = some v → Value.okWide Try.prog W .any base t v := hval0
  have hW' := hW
  obtain ⟨p, q, hA0, hV, rfl, hfz, hnd⟩ := hW
  have hA : DataW.TrodAll enc Try.prog W 0 (fun _ => true) true Try.f11.params.toList args.toList ds p := hA0
  rw [Try.params11] at hA hval
  obtain ⟨v0, vs0, d0, ds0, p0, q0, hargs, rfl, rfl, h0, r0⟩ := trodAll_cons hA
  obtain ⟨v1, vs1, d1, ds1, p1, q1, rfl, rfl, rfl, h1, r1⟩ := trodAll_cons r0
  obtain ⟨v2, vs2, d2, ds2, p2, q2, rfl, rfl, rfl, h2, r2⟩ := trodAll_cons r1
  obtain ⟨v3, vs3, d3, ds3, p3, q3, rfl, rfl, rfl, h3, r3⟩ := trodAll_cons r2
  obtain ⟨v4, vs4, d4, ds4, p4, q4, rfl, rfl, rfl, h4, r4⟩ := trodAll_cons r3
  obtain ⟨rfl, rfl, rfl⟩ := trodAll_nil r4
  obtain rfl : args = #[v0, v1, v2, v3, v4] := by cases args; simp_all
  obtain ⟨rfl, rfl⟩ := trodVars_none hV
  obtain ⟨fu0, t0⟩ := h0
  obtain ⟨x0, rfl⟩ := okWide_int Try.underlying3 (hval 0 3 v0 rfl rfl)
  obtain ⟨fu1, t1⟩ := h1
  obtain ⟨x1, rfl⟩ := okWide_int Try.underlying3 (hval 1 3 v1 rfl rfl)
  obtain ⟨fu2, t2⟩ := h2
  obtain ⟨a2, n2, c2, rfl⟩ := okWide_slice Try.underlying44 (hval 2 44 v2 rfl rfl)
  obtain ⟨x2, u2, us2, e2, o2, -⟩ := op_44 H enc W fu2 _ _ t2
  obtain rfl : u2 = _ := (List.cons.inj e2).1.symm
  obtain ⟨fu3, t3⟩ := h3
  obtain ⟨a3, n3, c3, rfl⟩ := okWide_slice Try.underlying45 (hval 3 45 v3 rfl rfl)
  obtain ⟨x3, u3, us3, e3, o3, -⟩ := op_45 H enc W fu3 _ _ t3
  obtain rfl : u3 = _ := (List.cons.inj e3).1.symm
  obtain ⟨fu4, t4⟩ := h4
  obtain ⟨a4, n4, c4, rfl⟩ := okWide_slice Try.underlying45 (hval 4 45 v4 rfl rfl)
  obtain ⟨x4, u4, us4, e4, o4, -⟩ := op_45 H enc W fu4 _ _ t4
  obtain rfl : u4 = _ := (List.cons.inj e4).1.symm
  have hc := law_call (W := W) (vs := [.int .i64 x0, .int .i64 x1, .slice a2 n2 c2, .slice a3 n3 c3, .slice a4 n4 c4]) (ok11 x0 x1 x2 x3 x4) trivial (x := .bool (F11 x0 x1 x2 x3 x4)) ⟨_, _, [], [], rfl, ⟨⟨rfl, rfl⟩, rfl⟩, ⟨_, _, [], [], rfl, ⟨⟨rfl, rfl⟩, rfl⟩, ⟨_, _, [], [], rfl, ⟨o2, rfl⟩, ⟨_, _, [], [], rfl, ⟨o3, rfl⟩, ⟨_, _, [], [], rfl, ⟨o4, rfl⟩, ⟨rfl, rfl⟩, rfl, List.nodup_nil⟩, rfl, List.nodup_nil⟩, rfl, List.nodup_nil⟩, rfl, List.nodup_nil⟩, rfl, List.nodup_nil⟩ rfl rfl
  rw [plain_11 x0 x1 x2 x3 x4] at hc
  refine hc.mono fun e W' ⟨he, hb⟩ => ?_
  subst he
  exact ⟨_, rfl, law_post rfl hW' hb rfl Try.underlying4 rfl rfl rfl laid (by decide +kernel)⟩
/-- the statement -/
theorem proved_FnExactHelloOpen : Rows.FnExactHelloOpenSaid :=
  OpenClaim.holds_of_wide 11 Try.f11 rfl rfl rfl rfl rfl rfl rfl ⟨rfl, rfl, rfl, rfl, rfl⟩ rfl rfl rfl rfl rfl (by kernel_rfl) Try.func11 (by
      show joinedFacts Try.prog 11 Try.f11 Rows.fnExactHelloOpenSpec Rows.fnExactHelloOpenRow = true
      simp only [joinedFacts, laid, cfMaps, cfKeys, cfLifts, cfHeard, cfEnter, cfMake, cfA, cfB, cfC, cfD, Bool.and_true]
      kernel_rfl)
    (of_decide_eq_true (by kernel_rfl)) (by unfold Func.isWrapper; first | (rw [if_pos (by decide +kernel)]; kernel_rfl) | (rw [if_neg (by decide +kernel)]; exact ⟨rfl, rfl⟩))
    (fun os started H enc _ => lifted_FnExactHelloOpen os started H enc)
#print axioms proved_FnExactHelloOpen
end Go.Proofs.Ytjcgnlpimefhpaa
