/- The statement of FnExactLabOpen: for all arguments the law returns true. -/
import Derived.Test.YtjefeigdapcleaaRows
import Derived.Test.YtjefeigdapcleaaMQ
import Derived.Test.YtjefeigdapcleaaP2
namespace Go.Proofs.Ytjefeigdapcleaa
open Go.RowKit Go.ChangeShapes Go.WideShapes Go.ChangeAt
set_option maxRecDepth 100000
set_option linter.unusedVariables false
theorem op_3 : OpD Try.prog 3 eInt := OpD.int Try.underlying3
theorem op_96 : OpD Try.prog 96 eLabLink := by
  intro H en W fuel cs y h
  obtain ⟨hl, hf⟩ := trod_struct Try.underlying96 h
  have hn : Try.prog.cellsOf 96 = 2 := by kernel_rfl
  rw [hn] at hl
  obtain ⟨c0, cs0, rfl⟩ : ∃ c r, cs = c :: r := by cases cs with | nil => simp at hl | cons a b => exact ⟨a, b, rfl⟩
  obtain ⟨c1, cs1, rfl⟩ : ∃ c r, cs0 = c :: r := by cases cs0 with | nil => simp at hl | cons a b => exact ⟨a, b, rfl⟩
  obtain rfl : cs1 = [] := by simpa using hl
  obtain ⟨n0, z0, g0⟩ := hf 0 _ rfl
  have g0 : DataW.trod en Try.prog W 0 (fun _ => true) true n0 3 [c0] = some z0 := g0
  obtain ⟨x0, r0⟩ := op_3 H en W n0 [c0] z0 g0
  obtain ⟨n1, z1, g1⟩ := hf 1 _ rfl
  have g1 : DataW.trod en Try.prog W 0 (fun _ => true) true n1 3 [c1] = some z1 := g1
  obtain ⟨x1, r1⟩ := op_3 H en W n1 [c1] z1 g1
  exact ⟨⟨x0, x1⟩, (RdVs.app r0 r1)⟩
theorem op_22 : OpD Try.prog 22 (fun xs : List LabLink => [.l 2 eLabLink xs]) := OpD.slice 2 Try.underlying22 op_96 (fun _ => rfl) (by kernel_rfl) (by decide)
theorem own : ownKnob Try.prog.godebug = none := by kernel_rfl
theorem laid : laidOutB Try.prog = true := by kernel_rfl
set_option maxRecDepth 100000 in
theorem lifted_FnExactLabOpen (os : Os) (started : os.Started) (H : Type) (enc : TypeId × Value → H) :
    ReturnsInHanded {} Try.checked os 3 .any (Rows.fnExactLabOpenSpec.pre6 enc Try.prog Try.f3 Rows.fnExactLabOpenRow.domain false) (Rows.fnExactLabOpenSpec.post enc Try.prog Try.f3 false true false false) := by
  refine returnsInHanded_of_change (C := Try.checked) own started (by kernel_rfl) Try.func3
    (ChangeSpec.witness6 (enc := enc) (C := Try.checked) false ⟨#[], #[.int .i64 0, .slice none 0 0], []⟩ 8 (by kernel_rfl) (by kernel_rfl) (by kernel_rfl) (by kernel_rfl)) ?_
  intro W base args ds gs before hval0 hW hcnd _
  have hval : ∀ (j : Nat) t v, Try.f3.params[j]? = some t → args[j]? = some v → Value.okWide Try.prog W .any base t v := hval0
  have hW' := hW
  obtain ⟨p, q, hA0, hV, rfl, hfz, hnd⟩ := hW
  have hA : DataW.TrodAll enc Try.prog W 0 (fun _ => true) true Try.f3.params.toList args.toList ds p := hA0
  rw [Try.params3] at hA hval
  obtain ⟨v0, vs0, d0, ds0, p0, q0, hargs, rfl, rfl, h0, r0⟩ := trodAll_cons hA
  obtain ⟨v1, vs1, d1, ds1, p1, q1, rfl, rfl, rfl, h1, r1⟩ := trodAll_cons r0
  obtain ⟨rfl, rfl, rfl⟩ := trodAll_nil r1
  obtain rfl : args = #[v0, v1] := by cases args; simp_all
  obtain ⟨rfl, rfl⟩ := trodVars_none hV
  obtain ⟨fu0, t0⟩ := h0
  obtain ⟨x0, rfl⟩ := okWide_int Try.underlying3 (hval 0 3 v0 rfl rfl)
  obtain ⟨fu1, t1⟩ := h1
  obtain ⟨a1, n1, c1, rfl⟩ := okWide_slice Try.underlying22 (hval 1 22 v1 rfl rfl)
  obtain ⟨x1, u1, us1, e1, o1, -⟩ := op_22 H enc W fu1 _ _ t1
  obtain rfl : u1 = _ := (List.cons.inj e1).1.symm
  have hc := law_call (W := W) (ok3 x0 x1) trivial (x := .bool (F3 x0 x1)) ⟨_, _, [], [], rfl, ⟨⟨rfl, rfl⟩, rfl⟩, ⟨_, _, [], [], rfl, ⟨o1, rfl⟩, ⟨rfl, rfl⟩, rfl, List.nodup_nil⟩, rfl, List.nodup_nil⟩ rfl rfl
  rw [plain_3 x0 x1] at hc
  refine hc.mono fun e W' ⟨he, hb⟩ => ?_
  subst he
  exact ⟨_, rfl, law_post rfl hW' hb rfl Try.underlying4 rfl rfl rfl laid (by decide +kernel)⟩
/-- the statement -/
theorem proved_FnExactLabOpen : Rows.FnExactLabOpenSaid :=
  OpenClaim.holds_of_wide 3 Try.f3 rfl rfl rfl rfl rfl rfl rfl ⟨rfl, rfl, rfl, rfl, rfl⟩ rfl rfl rfl rfl rfl (by kernel_rfl) Try.func3 (by kernel_rfl)
    (of_decide_eq_true (by kernel_rfl)) (by unfold Func.isWrapper; first | (rw [if_pos (by decide +kernel)]; kernel_rfl) | (rw [if_neg (by decide +kernel)]; exact ⟨rfl, rfl⟩))
    (fun os started H enc _ => lifted_FnExactLabOpen os started H enc)
#print axioms proved_FnExactLabOpen
end Go.Proofs.Ytjefeigdapcleaa
