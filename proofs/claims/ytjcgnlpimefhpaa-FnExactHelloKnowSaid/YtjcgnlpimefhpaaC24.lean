/- The statement of FnExactHelloKnow: for all arguments the law returns true. -/
import Derived.Test.YtjcgnlpimefhpaaRows
import Derived.Test.YtjcgnlpimefhpaaCF
import Derived.Test.YtjcgnlpimefhpaaPHKL
namespace Go.Proofs.Ytjcgnlpimefhpaa
open Go.RowKit Go.ChangeShapes Go.WideShapes Go.ChangeAt
set_option maxRecDepth 100000
set_option linter.unusedVariables false
theorem op_4 : OpD Try.prog 4 eBool := OpD.bool Try.underlying4
theorem op_3 : OpD Try.prog 3 eInt := OpD.int Try.underlying3
theorem op_128 : OpD Try.prog 128 eHelloKey := by
  intro H en W fuel cs y h
  obtain ⟨hl, hf⟩ := trod_struct Try.underlying128 h
  have hn : Try.prog.cellsOf 128 = 2 := by kernel_rfl
  rw [hn] at hl
  obtain ⟨c0, cs0, rfl⟩ : ∃ c r, cs = c :: r := by cases cs with | nil => simp at hl | cons a b => exact ⟨a, b, rfl⟩
  obtain ⟨c1, cs1, rfl⟩ : ∃ c r, cs0 = c :: r := by cases cs0 with | nil => simp at hl | cons a b => exact ⟨a, b, rfl⟩
  obtain rfl : cs1 = [] := by simpa using hl
  obtain ⟨n0, z0, g0⟩ := hf 0 _ rfl
  have g0 : DataW.trod en Try.prog W 0 (fun _ => true) true n0 3 [c0] = some z0 := g0
  obtain ⟨x0, r0⟩ := op_3 H en W n0 [c0] z0 g0
  obtain ⟨n1, z1, g1⟩ := hf 1 _ rfl
  have g1 : DataW.trod en Try.prog W 0 (fun _ => true) true n1 3 [c1] = some z1 := g1
  obtain ⟨x1, r1⟩ := op_3 H en W n1 [c1] z1 g1
  exact ⟨⟨x0, x1⟩, (RdVs.app r0 r1)⟩
theorem op_44 : OpD Try.prog 44 (fun xs : List HelloKey => [.l 2 eHelloKey xs]) := OpD.slice 2 Try.underlying44 op_128 (fun _ => rfl) (by kernel_rfl) (by decide)
theorem op_67 : OpD Try.prog 67 eHelloEntry := by
  intro H en W fuel cs y h
  obtain ⟨hl, hf⟩ := trod_struct Try.underlying67 h
  have hn : Try.prog.cellsOf 67 = 4 := by kernel_rfl
  rw [hn] at hl
  obtain ⟨c0, cs0, rfl⟩ : ∃ c r, cs = c :: r := by cases cs with | nil => simp at hl | cons a b => exact ⟨a, b, rfl⟩
  obtain ⟨c1, cs1, rfl⟩ : ∃ c r, cs0 = c :: r := by cases cs0 with | nil => simp at hl | cons a b => exact ⟨a, b, rfl⟩
  obtain ⟨c2, cs2, rfl⟩ : ∃ c r, cs1 = c :: r := by cases cs1 with | nil => simp at hl | cons a b => exact ⟨a, b, rfl⟩
  obtain ⟨c3, cs3, rfl⟩ : ∃ c r, cs2 = c :: r := by cases cs2 with | nil => simp at hl | cons a b => exact ⟨a, b, rfl⟩
  obtain rfl : cs3 = [] := by simpa using hl
  obtain ⟨n0, z0, g0⟩ := hf 0 _ rfl
  have g0 : DataW.trod en Try.prog W 0 (fun _ => true) true n0 3 [c0] = some z0 := g0
  obtain ⟨x0, r0⟩ := op_3 H en W n0 [c0] z0 g0
  obtain ⟨n1, z1, g1⟩ := hf 1 _ rfl
  have g1 : DataW.trod en Try.prog W 0 (fun _ => true) true n1 3 [c1] = some z1 := g1
  obtain ⟨x1, r1⟩ := op_3 H en W n1 [c1] z1 g1
  obtain ⟨n2, z2, g2⟩ := hf 2 _ rfl
  have g2 : DataW.trod en Try.prog W 0 (fun _ => true) true n2 3 [c2] = some z2 := g2
  obtain ⟨x2, r2⟩ := op_3 H en W n2 [c2] z2 g2
  obtain ⟨n3, z3, g3⟩ := hf 3 _ rfl
  have g3 : DataW.trod en Try.prog W 0 (fun _ => true) true n3 3 [c3] = some z3 := g3
  obtain ⟨x3, r3⟩ := op_3 H en W n3 [c3] z3 g3
  exact ⟨⟨x0, x1, x2, x3⟩, (RdVs.app r0 (RdVs.app r1 (RdVs.app r2 r3)))⟩
theorem op_45 : OpD Try.prog 45 (fun xs : List HelloEntry => [.l 4 eHelloEntry xs]) := OpD.slice 4 Try.underlying45 op_67 (fun _ => rfl) (by kernel_rfl) (by decide)
theorem op_69 : OpD Try.prog 69 eHelloChange := by
  intro H en W fuel cs y h
  obtain ⟨hl, hf⟩ := trod_struct Try.underlying69 h
  have hn : Try.prog.cellsOf 69 = 5 := by kernel_rfl
  rw [hn] at hl
  obtain ⟨c0, cs0, rfl⟩ : ∃ c r, cs = c :: r := by cases cs with | nil => simp at hl | cons a b => exact ⟨a, b, rfl⟩
  obtain ⟨c1, cs1, rfl⟩ : ∃ c r, cs0 = c :: r := by cases cs0 with | nil => simp at hl | cons a b => exact ⟨a, b, rfl⟩
  obtain ⟨c2, cs2, rfl⟩ : ∃ c r, cs1 = c :: r := by cases cs1 with | nil => simp at hl | cons a b => exact ⟨a, b, rfl⟩
  obtain ⟨c3, cs3, rfl⟩ : ∃ c r, cs2 = c :: r := by cases cs2 with | nil => simp at hl | cons a b => exact ⟨a, b, rfl⟩
  obtain ⟨c4, cs4, rfl⟩ : ∃ c r, cs3 = c :: r := by cases cs3 with | nil => simp at hl | cons a b => exact ⟨a, b, rfl⟩
  obtain rfl : cs4 = [] := by simpa using hl
  obtain ⟨n0, z0, g0⟩ := hf 0 _ rfl
  have g0 : DataW.trod en Try.prog W 0 (fun _ => true) true n0 3 [c0] = some z0 := g0
  obtain ⟨x0, r0⟩ := op_3 H en W n0 [c0] z0 g0
  obtain ⟨n1, z1, g1⟩ := hf 1 _ rfl
  have g1 : DataW.trod en Try.prog W 0 (fun _ => true) true n1 67 [c1, c2, c3, c4] = some z1 := g1
  obtain ⟨x1, r1⟩ := op_67 H en W n1 [c1, c2, c3, c4] z1 g1
  exact ⟨⟨x0, x1⟩, (RdVs.app r0 r1)⟩
theorem op_191 : OpD Try.prog 191 eHelloRoute := by
  intro H en W fuel cs y h
  obtain ⟨hl, hf⟩ := trod_struct Try.underlying191 h
  have hn : Try.prog.cellsOf 191 = 5 := by kernel_rfl
  rw [hn] at hl
  obtain ⟨c0, cs0, rfl⟩ : ∃ c r, cs = c :: r := by cases cs with | nil => simp at hl | cons a b => exact ⟨a, b, rfl⟩
  obtain ⟨c1, cs1, rfl⟩ : ∃ c r, cs0 = c :: r := by cases cs0 with | nil => simp at hl | cons a b => exact ⟨a, b, rfl⟩
  obtain ⟨c2, cs2, rfl⟩ : ∃ c r, cs1 = c :: r := by cases cs1 with | nil => simp at hl | cons a b => exact ⟨a, b, rfl⟩
  obtain ⟨c3, cs3, rfl⟩ : ∃ c r, cs2 = c :: r := by cases cs2 with | nil => simp at hl | cons a b => exact ⟨a, b, rfl⟩
  obtain ⟨c4, cs4, rfl⟩ : ∃ c r, cs3 = c :: r := by cases cs3 with | nil => simp at hl | cons a b => exact ⟨a, b, rfl⟩
  obtain rfl : cs4 = [] := by simpa using hl
  obtain ⟨n0, z0, g0⟩ := hf 0 _ rfl
  have g0 : DataW.trod en Try.prog W 0 (fun _ => true) true n0 67 [c0, c1, c2, c3] = some z0 := g0
  obtain ⟨x0, r0⟩ := op_67 H en W n0 [c0, c1, c2, c3] z0 g0
  obtain ⟨n1, z1, g1⟩ := hf 1 _ rfl
  have g1 : DataW.trod en Try.prog W 0 (fun _ => true) true n1 4 [c4] = some z1 := g1
  obtain ⟨x1, r1⟩ := op_4 H en W n1 [c4] z1 g1
  exact ⟨⟨x0, x1⟩, (RdVs.app r0 r1)⟩
theorem op_70 : OpD Try.prog 70 (fun xs : List HelloRoute => [.l 5 eHelloRoute xs]) := OpD.slice 5 Try.underlying70 op_191 (fun _ => rfl) (by kernel_rfl) (by decide)
theorem op_72 : OpD Try.prog 72 eHelloEnd := by
  intro H en W fuel cs y h
  obtain ⟨hl, hf⟩ := trod_struct Try.underlying72 h
  have hn : Try.prog.cellsOf 72 = 22 := by kernel_rfl
  rw [hn] at hl
  obtain ⟨c0, cs0, rfl⟩ : ∃ c r, cs = c :: r := by cases cs with | nil => simp at hl | cons a b => exact ⟨a, b, rfl⟩
  obtain ⟨c1, cs1, rfl⟩ : ∃ c r, cs0 = c :: r := by cases cs0 with | nil => simp at hl | cons a b => exact ⟨a, b, rfl⟩
  obtain ⟨c2, cs2, rfl⟩ : ∃ c r, cs1 = c :: r := by cases cs1 with | nil => simp at hl | cons a b => exact ⟨a, b, rfl⟩
  obtain ⟨c3, cs3, rfl⟩ : ∃ c r, cs2 = c :: r := by cases cs2 with | nil => simp at hl | cons a b => exact ⟨a, b, rfl⟩
  obtain ⟨c4, cs4, rfl⟩ : ∃ c r, cs3 = c :: r := by cases cs3 with | nil => simp at hl | cons a b => exact ⟨a, b, rfl⟩
  obtain ⟨c5, cs5, rfl⟩ : ∃ c r, cs4 = c :: r := by cases cs4 with | nil => simp at hl | cons a b => exact ⟨a, b, rfl⟩
  obtain ⟨c6, cs6, rfl⟩ : ∃ c r, cs5 = c :: r := by cases cs5 with | nil => simp at hl | cons a b => exact ⟨a, b, rfl⟩
  obtain ⟨c7, cs7, rfl⟩ : ∃ c r, cs6 = c :: r := by cases cs6 with | nil => simp at hl | cons a b => exact ⟨a, b, rfl⟩
  obtain ⟨c8, cs8, rfl⟩ : ∃ c r, cs7 = c :: r := by cases cs7 with | nil => simp at hl | cons a b => exact ⟨a, b, rfl⟩
  obtain ⟨c9, cs9, rfl⟩ : ∃ c r, cs8 = c :: r := by cases cs8 with | nil => simp at hl | cons a b => exact ⟨a, b, rfl⟩
  obtain ⟨c10, cs10, rfl⟩ : ∃ c r, cs9 = c :: r := by cases cs9 with | nil => simp at hl | cons a b => exact ⟨a, b, rfl⟩
  obtain ⟨c11, cs11, rfl⟩ : ∃ c r, cs10 = c :: r := by cases cs10 with | nil => simp at hl | cons a b => exact ⟨a, b, rfl⟩
  obtain ⟨c12, cs12, rfl⟩ : ∃ c r, cs11 = c :: r := by cases cs11 with | nil => simp at hl | cons a b => exact ⟨a, b, rfl⟩
  obtain ⟨c13, cs13, rfl⟩ : ∃ c r, cs12 = c :: r := by cases cs12 with | nil => simp at hl | cons a b => exact ⟨a, b, rfl⟩
  obtain ⟨c14, cs14, rfl⟩ : ∃ c r, cs13 = c :: r := by cases cs13 with | nil => simp at hl | cons a b => exact ⟨a, b, rfl⟩
  obtain ⟨c15, cs15, rfl⟩ : ∃ c r, cs14 = c :: r := by cases cs14 with | nil => simp at hl | cons a b => exact ⟨a, b, rfl⟩
  obtain ⟨c16, cs16, rfl⟩ : ∃ c r, cs15 = c :: r := by cases cs15 with | nil => simp at hl | cons a b => exact ⟨a, b, rfl⟩
  obtain ⟨c17, cs17, rfl⟩ : ∃ c r, cs16 = c :: r := by cases cs16 with | nil => simp at hl | cons a b => exact ⟨a, b, rfl⟩
  obtain ⟨c18, cs18, rfl⟩ : ∃ c r, cs17 = c :: r := by cases cs17 with | nil => simp at hl | cons a b => exact ⟨a, b, rfl⟩
  obtain ⟨c19, cs19, rfl⟩ : ∃ c r, cs18 = c :: r := by cases cs18 with | nil => simp at hl | cons a b => exact ⟨a, b, rfl⟩
  obtain ⟨c20, cs20, rfl⟩ : ∃ c r, cs19 = c :: r := by cases cs19 with | nil => simp at hl | cons a b => exact ⟨a, b, rfl⟩
  obtain ⟨c21, cs21, rfl⟩ : ∃ c r, cs20 = c :: r := by cases cs20 with | nil => simp at hl | cons a b => exact ⟨a, b, rfl⟩
  obtain rfl : cs21 = [] := by simpa using hl
  obtain ⟨n0, z0, g0⟩ := hf 0 _ rfl
  have g0 : DataW.trod en Try.prog W 0 (fun _ => true) true n0 3 [c0] = some z0 := g0
  obtain ⟨x0, r0⟩ := op_3 H en W n0 [c0] z0 g0
  obtain ⟨n1, z1, g1⟩ := hf 1 _ rfl
  have g1 : DataW.trod en Try.prog W 0 (fun _ => true) true n1 3 [c1] = some z1 := g1
  obtain ⟨x1, r1⟩ := op_3 H en W n1 [c1] z1 g1
  obtain ⟨n2, z2, g2⟩ := hf 2 _ rfl
  have g2 : DataW.trod en Try.prog W 0 (fun _ => true) true n2 44 [c2] = some z2 := g2
  obtain ⟨x2, r2⟩ := op_44 H en W n2 [c2] z2 g2
  obtain ⟨n3, z3, g3⟩ := hf 3 _ rfl
  have g3 : DataW.trod en Try.prog W 0 (fun _ => true) true n3 3 [c3] = some z3 := g3
  obtain ⟨x3, r3⟩ := op_3 H en W n3 [c3] z3 g3
  obtain ⟨n4, z4, g4⟩ := hf 4 _ rfl
  have g4 : DataW.trod en Try.prog W 0 (fun _ => true) true n4 45 [c4] = some z4 := g4
  obtain ⟨x4, r4⟩ := op_45 H en W n4 [c4] z4 g4
  obtain ⟨n5, z5, g5⟩ := hf 5 _ rfl
  have g5 : DataW.trod en Try.prog W 0 (fun _ => true) true n5 3 [c5] = some z5 := g5
  obtain ⟨x5, r5⟩ := op_3 H en W n5 [c5] z5 g5
  obtain ⟨n6, z6, g6⟩ := hf 6 _ rfl
  have g6 : DataW.trod en Try.prog W 0 (fun _ => true) true n6 3 [c6] = some z6 := g6
  obtain ⟨x6, r6⟩ := op_3 H en W n6 [c6] z6 g6
  obtain ⟨n7, z7, g7⟩ := hf 7 _ rfl
  have g7 : DataW.trod en Try.prog W 0 (fun _ => true) true n7 3 [c7] = some z7 := g7
  obtain ⟨x7, r7⟩ := op_3 H en W n7 [c7] z7 g7
  obtain ⟨n8, z8, g8⟩ := hf 8 _ rfl
  have g8 : DataW.trod en Try.prog W 0 (fun _ => true) true n8 4 [c8] = some z8 := g8
  obtain ⟨x8, r8⟩ := op_4 H en W n8 [c8] z8 g8
  obtain ⟨n9, z9, g9⟩ := hf 9 _ rfl
  have g9 : DataW.trod en Try.prog W 0 (fun _ => true) true n9 3 [c9] = some z9 := g9
  obtain ⟨x9, r9⟩ := op_3 H en W n9 [c9] z9 g9
  obtain ⟨n10, z10, g10⟩ := hf 10 _ rfl
  have g10 : DataW.trod en Try.prog W 0 (fun _ => true) true n10 3 [c10] = some z10 := g10
  obtain ⟨x10, r10⟩ := op_3 H en W n10 [c10] z10 g10
  obtain ⟨n11, z11, g11⟩ := hf 11 _ rfl
  have g11 : DataW.trod en Try.prog W 0 (fun _ => true) true n11 69 [c11, c12, c13, c14, c15] = some z11 := g11
  obtain ⟨x11, r11⟩ := op_69 H en W n11 [c11, c12, c13, c14, c15] z11 g11
  obtain ⟨n12, z12, g12⟩ := hf 12 _ rfl
  have g12 : DataW.trod en Try.prog W 0 (fun _ => true) true n12 45 [c16] = some z12 := g12
  obtain ⟨x12, r12⟩ := op_45 H en W n12 [c16] z12 g12
  obtain ⟨n13, z13, g13⟩ := hf 13 _ rfl
  have g13 : DataW.trod en Try.prog W 0 (fun _ => true) true n13 4 [c17] = some z13 := g13
  obtain ⟨x13, r13⟩ := op_4 H en W n13 [c17] z13 g13
  obtain ⟨n14, z14, g14⟩ := hf 14 _ rfl
  have g14 : DataW.trod en Try.prog W 0 (fun _ => true) true n14 3 [c18] = some z14 := g14
  obtain ⟨x14, r14⟩ := op_3 H en W n14 [c18] z14 g14
  obtain ⟨n15, z15, g15⟩ := hf 15 _ rfl
  have g15 : DataW.trod en Try.prog W 0 (fun _ => true) true n15 4 [c19] = some z15 := g15
  obtain ⟨x15, r15⟩ := op_4 H en W n15 [c19] z15 g15
  obtain ⟨n16, z16, g16⟩ := hf 16 _ rfl
  have g16 : DataW.trod en Try.prog W 0 (fun _ => true) true n16 70 [c20] = some z16 := g16
  obtain ⟨x16, r16⟩ := op_70 H en W n16 [c20] z16 g16
  obtain ⟨n17, z17, g17⟩ := hf 17 _ rfl
  have g17 : DataW.trod en Try.prog W 0 (fun _ => true) true n17 3 [c21] = some z17 := g17
  obtain ⟨x17, r17⟩ := op_3 H en W n17 [c21] z17 g17
  exact ⟨⟨x0, x1, x2, x3, x4, x5, x6, x7, x8, x9, x10, x11, x12, x13, x14, x15, x16, x17⟩, (RdVs.app r0 (RdVs.app r1 (RdVs.app r2 (RdVs.app r3 (RdVs.app r4 (RdVs.app r5 (RdVs.app r6 (RdVs.app r7 (RdVs.app r8 (RdVs.app r9 (RdVs.app r10 (RdVs.app r11 (RdVs.app r12 (RdVs.app r13 (RdVs.app r14 (RdVs.app r15 (RdVs.app r16 r17)))))))))))))))))⟩
theorem op_194 : OpD Try.prog 194 eHelloSide := by
  intro H en W fuel cs y h
  obtain ⟨hl, hf⟩ := trod_struct Try.underlying194 h
  have hn : Try.prog.cellsOf 194 = 23 := by kernel_rfl
  rw [hn] at hl
  obtain ⟨c0, cs0, rfl⟩ : ∃ c r, cs = c :: r := by cases cs with | nil => simp at hl | cons a b => exact ⟨a, b, rfl⟩
  obtain ⟨c1, cs1, rfl⟩ : ∃ c r, cs0 = c :: r := by cases cs0 with | nil => simp at hl | cons a b => exact ⟨a, b, rfl⟩
  obtain ⟨c2, cs2, rfl⟩ : ∃ c r, cs1 = c :: r := by cases cs1 with | nil => simp at hl | cons a b => exact ⟨a, b, rfl⟩
  obtain ⟨c3, cs3, rfl⟩ : ∃ c r, cs2 = c :: r := by cases cs2 with | nil => simp at hl | cons a b => exact ⟨a, b, rfl⟩
  obtain ⟨c4, cs4, rfl⟩ : ∃ c r, cs3 = c :: r := by cases cs3 with | nil => simp at hl | cons a b => exact ⟨a, b, rfl⟩
  obtain ⟨c5, cs5, rfl⟩ : ∃ c r, cs4 = c :: r := by cases cs4 with | nil => simp at hl | cons a b => exact ⟨a, b, rfl⟩
  obtain ⟨c6, cs6, rfl⟩ : ∃ c r, cs5 = c :: r := by cases cs5 with | nil => simp at hl | cons a b => exact ⟨a, b, rfl⟩
  obtain ⟨c7, cs7, rfl⟩ : ∃ c r, cs6 = c :: r := by cases cs6 with | nil => simp at hl | cons a b => exact ⟨a, b, rfl⟩
  obtain ⟨c8, cs8, rfl⟩ : ∃ c r, cs7 = c :: r := by cases cs7 with | nil => simp at hl | cons a b => exact ⟨a, b, rfl⟩
  obtain ⟨c9, cs9, rfl⟩ : ∃ c r, cs8 = c :: r := by cases cs8 with | nil => simp at hl | cons a b => exact ⟨a, b, rfl⟩
  obtain ⟨c10, cs10, rfl⟩ : ∃ c r, cs9 = c :: r := by cases cs9 with | nil => simp at hl | cons a b => exact ⟨a, b, rfl⟩
  obtain ⟨c11, cs11, rfl⟩ : ∃ c r, cs10 = c :: r := by cases cs10 with | nil => simp at hl | cons a b => exact ⟨a, b, rfl⟩
  obtain ⟨c12, cs12, rfl⟩ : ∃ c r, cs11 = c :: r := by cases cs11 with | nil => simp at hl | cons a b => exact ⟨a, b, rfl⟩
  obtain ⟨c13, cs13, rfl⟩ : ∃ c r, cs12 = c :: r := by cases cs12 with | nil => simp at hl | cons a b => exact ⟨a, b, rfl⟩
  obtain ⟨c14, cs14, rfl⟩ : ∃ c r, cs13 = c :: r := by cases cs13 with | nil => simp at hl | cons a b => exact ⟨a, b, rfl⟩
  obtain ⟨c15, cs15, rfl⟩ : ∃ c r, cs14 = c :: r := by cases cs14 with | nil => simp at hl | cons a b => exact ⟨a, b, rfl⟩
  obtain ⟨c16, cs16, rfl⟩ : ∃ c r, cs15 = c :: r := by cases cs15 with | nil => simp at hl | cons a b => exact ⟨a, b, rfl⟩
  obtain ⟨c17, cs17, rfl⟩ : ∃ c r, cs16 = c :: r := by cases cs16 with | nil => simp at hl | cons a b => exact ⟨a, b, rfl⟩
  obtain ⟨c18, cs18, rfl⟩ : ∃ c r, cs17 = c :: r := by cases cs17 with | nil => simp at hl | cons a b => exact ⟨a, b, rfl⟩
  obtain ⟨c19, cs19, rfl⟩ : ∃ c r, cs18 = c :: r := by cases cs18 with | nil => simp at hl | cons a b => exact ⟨a, b, rfl⟩
  obtain ⟨c20, cs20, rfl⟩ : ∃ c r, cs19 = c :: r := by cases cs19 with | nil => simp at hl | cons a b => exact ⟨a, b, rfl⟩
  obtain ⟨c21, cs21, rfl⟩ : ∃ c r, cs20 = c :: r := by cases cs20 with | nil => simp at hl | cons a b => exact ⟨a, b, rfl⟩
  obtain ⟨c22, cs22, rfl⟩ : ∃ c r, cs21 = c :: r := by cases cs21 with | nil => simp at hl | cons a b => exact ⟨a, b, rfl⟩
  obtain rfl : cs22 = [] := by simpa using hl
  obtain ⟨n0, z0, g0⟩ := hf 0 _ rfl
  have g0 : DataW.trod en Try.prog W 0 (fun _ => true) true n0 4 [c0] = some z0 := g0
  obtain ⟨x0, r0⟩ := op_4 H en W n0 [c0] z0 g0
  obtain ⟨n1, z1, g1⟩ := hf 1 _ rfl
  have g1 : DataW.trod en Try.prog W 0 (fun _ => true) true n1 72 [c1, c2, c3, c4, c5, c6, c7, c8, c9, c10, c11, c12, c13, c14, c15, c16, c17, c18, c19, c20, c21, c22] = some z1 := g1
  obtain ⟨x1, r1⟩ := op_72 H en W n1 [c1, c2, c3, c4, c5, c6, c7, c8, c9, c10, c11, c12, c13, c14, c15, c16, c17, c18, c19, c20, c21, c22] z1 g1
  exact ⟨⟨x0, x1⟩, (RdVs.app r0 r1)⟩
theorem op_77 : OpD Try.prog 77 (fun xs : List HelloSide => [.l 23 eHelloSide xs]) := OpD.slice 23 Try.underlying77 op_194 (fun _ => rfl) (by kernel_rfl) (by decide)
theorem op_198 : OpD Try.prog 198 eHelloWord := by
  intro H en W fuel cs y h
  obtain ⟨hl, hf⟩ := trod_struct Try.underlying198 h
  have hn : Try.prog.cellsOf 198 = 14 := by kernel_rfl
  rw [hn] at hl
  obtain ⟨c0, cs0, rfl⟩ : ∃ c r, cs = c :: r := by cases cs with | nil => simp at hl | cons a b => exact ⟨a, b, rfl⟩
  obtain ⟨c1, cs1, rfl⟩ : ∃ c r, cs0 = c :: r := by cases cs0 with | nil => simp at hl | cons a b => exact ⟨a, b, rfl⟩
  obtain ⟨c2, cs2, rfl⟩ : ∃ c r, cs1 = c :: r := by cases cs1 with | nil => simp at hl | cons a b => exact ⟨a, b, rfl⟩
  obtain ⟨c3, cs3, rfl⟩ : ∃ c r, cs2 = c :: r := by cases cs2 with | nil => simp at hl | cons a b => exact ⟨a, b, rfl⟩
  obtain ⟨c4, cs4, rfl⟩ : ∃ c r, cs3 = c :: r := by cases cs3 with | nil => simp at hl | cons a b => exact ⟨a, b, rfl⟩
  obtain ⟨c5, cs5, rfl⟩ : ∃ c r, cs4 = c :: r := by cases cs4 with | nil => simp at hl | cons a b => exact ⟨a, b, rfl⟩
  obtain ⟨c6, cs6, rfl⟩ : ∃ c r, cs5 = c :: r := by cases cs5 with | nil => simp at hl | cons a b => exact ⟨a, b, rfl⟩
  obtain ⟨c7, cs7, rfl⟩ : ∃ c r, cs6 = c :: r := by cases cs6 with | nil => simp at hl | cons a b => exact ⟨a, b, rfl⟩
  obtain ⟨c8, cs8, rfl⟩ : ∃ c r, cs7 = c :: r := by cases cs7 with | nil => simp at hl | cons a b => exact ⟨a, b, rfl⟩
  obtain ⟨c9, cs9, rfl⟩ : ∃ c r, cs8 = c :: r := by cases cs8 with | nil => simp at hl | cons a b => exact ⟨a, b, rfl⟩
  obtain ⟨c10, cs10, rfl⟩ : ∃ c r, cs9 = c :: r := by cases cs9 with | nil => simp at hl | cons a b => exact ⟨a, b, rfl⟩
  obtain ⟨c11, cs11, rfl⟩ : ∃ c r, cs10 = c :: r := by cases cs10 with | nil => simp at hl | cons a b => exact ⟨a, b, rfl⟩
  obtain ⟨c12, cs12, rfl⟩ : ∃ c r, cs11 = c :: r := by cases cs11 with | nil => simp at hl | cons a b => exact ⟨a, b, rfl⟩
  obtain ⟨c13, cs13, rfl⟩ : ∃ c r, cs12 = c :: r := by cases cs12 with | nil => simp at hl | cons a b => exact ⟨a, b, rfl⟩
  obtain rfl : cs13 = [] := by simpa using hl
  obtain ⟨n0, z0, g0⟩ := hf 0 _ rfl
  have g0 : DataW.trod en Try.prog W 0 (fun _ => true) true n0 3 [c0] = some z0 := g0
  obtain ⟨x0, r0⟩ := op_3 H en W n0 [c0] z0 g0
  obtain ⟨n1, z1, g1⟩ := hf 1 _ rfl
  have g1 : DataW.trod en Try.prog W 0 (fun _ => true) true n1 3 [c1] = some z1 := g1
  obtain ⟨x1, r1⟩ := op_3 H en W n1 [c1] z1 g1
  obtain ⟨n2, z2, g2⟩ := hf 2 _ rfl
  have g2 : DataW.trod en Try.prog W 0 (fun _ => true) true n2 3 [c2] = some z2 := g2
  obtain ⟨x2, r2⟩ := op_3 H en W n2 [c2] z2 g2
  obtain ⟨n3, z3, g3⟩ := hf 3 _ rfl
  have g3 : DataW.trod en Try.prog W 0 (fun _ => true) true n3 3 [c3] = some z3 := g3
  obtain ⟨x3, r3⟩ := op_3 H en W n3 [c3] z3 g3
  obtain ⟨n4, z4, g4⟩ := hf 4 _ rfl
  have g4 : DataW.trod en Try.prog W 0 (fun _ => true) true n4 3 [c4] = some z4 := g4
  obtain ⟨x4, r4⟩ := op_3 H en W n4 [c4] z4 g4
  obtain ⟨n5, z5, g5⟩ := hf 5 _ rfl
  have g5 : DataW.trod en Try.prog W 0 (fun _ => true) true n5 3 [c5] = some z5 := g5
  obtain ⟨x5, r5⟩ := op_3 H en W n5 [c5] z5 g5
  obtain ⟨n6, z6, g6⟩ := hf 6 _ rfl
  have g6 : DataW.trod en Try.prog W 0 (fun _ => true) true n6 3 [c6] = some z6 := g6
  obtain ⟨x6, r6⟩ := op_3 H en W n6 [c6] z6 g6
  obtain ⟨n7, z7, g7⟩ := hf 7 _ rfl
  have g7 : DataW.trod en Try.prog W 0 (fun _ => true) true n7 3 [c7] = some z7 := g7
  obtain ⟨x7, r7⟩ := op_3 H en W n7 [c7] z7 g7
  obtain ⟨n8, z8, g8⟩ := hf 8 _ rfl
  have g8 : DataW.trod en Try.prog W 0 (fun _ => true) true n8 69 [c8, c9, c10, c11, c12] = some z8 := g8
  obtain ⟨x8, r8⟩ := op_69 H en W n8 [c8, c9, c10, c11, c12] z8 g8
  obtain ⟨n9, z9, g9⟩ := hf 9 _ rfl
  have g9 : DataW.trod en Try.prog W 0 (fun _ => true) true n9 3 [c13] = some z9 := g9
  obtain ⟨x9, r9⟩ := op_3 H en W n9 [c13] z9 g9
  exact ⟨⟨x0, x1, x2, x3, x4, x5, x6, x7, x8, x9⟩, (RdVs.app r0 (RdVs.app r1 (RdVs.app r2 (RdVs.app r3 (RdVs.app r4 (RdVs.app r5 (RdVs.app r6 (RdVs.app r7 (RdVs.app r8 r9)))))))))⟩
theorem op_78 : OpD Try.prog 78 (fun xs : List HelloWord => [.l 14 eHelloWord xs]) := OpD.slice 14 Try.underlying78 op_198 (fun _ => rfl) (by kernel_rfl) (by decide)
theorem op_80 : OpD Try.prog 80 eHelloWorld := by
  intro H en W fuel cs y h
  obtain ⟨hl, hf⟩ := trod_struct Try.underlying80 h
  have hn : Try.prog.cellsOf 80 = 2 := by kernel_rfl
  rw [hn] at hl
  obtain ⟨c0, cs0, rfl⟩ : ∃ c r, cs = c :: r := by cases cs with | nil => simp at hl | cons a b => exact ⟨a, b, rfl⟩
  obtain ⟨c1, cs1, rfl⟩ : ∃ c r, cs0 = c :: r := by cases cs0 with | nil => simp at hl | cons a b => exact ⟨a, b, rfl⟩
  obtain rfl : cs1 = [] := by simpa using hl
  obtain ⟨n0, z0, g0⟩ := hf 0 _ rfl
  have g0 : DataW.trod en Try.prog W 0 (fun _ => true) true n0 77 [c0] = some z0 := g0
  obtain ⟨x0, r0⟩ := op_77 H en W n0 [c0] z0 g0
  obtain ⟨n1, z1, g1⟩ := hf 1 _ rfl
  have g1 : DataW.trod en Try.prog W 0 (fun _ => true) true n1 78 [c1] = some z1 := g1
  obtain ⟨x1, r1⟩ := op_78 H en W n1 [c1] z1 g1
  exact ⟨⟨x0, x1⟩, (RdVs.app r0 r1)⟩
theorem own : ownKnob Try.prog.godebug = none := by kernel_rfl
theorem cfA : Try.prog.inPlace 7 = Rows.fnExactHelloKnowRow.inPlace := by kernel_rfl
theorem cfB : Try.prog.unfollowed 7 = Rows.fnExactHelloKnowRow.unfollowed := by kernel_rfl
theorem cfC : Try.prog.recurses 7 = Rows.fnExactHelloKnowRow.recurses := by kernel_rfl
theorem cfD : Try.prog.varsNamed 7 = Rows.fnExactHelloKnowRow.named := by kernel_rfl
set_option maxRecDepth 100000 in
theorem lifted_FnExactHelloKnow (os : Os) (started : os.Started) (H : Type) (enc : TypeId × Value → H) :
    ReturnsInHanded {} Try.checked os 7 .any (Rows.fnExactHelloKnowSpec.pre6 enc Try.prog Try.f7 Rows.fnExactHelloKnowRow.domain false) (Rows.fnExactHelloKnowSpec.post enc Try.prog Try.f7 false true false false) := by
  refine returnsInHanded_of_change (C := Try.checked) own started (by kernel_rfl) Try.func7
    (ChangeSpec.witness6 (enc := enc) (C := Try.checked) false ⟨#[], #[.agg #[.slice none 0 0, .slice none 0 0]], []⟩ 8 (by kernel_rfl) (by kernel_rfl) (by kernel_rfl) (by kernel_rfl)) ?_
  intro W base args ds gs before hval0 hW hcnd _
  have hval : ∀ (j : Nat) t v, Try.f7.params[j]? = some t → args[j]? = some v → Value.okWide Try.prog W .any base t v := hval0
  have hW' := hW
  obtain ⟨p, q, hA0, hV, rfl, hfz, hnd⟩ := hW
  have hA : DataW.TrodAll enc Try.prog W 0 (fun _ => true) true Try.f7.params.toList args.toList ds p := hA0
  rw [Try.params7] at hA hval
  obtain ⟨v0, vs0, d0, ds0, p0, q0, hargs, rfl, rfl, h0, r0⟩ := trodAll_cons hA
  obtain ⟨rfl, rfl, rfl⟩ := trodAll_nil r0
  obtain rfl : args = #[v0] := by cases args; simp_all
  obtain ⟨rfl, rfl⟩ := trodVars_none hV
  obtain ⟨fu0, t0⟩ := h0
  obtain ⟨cs0, rfl, -⟩ := okWide_struct Try.underlying80 (hval 0 80 v0 rfl rfl)
  obtain ⟨x0, o0⟩ := op_80 H enc W fu0 cs0.toList _ t0
  have hc := law_call (W := W) (vs := [.agg cs0]) (ok7 x0) trivial (x := .bool (F7 x0)) ⟨_, _, [], [], rfl, ⟨⟨cs0.toList, by simp, o0⟩, rfl⟩, ⟨rfl, rfl⟩, rfl, List.nodup_nil⟩ rfl rfl
  rw [plain_7 x0] at hc
  refine hc.mono fun e W' ⟨he, hb⟩ => ?_
  subst he
  exact ⟨_, rfl, law_post rfl hW' hb rfl Try.underlying4 rfl rfl rfl laid (by decide +kernel)⟩
/-- the statement -/
theorem proved_FnExactHelloKnow : Rows.FnExactHelloKnowSaid :=
  OpenClaim.holds_of_wide 7 Try.f7 rfl rfl rfl rfl rfl rfl rfl ⟨rfl, rfl, rfl, rfl, rfl⟩ rfl rfl rfl rfl rfl (by kernel_rfl) Try.func7 (by
      show joinedFacts Try.prog 7 Try.f7 Rows.fnExactHelloKnowSpec Rows.fnExactHelloKnowRow = true
      simp only [joinedFacts, laid, cfMaps, cfKeys, cfLifts, cfHeard, cfEnter, cfMake, cfA, cfB, cfC, cfD, Bool.and_true]
      kernel_rfl)
    (of_decide_eq_true (by kernel_rfl)) (by unfold Func.isWrapper; first | (rw [if_pos (by decide +kernel)]; kernel_rfl) | (rw [if_neg (by decide +kernel)]; exact ⟨rfl, rfl⟩))
    (fun os started H enc _ => lifted_FnExactHelloKnow os started H enc)
#print axioms proved_FnExactHelloKnow
end Go.Proofs.Ytjcgnlpimefhpaa
