/- the walks of functions -/
import Derived.Test.YtfehpdcfndhniaaRows
import Derived.Test.YtfehpdcfndhniaaK3
import Derived.Test.YtfehpdcfndhniaaK6
namespace Go.Proofs.Ytfehpdcfndhniaa
open Go.RowKit Go.ChangeShapes Go.WideShapes Go.ChangeAt
set_option maxRecDepth 100000
set_option linter.unusedSimpArgs false
set_option linter.unusedVariables false
theorem mixed : Try.prog.follows .mixedOrders = true := Checked.mixed Try.checked
structure LabLink where
  A : Int
  B : Int
  deriving DecidableEq, Inhabited
def rpLabLink : Rp LabLink := Rp.flat 2 (fun x => [.int .i64 x.A, .int .i64 x.B]) (fun _ => rfl) (fun _ => rfl)
structure LabRow where
  In : Int
  Next : Int
  Out : Int
  deriving DecidableEq, Inhabited
def rpLabRow : Rp LabRow := Rp.flat 3 (fun x => [.int .i64 x.In, .int .i64 x.Next, .int .i64 x.Out]) (fun _ => rfl) (fun _ => rfl)
structure LabVia where
  To : Int
  Via : Int
  Push : Int
  deriving DecidableEq, Inhabited
def rpLabVia : Rp LabVia := Rp.flat 3 (fun x => [.int .i64 x.To, .int .i64 x.Via, .int .i64 x.Push]) (fun _ => rfl) (fun _ => rfl)
structure LabBox where
  Rows : List LabRow
  Guards : List LabVia
  deriving DecidableEq, Inhabited
def rpLabBox : Rp LabBox where
  sz := 2
  rd w cs x := ∃ a1 c1 a2 c2, cs = [.slice a1 x.Rows.length c1, .slice a2 x.Guards.length c2] ∧ SlR rpLabRow w a1 c1 x.Rows ∧ SlR rpLabVia w a2 c2 x.Guards
  mono e h := by obtain ⟨a1, c1, a2, c2, rfl, h1, h2⟩ := h; exact ⟨_, _, _, _, rfl, h1.below e, h2.below e⟩
  own w cs x fp := ∃ a1 c1 f1 a2 c2 f2, cs = [.slice a1 x.Rows.length c1, .slice a2 x.Guards.length c2] ∧ SlO rpLabRow w a1 c1 x.Rows f1 ∧ SlO rpLabVia w a2 c2 x.Guards f2 ∧ fp = f1 ++ f2 ∧ fp.Nodup
  own_rd h := by obtain ⟨a1, c1, f1, a2, c2, f2, rfl, h1, h2, -, -⟩ := h; exact ⟨_, _, _, _, rfl, h1.read, h2.read⟩
  own_keep h hk := by obtain ⟨a1, c1, f1, a2, c2, f2, rfl, h1, h2, rfl, nd⟩ := h; exact ⟨_, _, _, _, _, _, rfl, h1.keep (fun b hb => hk b (List.mem_append_left _ hb)), h2.keep (fun b hb => hk b (List.mem_append_right _ hb)), rfl, nd⟩
  own_lt h := by
    obtain ⟨a1, c1, f1, a2, c2, f2, rfl, h1, h2, rfl, -⟩ := h
    intro b hb
    rcases List.mem_append.1 hb with hb | hb
    · exact h1.lt b hb
    exact h2.lt b hb
  own_nd h := by obtain ⟨a1, c1, f1, a2, c2, f2, -, -, -, -, nd⟩ := h; exact nd
  rd_len h := by obtain ⟨a1, c1, a2, c2, rfl, -⟩ := h; rfl
  own_one h := by obtain ⟨a1, c1, f1, a2, c2, f2, rfl, -⟩ := h; rfl
structure LabNet where
  Links : List LabLink
  Boxes : List LabBox
  deriving DecidableEq, Inhabited
def rpLabNet : Rp LabNet where
  sz := 2
  rd w cs x := ∃ a1 c1 a2 c2, cs = [.slice a1 x.Links.length c1, .slice a2 x.Boxes.length c2] ∧ SlR rpLabLink w a1 c1 x.Links ∧ SlR rpLabBox w a2 c2 x.Boxes
  mono e h := by obtain ⟨a1, c1, a2, c2, rfl, h1, h2⟩ := h; exact ⟨_, _, _, _, rfl, h1.below e, h2.below e⟩
  own w cs x fp := ∃ a1 c1 f1 a2 c2 f2, cs = [.slice a1 x.Links.length c1, .slice a2 x.Boxes.length c2] ∧ SlO rpLabLink w a1 c1 x.Links f1 ∧ SlO rpLabBox w a2 c2 x.Boxes f2 ∧ fp = f1 ++ f2 ∧ fp.Nodup
  own_rd h := by obtain ⟨a1, c1, f1, a2, c2, f2, rfl, h1, h2, -, -⟩ := h; exact ⟨_, _, _, _, rfl, h1.read, h2.read⟩
  own_keep h hk := by obtain ⟨a1, c1, f1, a2, c2, f2, rfl, h1, h2, rfl, nd⟩ := h; exact ⟨_, _, _, _, _, _, rfl, h1.keep (fun b hb => hk b (List.mem_append_left _ hb)), h2.keep (fun b hb => hk b (List.mem_append_right _ hb)), rfl, nd⟩
  own_lt h := by
    obtain ⟨a1, c1, f1, a2, c2, f2, rfl, h1, h2, rfl, -⟩ := h
    intro b hb
    rcases List.mem_append.1 hb with hb | hb
    · exact h1.lt b hb
    exact h2.lt b hb
  own_nd h := by obtain ⟨a1, c1, f1, a2, c2, f2, -, -, -, -, nd⟩ := h; exact nd
  rd_len h := by obtain ⟨a1, c1, a2, c2, rfl, -⟩ := h; rfl
  own_one h := by obtain ⟨a1, c1, f1, a2, c2, f2, rfl, -⟩ := h; rfl
def szN_LabLinkS (x : List LabLink) : Nat := x.length
def szN_LabRowS (x : List LabRow) : Nat := x.length
def szN_LabViaS (x : List LabVia) : Nat := x.length
def szN_LabBox (x : LabBox) : Nat := szN_LabRowS x.Rows + szN_LabViaS x.Guards
def szN_LabBoxS (x : List LabBox) : Nat := x.length + szSum szN_LabBox x
def szN_LabNet (x : LabNet) : Nat := szN_LabLinkS x.Links + szN_LabBoxS x.Boxes
theorem agg_3 : aggOf Try.prog 3 = some false := by kernel_rfl
theorem size_3 : (Try.prog.info? 3).map (·.size) = some 1 := by kernel_rfl
theorem agg_22 : aggOf Try.prog 22 = some false := by kernel_rfl
theorem size_22 : (Try.prog.info? 22).map (·.size) = some 1 := by kernel_rfl
theorem agg_24 : aggOf Try.prog 24 = some false := by kernel_rfl
theorem size_24 : (Try.prog.info? 24).map (·.size) = some 1 := by kernel_rfl
theorem agg_25 : aggOf Try.prog 25 = some false := by kernel_rfl
theorem size_25 : (Try.prog.info? 25).map (·.size) = some 1 := by kernel_rfl
theorem agg_27 : aggOf Try.prog 27 = some true := by kernel_rfl
theorem size_27 : (Try.prog.info? 27).map (·.size) = some 2 := by kernel_rfl
theorem agg_36 : aggOf Try.prog 36 = some false := by kernel_rfl
theorem size_36 : (Try.prog.info? 36).map (·.size) = some 1 := by kernel_rfl
theorem agg_72 : aggOf Try.prog 72 = some true := by kernel_rfl
theorem size_72 : (Try.prog.info? 72).map (·.size) = some 2 := by kernel_rfl
theorem agg_74 : aggOf Try.prog 74 = some true := by kernel_rfl
theorem size_74 : (Try.prog.info? 74).map (·.size) = some 2 := by kernel_rfl
theorem agg_87 : aggOf Try.prog 87 = some false := by kernel_rfl
theorem size_87 : (Try.prog.info? 87).map (·.size) = some 1 := by kernel_rfl
theorem agg_88 : aggOf Try.prog 88 = some false := by kernel_rfl
theorem size_88 : (Try.prog.info? 88).map (·.size) = some 1 := by kernel_rfl
theorem agg_90 : aggOf Try.prog 90 = some true := by kernel_rfl
theorem size_90 : (Try.prog.info? 90).map (·.size) = some 2 := by kernel_rfl
theorem agg_92 : aggOf Try.prog 92 = some true := by kernel_rfl
theorem size_92 : (Try.prog.info? 92).map (·.size) = some 3 := by kernel_rfl
theorem agg_112 : aggOf Try.prog 112 = some false := by kernel_rfl
theorem size_112 : (Try.prog.info? 112).map (·.size) = some 1 := by kernel_rfl
theorem agg_113 : aggOf Try.prog 113 = some false := by kernel_rfl
theorem size_113 : (Try.prog.info? 113).map (·.size) = some 1 := by kernel_rfl
theorem agg_115 : aggOf Try.prog 115 = some true := by kernel_rfl
theorem size_115 : (Try.prog.info? 115).map (·.size) = some 2 := by kernel_rfl
theorem agg_119 : aggOf Try.prog 119 = some true := by kernel_rfl
theorem size_119 : (Try.prog.info? 119).map (·.size) = some 3 := by kernel_rfl
theorem agg_162 : aggOf Try.prog 162 = some true := by kernel_rfl
theorem size_162 : (Try.prog.info? 162).map (·.size) = some 3 := by kernel_rfl
theorem agg_164 : aggOf Try.prog 164 = some true := by kernel_rfl
theorem size_164 : (Try.prog.info? 164).map (·.size) = some 3 := by kernel_rfl
/-- laws.szLabLinkS -/
theorem c_laws_szLabLinkS (w : World) (a_a : Option Addr) (c_a : Nat) (a : List LabLink) (h_a : SlR rpLabLink w a_a c_a a) (left : Int) (hl : 0 ≤ left ∧ left ≤ 1048576) :
    Calls Try.prog 12 #[.slice a_a a.length c_a, .int .i64 left] w fun e w' => ∃ rv, e = .returned rv ∧ (rv = .int .i64 (szR (szN_LabLinkS a) left) ∧ Below w.heap.size w w') := by
  refine enter [(0, .slice a_a a.length c_a), (1, .int .i64 left)] Try.func12 rfl (by kernel_rfl) (by kernel_rfl) ?_
  have e0 := brefl w
  have hla := h_a.2.1
  refine GC.seq ?_
  refine GC.regW [W (.int .i64 0)] [(0, .slice a_a a.length c_a), (1, .int .i64 left)] mixed rfl (fun vs w => by kernel_rfl) rfl (fun vs => by kernel_rfl) ?_
  refine GQ.on ?_
  refine GC.seq ?_
  refine GC.reg 5 [W (.int .i64 left), W (.slice a_a a.length c_a), W (.int .i64 (a.length : Int)), D (.int .i64 (left - (a.length : Int))), W (.int .i64 (left - (a.length : Int)))] mixed (fun vs w => by kernel_rfl) (⟨fun vs lo hi wx hB hK => Out.subI rfl rfl (by omega) (by omega), trivial⟩) ?_
  rintro vs1 lo1 hi1 w1 hU1
  have e2 := btr e0 hU1.1
  refine Rest.nil (GQ.sub [(1, .int .i64 (left - (a.length : Int)))] (by kernel_rfl) ?_)
  refine GQ.on ?_
  refine GC.seq ?_
  refine GC.seq ?_
  refine GC.regW [W (.int .i64 (left - (a.length : Int))), W (.bool (decide ((left - (a.length : Int)) < (0 : Int))))] [(1, .int .i64 (left - (a.length : Int))), (10, .bool (decide ((left - (a.length : Int)) < (0 : Int))))] mixed rfl (fun vs w => by kernel_rfl) rfl (fun vs => by kernel_rfl) ?_
  refine GQ.on ?_
  refine GC.cond (decide ((left - (a.length : Int)) < (0 : Int))) rfl (fun hc0 => ?_) (fun hc0 => ?_)
  · skip
    have hc0' := hc0
    try simp at hc0'
    refine GC.seq ?_
    refine GC.regW [W (.int .i64 (-1))] [(4, .int .i64 (-1))] mixed rfl (fun vs w => by kernel_rfl) rfl (fun vs => by kernel_rfl) ?_
    refine GQ.on ?_
    refine GC.ret ?_
    refine GQ.passRet ?_
    refine GQ.ret1 (.int .i64 (-1)) rfl rfl ?_
    exact ⟨_, rfl, (congrArg (Value.int .i64) (by have hy := szR_cases (a.length) left; show (_ : Int) = szR (a.length) left; omega)), e2⟩
  · skip
    have hc0' := hc0
    try simp at hc0'
    refine GC.skip ?_
    refine GQ.on ?_
    refine GC.seq ?_
    refine GC.regW [W (.int .i64 (left - (a.length : Int))), W (.int .i64 (left - (a.length : Int)))] [(4, .int .i64 (left - (a.length : Int)))] mixed rfl (fun vs w => by kernel_rfl) rfl (fun vs => by kernel_rfl) ?_
    refine GQ.on ?_
    refine GC.ret ?_
    refine GQ.ret1 (.int .i64 (left - (a.length : Int))) rfl rfl ?_
    exact ⟨_, rfl, (congrArg (Value.int .i64) (by have hy := szR_cases (a.length) left; show (_ : Int) = szR (a.length) left; omega)), e2⟩
/-- laws.szLabRowS -/
theorem c_laws_szLabRowS (w : World) (a_a : Option Addr) (c_a : Nat) (a : List LabRow) (h_a : SlR rpLabRow w a_a c_a a) (left : Int) (hl : 0 ≤ left ∧ left ≤ 1048576) :
    Calls Try.prog 129 #[.slice a_a a.length c_a, .int .i64 left] w fun e w' => ∃ rv, e = .returned rv ∧ (rv = .int .i64 (szR (szN_LabRowS a) left) ∧ Below w.heap.size w w') := by
  refine enter [(0, .slice a_a a.length c_a), (1, .int .i64 left)] Try.func129 rfl (by kernel_rfl) (by kernel_rfl) ?_
  have e0 := brefl w
  have hla := h_a.2.1
  refine GC.seq ?_
  refine GC.regW [W (.int .i64 0)] [(0, .slice a_a a.length c_a), (1, .int .i64 left)] mixed rfl (fun vs w => by kernel_rfl) rfl (fun vs => by kernel_rfl) ?_
  refine GQ.on ?_
  refine GC.seq ?_
  refine GC.reg 5 [W (.int .i64 left), W (.slice a_a a.length c_a), W (.int .i64 (a.length : Int)), D (.int .i64 (left - (a.length : Int))), W (.int .i64 (left - (a.length : Int)))] mixed (fun vs w => by kernel_rfl) (⟨fun vs lo hi wx hB hK => Out.subI rfl rfl (by omega) (by omega), trivial⟩) ?_
  rintro vs1 lo1 hi1 w1 hU1
  have e2 := btr e0 hU1.1
  refine Rest.nil (GQ.sub [(1, .int .i64 (left - (a.length : Int)))] (by kernel_rfl) ?_)
  refine GQ.on ?_
  refine GC.seq ?_
  refine GC.seq ?_
  refine GC.regW [W (.int .i64 (left - (a.length : Int))), W (.bool (decide ((left - (a.length : Int)) < (0 : Int))))] [(1, .int .i64 (left - (a.length : Int))), (10, .bool (decide ((left - (a.length : Int)) < (0 : Int))))] mixed rfl (fun vs w => by kernel_rfl) rfl (fun vs => by kernel_rfl) ?_
  refine GQ.on ?_
  refine GC.cond (decide ((left - (a.length : Int)) < (0 : Int))) rfl (fun hc0 => ?_) (fun hc0 => ?_)
  · skip
    have hc0' := hc0
    try simp at hc0'
    refine GC.seq ?_
    refine GC.regW [W (.int .i64 (-1))] [(4, .int .i64 (-1))] mixed rfl (fun vs w => by kernel_rfl) rfl (fun vs => by kernel_rfl) ?_
    refine GQ.on ?_
    refine GC.ret ?_
    refine GQ.passRet ?_
    refine GQ.ret1 (.int .i64 (-1)) rfl rfl ?_
    exact ⟨_, rfl, (congrArg (Value.int .i64) (by have hy := szR_cases (a.length) left; show (_ : Int) = szR (a.length) left; omega)), e2⟩
  · skip
    have hc0' := hc0
    try simp at hc0'
    refine GC.skip ?_
    refine GQ.on ?_
    refine GC.seq ?_
    refine GC.regW [W (.int .i64 (left - (a.length : Int))), W (.int .i64 (left - (a.length : Int)))] [(4, .int .i64 (left - (a.length : Int)))] mixed rfl (fun vs w => by kernel_rfl) rfl (fun vs => by kernel_rfl) ?_
    refine GQ.on ?_
    refine GC.ret ?_
    refine GQ.ret1 (.int .i64 (left - (a.length : Int))) rfl rfl ?_
    exact ⟨_, rfl, (congrArg (Value.int .i64) (by have hy := szR_cases (a.length) left; show (_ : Int) = szR (a.length) left; omega)), e2⟩
/-- laws.szLabViaS -/
theorem c_laws_szLabViaS (w : World) (a_a : Option Addr) (c_a : Nat) (a : List LabVia) (h_a : SlR rpLabVia w a_a c_a a) (left : Int) (hl : 0 ≤ left ∧ left ≤ 1048576) :
    Calls Try.prog 130 #[.slice a_a a.length c_a, .int .i64 left] w fun e w' => ∃ rv, e = .returned rv ∧ (rv = .int .i64 (szR (szN_LabViaS a) left) ∧ Below w.heap.size w w') := by
  refine enter [(0, .slice a_a a.length c_a), (1, .int .i64 left)] Try.func130 rfl (by kernel_rfl) (by kernel_rfl) ?_
  have e0 := brefl w
  have hla := h_a.2.1
  refine GC.seq ?_
  refine GC.regW [W (.int .i64 0)] [(0, .slice a_a a.length c_a), (1, .int .i64 left)] mixed rfl (fun vs w => by kernel_rfl) rfl (fun vs => by kernel_rfl) ?_
  refine GQ.on ?_
  refine GC.seq ?_
  refine GC.reg 5 [W (.int .i64 left), W (.slice a_a a.length c_a), W (.int .i64 (a.length : Int)), D (.int .i64 (left - (a.length : Int))), W (.int .i64 (left - (a.length : Int)))] mixed (fun vs w => by kernel_rfl) (⟨fun vs lo hi wx hB hK => Out.subI rfl rfl (by omega) (by omega), trivial⟩) ?_
  rintro vs1 lo1 hi1 w1 hU1
  have e2 := btr e0 hU1.1
  refine Rest.nil (GQ.sub [(1, .int .i64 (left - (a.length : Int)))] (by kernel_rfl) ?_)
  refine GQ.on ?_
  refine GC.seq ?_
  refine GC.seq ?_
  refine GC.regW [W (.int .i64 (left - (a.length : Int))), W (.bool (decide ((left - (a.length : Int)) < (0 : Int))))] [(1, .int .i64 (left - (a.length : Int))), (10, .bool (decide ((left - (a.length : Int)) < (0 : Int))))] mixed rfl (fun vs w => by kernel_rfl) rfl (fun vs => by kernel_rfl) ?_
  refine GQ.on ?_
  refine GC.cond (decide ((left - (a.length : Int)) < (0 : Int))) rfl (fun hc0 => ?_) (fun hc0 => ?_)
  · skip
    have hc0' := hc0
    try simp at hc0'
    refine GC.seq ?_
    refine GC.regW [W (.int .i64 (-1))] [(4, .int .i64 (-1))] mixed rfl (fun vs w => by kernel_rfl) rfl (fun vs => by kernel_rfl) ?_
    refine GQ.on ?_
    refine GC.ret ?_
    refine GQ.passRet ?_
    refine GQ.ret1 (.int .i64 (-1)) rfl rfl ?_
    exact ⟨_, rfl, (congrArg (Value.int .i64) (by have hy := szR_cases (a.length) left; show (_ : Int) = szR (a.length) left; omega)), e2⟩
  · skip
    have hc0' := hc0
    try simp at hc0'
    refine GC.skip ?_
    refine GQ.on ?_
    refine GC.seq ?_
    refine GC.regW [W (.int .i64 (left - (a.length : Int))), W (.int .i64 (left - (a.length : Int)))] [(4, .int .i64 (left - (a.length : Int)))] mixed rfl (fun vs w => by kernel_rfl) rfl (fun vs => by kernel_rfl) ?_
    refine GQ.on ?_
    refine GC.ret ?_
    refine GQ.ret1 (.int .i64 (left - (a.length : Int))) rfl rfl ?_
    exact ⟨_, rfl, (congrArg (Value.int .i64) (by have hy := szR_cases (a.length) left; show (_ : Int) = szR (a.length) left; omega)), e2⟩
/-- laws.szLabBox -/
theorem c_laws_szLabBox (w : World) (a : LabBox) (cs_a : List Value) (h_a : rpLabBox.rd w cs_a a) (left : Int) (hl : 0 ≤ left ∧ left ≤ 1048576) :
    Calls Try.prog 95 #[.agg cs_a.toArray, .int .i64 left] w fun e w' => ∃ rv, e = .returned rv ∧ (rv = .int .i64 (szR (szN_LabBox a) left) ∧ Below w.heap.size w w') := by
  obtain ⟨a_a_Rows, c_a_Rows, a_a_Guards, c_a_Guards, rfl, h_a_Rows, h_a_Guards⟩ := h_a
  refine enter [(0, .agg #[.slice a_a_Rows a.Rows.length c_a_Rows, .slice a_a_Guards a.Guards.length c_a_Guards]), (1, .int .i64 left)] Try.func95 rfl (by kernel_rfl) (by kernel_rfl) ?_
  have e0 := brefl w
  have := szR_cases (szN_LabRowS a.Rows) left
  have := szR_cases (szN_LabViaS a.Guards) (szR (szN_LabRowS a.Rows) left)
  have hy := szR_cases (szN_LabRowS a.Rows + szN_LabViaS a.Guards) left
  refine GC.seq ?_
  refine GC.reg 2 [RB 0 115 [.slice a_a_Rows a.Rows.length c_a_Rows, .slice a_a_Guards a.Guards.length c_a_Guards], W (.int .i64 0)] mixed (fun vs w => by kernel_rfl) (⟨fun vs lo hi wx hB hK => Out.box rfl, trivial⟩) ?_
  rintro vs1 lo1 hi1 w1 hU1
  have e2 := btr e0 hU1.1
  obtain ⟨⟨hv1_0, hp1_0, hb1_0⟩, hl1_0, -, -⟩ := hU1.2.1 0 _ rfl trivial
  have hl1_0b := Nat.le_trans e0.size hl1_0
  refine Rest.nil (GQ.sub [(1, .int .i64 left), (2, .pointer (some ⟨(lo1 0), 0, none⟩))] (by rw [← hv1_0]; kernel_rfl) ?_)
  refine GQ.on ?_
  refine GC.seq ?_
  refine GC.reg 5 [W (.pointer (some ⟨(lo1 0), 0, none⟩)), D (.slice a_a_Rows a.Rows.length c_a_Rows), W (.int .i64 left), D (.int .i64 (szR (szN_LabRowS a.Rows) left)), W (.int .i64 (szR (szN_LabRowS a.Rows) left))] mixed (fun vs w => by kernel_rfl) (⟨fun vs lo hi wx hB hK => Out.load1 rfl agg_112 ((hb1_0.to hB).cell 0 _ rfl), fun vs lo hi wx hB hK => Out.call (by kernel_rfl) (c_laws_szLabRowS _ a_a_Rows c_a_Rows a.Rows (h_a_Rows.below (btr e2 hB)) left (by omega)) (fun _ _ h => h), trivial⟩) ?_
  rintro vs3 lo3 hi3 w3 hU3
  have e4 := btr e2 hU3.1
  replace hb1_0 := hb1_0.to hU3.1
  refine Rest.nil (GQ.sub [(1, .int .i64 (szR (szN_LabRowS a.Rows) left)), (2, .pointer (some ⟨(lo1 0), 0, none⟩))] (by kernel_rfl) ?_)
  refine GQ.on ?_
  refine GC.seq ?_
  refine GC.seq ?_
  refine GC.regW [W (.int .i64 (szR (szN_LabRowS a.Rows) left)), W (.bool (decide ((szR (szN_LabRowS a.Rows) left) < (0 : Int))))] [(1, .int .i64 (szR (szN_LabRowS a.Rows) left)), (2, .pointer (some ⟨(lo1 0), 0, none⟩)), (10, .bool (decide ((szR (szN_LabRowS a.Rows) left) < (0 : Int))))] mixed rfl (fun vs w => by kernel_rfl) rfl (fun vs => by kernel_rfl) ?_
  refine GQ.on ?_
  refine GC.cond (decide ((szR (szN_LabRowS a.Rows) left) < (0 : Int))) rfl (fun hc0 => ?_) (fun hc0 => ?_)
  · skip
    have hc0' := hc0
    try simp at hc0'
    refine GC.seq ?_
    refine GC.regW [W (.int .i64 (-1))] [(4, .int .i64 (-1))] mixed rfl (fun vs w => by kernel_rfl) rfl (fun vs => by kernel_rfl) ?_
    refine GQ.on ?_
    refine GC.ret ?_
    refine GQ.passRet ?_
    refine GQ.ret1 (.int .i64 (-1)) rfl rfl ?_
    exact ⟨_, rfl, (congrArg (Value.int .i64) (by show (_ : Int) = szR (szN_LabRowS a.Rows + szN_LabViaS a.Guards) left; omega)), e4⟩
  · skip
    have hc0' := hc0
    try simp at hc0'
    refine GC.skip ?_
    refine GQ.on ?_
    refine GC.seq ?_
    refine GC.reg 5 [W (.pointer (some ⟨(lo1 0), 1, none⟩)), D (.slice a_a_Guards a.Guards.length c_a_Guards), W (.int .i64 (szR (szN_LabRowS a.Rows) left)), D (.int .i64 (szR (szN_LabViaS a.Guards) (szR (szN_LabRowS a.Rows) left))), W (.int .i64 (szR (szN_LabViaS a.Guards) (szR (szN_LabRowS a.Rows) left)))] mixed (fun vs w => by kernel_rfl) (⟨fun vs lo hi wx hB hK => Out.load1 rfl agg_113 ((hb1_0.to hB).cell 1 _ rfl), fun vs lo hi wx hB hK => Out.call (by kernel_rfl) (c_laws_szLabViaS _ a_a_Guards c_a_Guards a.Guards (h_a_Guards.below (btr e4 hB)) (szR (szN_LabRowS a.Rows) left) (by omega)) (fun _ _ h => h), trivial⟩) ?_
    rintro vs5 lo5 hi5 w5 hU5
    have e6 := btr e4 hU5.1
    replace hb1_0 := hb1_0.to hU5.1
    refine Rest.nil (GQ.sub [(1, .int .i64 (szR (szN_LabViaS a.Guards) (szR (szN_LabRowS a.Rows) left)))] (by kernel_rfl) ?_)
    refine GQ.on ?_
    refine GC.seq ?_
    refine GC.seq ?_
    refine GC.regW [W (.int .i64 (szR (szN_LabViaS a.Guards) (szR (szN_LabRowS a.Rows) left))), W (.bool (decide ((szR (szN_LabViaS a.Guards) (szR (szN_LabRowS a.Rows) left)) < (0 : Int))))] [(1, .int .i64 (szR (szN_LabViaS a.Guards) (szR (szN_LabRowS a.Rows) left))), (16, .bool (decide ((szR (szN_LabViaS a.Guards) (szR (szN_LabRowS a.Rows) left)) < (0 : Int))))] mixed rfl (fun vs w => by kernel_rfl) rfl (fun vs => by kernel_rfl) ?_
    refine GQ.on ?_
    refine GC.cond (decide ((szR (szN_LabViaS a.Guards) (szR (szN_LabRowS a.Rows) left)) < (0 : Int))) rfl (fun hc1 => ?_) (fun hc1 => ?_)
    · skip
      have hc1' := hc1
      try simp at hc1'
      refine GC.seq ?_
      refine GC.regW [W (.int .i64 (-1))] [(4, .int .i64 (-1))] mixed rfl (fun vs w => by kernel_rfl) rfl (fun vs => by kernel_rfl) ?_
      refine GQ.on ?_
      refine GC.ret ?_
      refine GQ.passRet ?_
      refine GQ.ret1 (.int .i64 (-1)) rfl rfl ?_
      exact ⟨_, rfl, (congrArg (Value.int .i64) (by show (_ : Int) = szR (szN_LabRowS a.Rows + szN_LabViaS a.Guards) left; omega)), e6⟩
    · skip
      have hc1' := hc1
      try simp at hc1'
      refine GC.skip ?_
      refine GQ.on ?_
      refine GC.seq ?_
      refine GC.regW [W (.int .i64 (szR (szN_LabViaS a.Guards) (szR (szN_LabRowS a.Rows) left))), W (.int .i64 (szR (szN_LabViaS a.Guards) (szR (szN_LabRowS a.Rows) left)))] [(4, .int .i64 (szR (szN_LabViaS a.Guards) (szR (szN_LabRowS a.Rows) left)))] mixed rfl (fun vs w => by kernel_rfl) rfl (fun vs => by kernel_rfl) ?_
      refine GQ.on ?_
      refine GC.ret ?_
      refine GQ.ret1 (.int .i64 (szR (szN_LabViaS a.Guards) (szR (szN_LabRowS a.Rows) left))) rfl rfl ?_
      exact ⟨_, rfl, (congrArg (Value.int .i64) (by show (_ : Int) = szR (szN_LabRowS a.Rows + szN_LabViaS a.Guards) left; omega)), e6⟩
/-- laws.szLabBoxS -/
theorem c_laws_szLabBoxS (w : World) (a_a : Option Addr) (c_a : Nat) (a : List LabBox) (h_a : SlR rpLabBox w a_a c_a a) (left : Int) (hl : 0 ≤ left ∧ left ≤ 1048576) :
    Calls Try.prog 59 #[.slice a_a a.length c_a, .int .i64 left] w fun e w' => ∃ rv, e = .returned rv ∧ (rv = .int .i64 (szR (szN_LabBoxS a) left) ∧ Below w.heap.size w w') := by
  refine enter [(0, .slice a_a a.length c_a), (1, .int .i64 left)] Try.func59 rfl (by kernel_rfl) (by kernel_rfl) ?_
  have e0 := brefl w
  have hla := h_a.2.1
  refine GC.seq ?_
  refine GC.regW [W (.int .i64 0)] [(0, .slice a_a a.length c_a), (1, .int .i64 left)] mixed rfl (fun vs w => by kernel_rfl) rfl (fun vs => by kernel_rfl) ?_
  refine GQ.on ?_
  refine GC.seq ?_
  refine GC.reg 5 [W (.int .i64 left), W (.slice a_a a.length c_a), W (.int .i64 (a.length : Int)), D (.int .i64 (left - (a.length : Int))), W (.int .i64 (left - (a.length : Int)))] mixed (fun vs w => by kernel_rfl) (⟨fun vs lo hi wx hB hK => Out.subI rfl rfl (by omega) (by omega), trivial⟩) ?_
  rintro vs1 lo1 hi1 w1 hU1
  have e2 := btr e0 hU1.1
  refine Rest.nil (GQ.sub [(0, .slice a_a a.length c_a), (1, .int .i64 (left - (a.length : Int)))] (by kernel_rfl) ?_)
  refine GQ.on ?_
  refine GC.seq ?_
  refine GC.seq ?_
  refine GC.regW [W (.int .i64 (left - (a.length : Int))), W (.bool (decide ((left - (a.length : Int)) < (0 : Int))))] [(0, .slice a_a a.length c_a), (1, .int .i64 (left - (a.length : Int))), (11, .bool (decide ((left - (a.length : Int)) < (0 : Int))))] mixed rfl (fun vs w => by kernel_rfl) rfl (fun vs => by kernel_rfl) ?_
  refine GQ.on ?_
  refine GC.cond (decide ((left - (a.length : Int)) < (0 : Int))) rfl (fun hc0 => ?_) (fun hc0 => ?_)
  · skip
    have hc0' := hc0
    try simp at hc0'
    refine GC.seq ?_
    refine GC.regW [W (.int .i64 (-1))] [(4, .int .i64 (-1))] mixed rfl (fun vs w => by kernel_rfl) rfl (fun vs => by kernel_rfl) ?_
    refine GQ.on ?_
    refine GC.ret ?_
    refine GQ.passRet ?_
    refine GQ.ret1 (.int .i64 (-1)) rfl rfl ?_
    exact ⟨_, rfl, (congrArg (Value.int .i64) (by have hy := szR_cases (a.length + szSum szN_LabBox a) left; show (_ : Int) = szR (a.length + szSum szN_LabBox a) left; first | omega | (have hs := szSum_succ (f := szN_LabBox) hx_x_a_k; have hz := szR_cases (szN_LabBox x_a_k) l; have hq := szSum_le szN_LabBox a (k + 1); omega) | (have ht : a.take k = a := List.take_of_length_le (by omega); rw [ht] at hi0_1; omega))), e2⟩
  · skip
    have hc0' := hc0
    try simp at hc0'
    refine GC.skip ?_
    refine GQ.on ?_
    refine GC.seq ?_
    refine GC.seq ?_
    refine GC.regW [W (.int .i64 0)] [(0, .slice a_a a.length c_a), (1, .int .i64 (left - (a.length : Int))), (5, .int .i64 0)] mixed rfl (fun vs w => by kernel_rfl) rfl (fun vs => by kernel_rfl) ?_
    refine GQ.on ?_
    refine GC.block ?_
    refine GC.loop (ι := Nat × Int) (fun i => [(0, .slice a_a a.length c_a), (1, .int .i64 i.2), (5, .int .i64 (i.1 : Int))]) (fun i w' => Chg (fun b' : Nat => False) w1 w' ∧ (i.1 ≤ a.length) ∧ (0 ≤ i.2 ∧ i.2 = left - a.length - szSum szN_LabBox (a.take i.1))) (fun i => a.length - i.1) (0, left - (a.length : Int)) (by kernel_rfl) ⟨chg_refl _ _, (show 0 ≤ a.length from Nat.zero_le _), (show 0 ≤ (left - (a.length : Int)) ∧ (left - (a.length : Int)) = left - a.length - szSum szN_LabBox (a.take 0) from (by simp only [List.take_zero, szSum]; omega))⟩ ?_
    rintro ⟨k, l⟩ w3 ⟨hw5, hi0_0, hi0_1⟩
    have e4 := chg_below e2 (Nat.le_refl _) hw5 (fun k h => h.elim)
    replace hi0_0 : k ≤ a.length := hi0_0
    replace hi0_1 : 0 ≤ l ∧ l = left - a.length - szSum szN_LabBox (a.take k) := hi0_1
    have hy := szR_cases (a.length + szSum szN_LabBox a) left
    refine GC.seq ?_
    refine GC.seq ?_
    refine GC.regW [W (.int .i64 (k : Int)), W (.slice a_a a.length c_a), W (.int .i64 (a.length : Int)), W (.bool (decide ((k : Int) < (a.length : Int))))] [(0, .slice a_a a.length c_a), (1, .int .i64 l), (5, .int .i64 (k : Int)), (15, .bool (decide ((k : Int) < (a.length : Int))))] mixed rfl (fun vs w => by kernel_rfl) rfl (fun vs => by kernel_rfl) ?_
    refine GQ.on ?_
    refine GC.cond (decide ((k : Int) < (a.length : Int))) rfl (fun hc1 => ?_) (fun hc1 => ?_)
    · skip
      have hc1' := hc1
      try simp at hc1'
      refine GC.skip ?_
      refine GQ.on ?_
      refine GC.seq ?_
      refine GC.block ?_
      refine GC.seq ?_
      obtain ⟨x_a_k, hx_x_a_k⟩ : ∃ x, a[k]? = some x := ⟨_, List.getElem?_eq_getElem (by omega)⟩
      obtain ⟨ha_x_a_k, hb_x_a_k, cs_x_a_k, hl_x_a_k, hh_x_a_k, hr_x_a_k⟩ := h_a.2.2 k x_a_k hx_x_a_k
      obtain ⟨a_x_a_k_Rows, c_x_a_k_Rows, a_x_a_k_Guards, c_x_a_k_Guards, rfl, h_x_a_k_Rows, h_x_a_k_Guards⟩ := hr_x_a_k
      refine GC.reg 7 [W (.slice a_a a.length c_a), W (.int .i64 (k : Int)), D (.pointer (some ⟨(ab a_a), ao a_a + k * 2, none⟩)), D (.agg #[.slice a_x_a_k_Rows x_a_k.Rows.length c_x_a_k_Rows, .slice a_x_a_k_Guards x_a_k.Guards.length c_x_a_k_Guards]), W (.int .i64 l), D (.int .i64 (szR (szN_LabBox x_a_k) l)), W (.int .i64 (szR (szN_LabBox x_a_k) l))] mixed (fun vs w => by kernel_rfl) (⟨fun vs lo hi wx hB hK => Out.idxS k rfl rfl (ltg hx_x_a_k) ha_x_a_k Try.underlying36 size_115, fun vs lo hi wx hB hK => Out.loadA rfl agg_115 size_115 ((hh_x_a_k.below hb_x_a_k (btr e4 hB)).sub 0 _ rfl), fun vs lo hi wx hB hK => Out.call (by kernel_rfl) (c_laws_szLabBox _ x_a_k ([.slice a_x_a_k_Rows x_a_k.Rows.length c_x_a_k_Rows, .slice a_x_a_k_Guards x_a_k.Guards.length c_x_a_k_Guards]) (show rpLabBox.rd _ _ _ from ⟨_, _, _, _, rfl, h_x_a_k_Rows.below (btr e4 hB), h_x_a_k_Guards.below (btr e4 hB)⟩) l (by omega)) (fun _ _ h => h), trivial⟩) ?_
      rintro vs6 lo6 hi6 w6 hU6
      have e7 := btr e4 hU6.1
      have hw8 := chg_trb hw5 hU6.1
      refine Rest.nil (GQ.sub [(0, .slice a_a a.length c_a), (1, .int .i64 (szR (szN_LabBox x_a_k) l)), (5, .int .i64 (k : Int))] (by kernel_rfl) ?_)
      refine GQ.on ?_
      refine GC.seq ?_
      refine GC.regW [W (.int .i64 (szR (szN_LabBox x_a_k) l)), W (.bool (decide ((szR (szN_LabBox x_a_k) l) < (0 : Int))))] [(0, .slice a_a a.length c_a), (1, .int .i64 (szR (szN_LabBox x_a_k) l)), (5, .int .i64 (k : Int)), (25, .bool (decide ((szR (szN_LabBox x_a_k) l) < (0 : Int))))] mixed rfl (fun vs w => by kernel_rfl) rfl (fun vs => by kernel_rfl) ?_
      refine GQ.on ?_
      refine GC.cond (decide ((szR (szN_LabBox x_a_k) l) < (0 : Int))) rfl (fun hc2 => ?_) (fun hc2 => ?_)
      · skip
        have hc2' := hc2
        try simp at hc2'
        refine GC.seq ?_
        refine GC.regW [W (.int .i64 (-1))] [(4, .int .i64 (-1))] mixed rfl (fun vs w => by kernel_rfl) rfl (fun vs => by kernel_rfl) ?_
        refine GQ.on ?_
        refine GC.ret ?_
        refine GQ.blockRet ?_
        refine GQ.passRet ?_
        refine GQ.passRet ?_
        refine GQ.blockRet ?_
        refine GQ.passRet ?_
        refine GQ.ret1 (.int .i64 (-1)) rfl rfl ?_
        exact ⟨_, rfl, (congrArg (Value.int .i64) (by have hy := szR_cases (a.length + szSum szN_LabBox a) left; show (_ : Int) = szR (a.length + szSum szN_LabBox a) left; first | omega | (have hs := szSum_succ (f := szN_LabBox) hx_x_a_k; have hz := szR_cases (szN_LabBox x_a_k) l; have hq := szSum_le szN_LabBox a (k + 1); omega) | (have ht : a.take k = a := List.take_of_length_le (by omega); rw [ht] at hi0_1; omega))), e7⟩
      · skip
        have hc2' := hc2
        try simp at hc2'
        refine GC.skip ?_
        refine GQ.blockEnd ?_
        refine GQ.on ?_
        refine GC.reg 3 [W (.int .i64 (k : Int)), D (.int .i64 ((k : Int) + 1)), W (.int .i64 ((k : Int) + 1))] mixed (fun vs w => by kernel_rfl) (⟨fun vs lo hi wx hB hK => Out.add rfl rfl (by omega) (by omega), trivial⟩) ?_
        rintro vs9 lo9 hi9 w9 hU9
        have e10 := btr e7 hU9.1
        have hw11 := chg_trb hw8 hU9.1
        refine Rest.nil (GQ.sub [(0, .slice a_a a.length c_a), (1, .int .i64 (szR (szN_LabBox x_a_k) l)), (5, .int .i64 ((k : Int) + 1))] (by kernel_rfl) ?_)
        exact GQ.next (k + 1, szR (szN_LabBox x_a_k) l) (by kernel_rfl) ⟨hw11, (show (k + 1) ≤ a.length from (by have := ltg hx_x_a_k; omega)), (show 0 ≤ (szR (szN_LabBox x_a_k) l) ∧ (szR (szN_LabBox x_a_k) l) = left - a.length - szSum szN_LabBox (a.take (k + 1)) from (by have hs := szSum_succ (f := szN_LabBox) hx_x_a_k; have hz := szR_cases (szN_LabBox x_a_k) l; omega))⟩ (by have := ltg hx_x_a_k; omega)
    · skip
      have hc1' := hc1
      try simp at hc1'
      refine GC.exit ?_
      refine GQ.pass ?_
      refine GQ.pass ?_
      refine GQ.blockOut ?_
      refine GQ.on ?_
      refine GC.seq ?_
      refine GC.regW [W (.int .i64 l), W (.int .i64 l)] [(4, .int .i64 l)] mixed rfl (fun vs w => by kernel_rfl) rfl (fun vs => by kernel_rfl) ?_
      refine GQ.on ?_
      refine GC.ret ?_
      refine GQ.ret1 (.int .i64 l) rfl rfl ?_
      exact ⟨_, rfl, (congrArg (Value.int .i64) (by have hy := szR_cases (a.length + szSum szN_LabBox a) left; show (_ : Int) = szR (a.length + szSum szN_LabBox a) left; first | omega | (have hs := szSum_succ (f := szN_LabBox) hx_x_a_k; have hz := szR_cases (szN_LabBox x_a_k) l; have hq := szSum_le szN_LabBox a (k + 1); omega) | (have ht : a.take k = a := List.take_of_length_le (by omega); rw [ht] at hi0_1; omega))), e4⟩
/-- laws.szLabNet -/
theorem c_laws_szLabNet (w : World) (a : LabNet) (cs_a : List Value) (h_a : rpLabNet.rd w cs_a a) (left : Int) (hl : 0 ≤ left ∧ left ≤ 1048576) :
    Calls Try.prog 21 #[.agg cs_a.toArray, .int .i64 left] w fun e w' => ∃ rv, e = .returned rv ∧ (rv = .int .i64 (szR (szN_LabNet a) left) ∧ Below w.heap.size w w') := by
  obtain ⟨a_a_Links, c_a_Links, a_a_Boxes, c_a_Boxes, rfl, h_a_Links, h_a_Boxes⟩ := h_a
  refine enter [(0, .agg #[.slice a_a_Links a.Links.length c_a_Links, .slice a_a_Boxes a.Boxes.length c_a_Boxes]), (1, .int .i64 left)] Try.func21 rfl (by kernel_rfl) (by kernel_rfl) ?_
  have e0 := brefl w
  have := szR_cases (szN_LabLinkS a.Links) left
  have := szR_cases (szN_LabBoxS a.Boxes) (szR (szN_LabLinkS a.Links) left)
  have hy := szR_cases (szN_LabLinkS a.Links + szN_LabBoxS a.Boxes) left
  refine GC.seq ?_
  refine GC.reg 2 [RB 0 38 [.slice a_a_Links a.Links.length c_a_Links, .slice a_a_Boxes a.Boxes.length c_a_Boxes], W (.int .i64 0)] mixed (fun vs w => by kernel_rfl) (⟨fun vs lo hi wx hB hK => Out.box rfl, trivial⟩) ?_
  rintro vs1 lo1 hi1 w1 hU1
  have e2 := btr e0 hU1.1
  obtain ⟨⟨hv1_0, hp1_0, hb1_0⟩, hl1_0, -, -⟩ := hU1.2.1 0 _ rfl trivial
  have hl1_0b := Nat.le_trans e0.size hl1_0
  refine Rest.nil (GQ.sub [(1, .int .i64 left), (2, .pointer (some ⟨(lo1 0), 0, none⟩))] (by rw [← hv1_0]; kernel_rfl) ?_)
  refine GQ.on ?_
  refine GC.seq ?_
  refine GC.reg 5 [W (.pointer (some ⟨(lo1 0), 0, none⟩)), D (.slice a_a_Links a.Links.length c_a_Links), W (.int .i64 left), D (.int .i64 (szR (szN_LabLinkS a.Links) left)), W (.int .i64 (szR (szN_LabLinkS a.Links) left))] mixed (fun vs w => by kernel_rfl) (⟨fun vs lo hi wx hB hK => Out.load1 rfl agg_22 ((hb1_0.to hB).cell 0 _ rfl), fun vs lo hi wx hB hK => Out.call (by kernel_rfl) (c_laws_szLabLinkS _ a_a_Links c_a_Links a.Links (h_a_Links.below (btr e2 hB)) left (by omega)) (fun _ _ h => h), trivial⟩) ?_
  rintro vs3 lo3 hi3 w3 hU3
  have e4 := btr e2 hU3.1
  replace hb1_0 := hb1_0.to hU3.1
  refine Rest.nil (GQ.sub [(1, .int .i64 (szR (szN_LabLinkS a.Links) left)), (2, .pointer (some ⟨(lo1 0), 0, none⟩))] (by kernel_rfl) ?_)
  refine GQ.on ?_
  refine GC.seq ?_
  refine GC.seq ?_
  refine GC.regW [W (.int .i64 (szR (szN_LabLinkS a.Links) left)), W (.bool (decide ((szR (szN_LabLinkS a.Links) left) < (0 : Int))))] [(1, .int .i64 (szR (szN_LabLinkS a.Links) left)), (2, .pointer (some ⟨(lo1 0), 0, none⟩)), (10, .bool (decide ((szR (szN_LabLinkS a.Links) left) < (0 : Int))))] mixed rfl (fun vs w => by kernel_rfl) rfl (fun vs => by kernel_rfl) ?_
  refine GQ.on ?_
  refine GC.cond (decide ((szR (szN_LabLinkS a.Links) left) < (0 : Int))) rfl (fun hc0 => ?_) (fun hc0 => ?_)
  · skip
    have hc0' := hc0
    try simp at hc0'
    refine GC.seq ?_
    refine GC.regW [W (.int .i64 (-1))] [(4, .int .i64 (-1))] mixed rfl (fun vs w => by kernel_rfl) rfl (fun vs => by kernel_rfl) ?_
    refine GQ.on ?_
    refine GC.ret ?_
    refine GQ.passRet ?_
    refine GQ.ret1 (.int .i64 (-1)) rfl rfl ?_
    exact ⟨_, rfl, (congrArg (Value.int .i64) (by show (_ : Int) = szR (szN_LabLinkS a.Links + szN_LabBoxS a.Boxes) left; omega)), e4⟩
  · skip
    have hc0' := hc0
    try simp at hc0'
    refine GC.skip ?_
    refine GQ.on ?_
    refine GC.seq ?_
    refine GC.reg 5 [W (.pointer (some ⟨(lo1 0), 1, none⟩)), D (.slice a_a_Boxes a.Boxes.length c_a_Boxes), W (.int .i64 (szR (szN_LabLinkS a.Links) left)), D (.int .i64 (szR (szN_LabBoxS a.Boxes) (szR (szN_LabLinkS a.Links) left))), W (.int .i64 (szR (szN_LabBoxS a.Boxes) (szR (szN_LabLinkS a.Links) left)))] mixed (fun vs w => by kernel_rfl) (⟨fun vs lo hi wx hB hK => Out.load1 rfl agg_36 ((hb1_0.to hB).cell 1 _ rfl), fun vs lo hi wx hB hK => Out.call (by kernel_rfl) (c_laws_szLabBoxS _ a_a_Boxes c_a_Boxes a.Boxes (h_a_Boxes.below (btr e4 hB)) (szR (szN_LabLinkS a.Links) left) (by omega)) (fun _ _ h => h), trivial⟩) ?_
    rintro vs5 lo5 hi5 w5 hU5
    have e6 := btr e4 hU5.1
    replace hb1_0 := hb1_0.to hU5.1
    refine Rest.nil (GQ.sub [(1, .int .i64 (szR (szN_LabBoxS a.Boxes) (szR (szN_LabLinkS a.Links) left)))] (by kernel_rfl) ?_)
    refine GQ.on ?_
    refine GC.seq ?_
    refine GC.seq ?_
    refine GC.regW [W (.int .i64 (szR (szN_LabBoxS a.Boxes) (szR (szN_LabLinkS a.Links) left))), W (.bool (decide ((szR (szN_LabBoxS a.Boxes) (szR (szN_LabLinkS a.Links) left)) < (0 : Int))))] [(1, .int .i64 (szR (szN_LabBoxS a.Boxes) (szR (szN_LabLinkS a.Links) left))), (16, .bool (decide ((szR (szN_LabBoxS a.Boxes) (szR (szN_LabLinkS a.Links) left)) < (0 : Int))))] mixed rfl (fun vs w => by kernel_rfl) rfl (fun vs => by kernel_rfl) ?_
    refine GQ.on ?_
    refine GC.cond (decide ((szR (szN_LabBoxS a.Boxes) (szR (szN_LabLinkS a.Links) left)) < (0 : Int))) rfl (fun hc1 => ?_) (fun hc1 => ?_)
    · skip
      have hc1' := hc1
      try simp at hc1'
      refine GC.seq ?_
      refine GC.regW [W (.int .i64 (-1))] [(4, .int .i64 (-1))] mixed rfl (fun vs w => by kernel_rfl) rfl (fun vs => by kernel_rfl) ?_
      refine GQ.on ?_
      refine GC.ret ?_
      refine GQ.passRet ?_
      refine GQ.ret1 (.int .i64 (-1)) rfl rfl ?_
      exact ⟨_, rfl, (congrArg (Value.int .i64) (by show (_ : Int) = szR (szN_LabLinkS a.Links + szN_LabBoxS a.Boxes) left; omega)), e6⟩
    · skip
      have hc1' := hc1
      try simp at hc1'
      refine GC.skip ?_
      refine GQ.on ?_
      refine GC.seq ?_
      refine GC.regW [W (.int .i64 (szR (szN_LabBoxS a.Boxes) (szR (szN_LabLinkS a.Links) left))), W (.int .i64 (szR (szN_LabBoxS a.Boxes) (szR (szN_LabLinkS a.Links) left)))] [(4, .int .i64 (szR (szN_LabBoxS a.Boxes) (szR (szN_LabLinkS a.Links) left)))] mixed rfl (fun vs w => by kernel_rfl) rfl (fun vs => by kernel_rfl) ?_
      refine GQ.on ?_
      refine GC.ret ?_
      refine GQ.ret1 (.int .i64 (szR (szN_LabBoxS a.Boxes) (szR (szN_LabLinkS a.Links) left))) rfl rfl ?_
      exact ⟨_, rfl, (congrArg (Value.int .i64) (by show (_ : Int) = szR (szN_LabLinkS a.Links + szN_LabBoxS a.Boxes) left; omega)), e6⟩
/-- laws.toLabLink -/
theorem c_laws_toLabLink (w : World) (a : LabLink) (cs_a : List Value) (h_a : rpLabLink.rd w cs_a a) :
    Calls Try.prog 51 #[.agg cs_a.toArray] w fun e w' => ∃ rv, e = .returned rv ∧ (rv = .agg #[.int .i64 a.A, .int .i64 a.B] ∧ Below w.heap.size w w') := by
  obtain rfl := h_a
  refine enter [(0, .agg #[.int .i64 a.A, .int .i64 a.B])] Try.func51 rfl (by kernel_rfl) (by kernel_rfl) ?_
  have e0 := brefl w
  refine GC.seq ?_
  refine GC.reg 2 [RB 0 74 [.int .i64 a.A, .int .i64 a.B], RB 1 72 [.int .i64 0, .int .i64 0]] mixed (fun vs w => by kernel_rfl) (⟨fun vs lo hi wx hB hK => Out.box rfl, fun vs lo hi wx hB hK => Out.alloc (z := .agg #[.int .i64 0, .int .i64 0]) (by kernel_rfl) rfl, trivial⟩) ?_
  rintro vs1 lo1 hi1 w1 hU1
  have e2 := btr e0 hU1.1
  obtain ⟨⟨hv1_0, hp1_0, hb1_0⟩, hl1_0, -, -⟩ := hU1.2.1 0 _ rfl trivial
  have hl1_0b := Nat.le_trans e0.size hl1_0
  obtain ⟨⟨hv1_1, hp1_1, hb1_1⟩, hl1_1, -, -⟩ := hU1.2.1 1 _ rfl trivial
  have hne3 := hU1.ne 0 1 rfl rfl trivial trivial (by decide) hp1_0 hp1_1
  have hl1_1b := Nat.le_trans e0.size hl1_1
  refine Rest.nil (GQ.sub [(1, .pointer (some ⟨(lo1 0), 0, none⟩)), (2, .pointer (some ⟨(lo1 1), 0, none⟩))] (by rw [← hv1_0, ← hv1_1]; kernel_rfl) ?_)
  refine GQ.on ?_
  refine GC.seq ?_
  refine GC.reg 1 [RB 0 72 [.int .i64 0, .int .i64 0]] mixed (fun vs w => by kernel_rfl) (⟨fun vs lo hi wx hB hK => Out.alloc (z := .agg #[.int .i64 0, .int .i64 0]) (by kernel_rfl) rfl, trivial⟩) ?_
  rintro vs4 lo4 hi4 w4 hU4
  have hlt5 := hb1_0.lt
  have hlt6 := hb1_1.lt
  have e7 := btr e2 hU4.1
  replace hb1_0 := hb1_0.to hU4.1
  replace hb1_1 := hb1_1.to hU4.1
  obtain ⟨⟨hv4_0, hp4_0, hb4_0⟩, hl4_0, -, -⟩ := hU4.2.1 0 _ rfl trivial
  have hne8 := Nat.ne_of_lt (Nat.lt_of_lt_of_le hlt5 hl4_0)
  have hne9 := Nat.ne_of_lt (Nat.lt_of_lt_of_le hlt6 hl4_0)
  have hl4_0b := Nat.le_trans e2.size hl4_0
  refine Rest.nil (GQ.sub [(1, .pointer (some ⟨(lo1 0), 0, none⟩)), (2, .pointer (some ⟨(lo1 1), 0, none⟩)), (3, .pointer (some ⟨(lo4 0), 0, none⟩))] (by rw [← hv4_0]; kernel_rfl) ?_)
  refine GQ.on ?_
  refine GC.seq ?_
  refine GC.reg 3 [W (.pointer (some ⟨(lo1 0), 0, none⟩)), D (.int .i64 a.A), W (.pointer (some ⟨(lo4 0), 0, none⟩))] mixed (fun vs w => by kernel_rfl) (⟨fun vs lo hi wx hB hK => Out.load1 rfl agg_3 ((hb1_0.to hB).cell 0 _ rfl), trivial⟩) ?_
  rintro vs10 lo10 hi10 w10 hU10
  have e11 := btr e7 hU10.1
  replace hb1_0 := hb1_0.to hU10.1
  replace hb1_1 := hb1_1.to hU10.1
  replace hb4_0 := hb4_0.to hU10.1
  refine Rest.sub [(1, .pointer (some ⟨(lo1 0), 0, none⟩)), (2, .pointer (some ⟨(lo1 1), 0, none⟩)), (3, .pointer (some ⟨(lo4 0), 0, none⟩)), (5, .int .i64 a.A), (6, .pointer (some ⟨(lo4 0), 0, none⟩))] (by kernel_rfl) ?_
  refine Rest.store [.int .i64 a.A] [.int .i64 a.A, .int .i64 0] rfl rfl hb4_0 size_3 rfl rfl rfl ?_
  intro w12 hC13 hb14
  have e15 := bchg1 e11 (Nat.le_refl _) hC13 hl4_0b
  replace hb1_0 := hb1_0.chg hC13 hne8
  replace hb1_1 := hb1_1.chg hC13 hne9
  refine Rest.nil (GQ.sub [(1, .pointer (some ⟨(lo1 0), 0, none⟩)), (2, .pointer (some ⟨(lo1 1), 0, none⟩)), (3, .pointer (some ⟨(lo4 0), 0, none⟩))] (by kernel_rfl) ?_)
  refine GQ.on ?_
  refine GC.seq ?_
  refine GC.reg 3 [W (.pointer (some ⟨(lo1 0), 1, none⟩)), D (.int .i64 a.B), W (.pointer (some ⟨(lo4 0), 1, none⟩))] mixed (fun vs w => by kernel_rfl) (⟨fun vs lo hi wx hB hK => Out.load1 rfl agg_3 ((hb1_0.to hB).cell 1 _ rfl), trivial⟩) ?_
  rintro vs16 lo16 hi16 w16 hU16
  have e17 := btr e15 hU16.1
  replace hb1_0 := hb1_0.to hU16.1
  replace hb1_1 := hb1_1.to hU16.1
  replace hb14 := hb14.to hU16.1
  refine Rest.sub [(2, .pointer (some ⟨(lo1 1), 0, none⟩)), (3, .pointer (some ⟨(lo4 0), 0, none⟩)), (8, .int .i64 a.B), (9, .pointer (some ⟨(lo4 0), 1, none⟩))] (by kernel_rfl) ?_
  refine Rest.store [.int .i64 a.B] [.int .i64 a.A, .int .i64 a.B] rfl rfl hb14 size_3 rfl rfl rfl ?_
  intro w18 hC19 hb20
  have e21 := bchg1 e17 (Nat.le_refl _) hC19 hl4_0b
  replace hb1_0 := hb1_0.chg hC19 hne8
  replace hb1_1 := hb1_1.chg hC19 hne9
  refine Rest.nil (GQ.sub [(2, .pointer (some ⟨(lo1 1), 0, none⟩)), (3, .pointer (some ⟨(lo4 0), 0, none⟩))] (by kernel_rfl) ?_)
  refine GQ.on ?_
  refine GC.seq ?_
  refine GC.reg 1 [D (.agg #[.int .i64 a.A, .int .i64 a.B])] mixed (fun vs w => by kernel_rfl) (⟨fun vs lo hi wx hB hK => Out.loadA rfl agg_72 size_72 ((hb20.to hB).has 0 _ rfl), trivial⟩) ?_
  rintro vs22 lo22 hi22 w22 hU22
  have e23 := btr e21 hU22.1
  replace hb1_0 := hb1_0.to hU22.1
  replace hb1_1 := hb1_1.to hU22.1
  replace hb20 := hb20.to hU22.1
  refine Rest.sub [(2, .pointer (some ⟨(lo1 1), 0, none⟩)), (10, .agg #[.int .i64 a.A, .int .i64 a.B])] (by kernel_rfl) ?_
  refine Rest.store [.int .i64 a.A, .int .i64 a.B] [.int .i64 a.A, .int .i64 a.B] rfl rfl hb1_1 size_72 rfl rfl rfl ?_
  intro w24 hC25 hb26
  have e27 := bchg1 e23 (Nat.le_refl _) hC25 hl1_1b
  replace hb1_0 := hb1_0.chg hC25 hne3
  replace hb20 := hb20.chg hC25 (Ne.symm hne9)
  refine Rest.nil (GQ.sub [(2, .pointer (some ⟨(lo1 1), 0, none⟩))] (by kernel_rfl) ?_)
  refine GQ.on ?_
  refine GC.ret ?_
  refine GQ.ret1 (.agg #[.int .i64 a.A, .int .i64 a.B]) rfl ⟨_, rfl, run_loadA agg_72 size_72 (hb26.has 0 _ rfl)⟩ ?_
  exact ⟨_, rfl, rfl, e27⟩
/-- laws.toLabLinkS -/
theorem c_laws_toLabLinkS (w : World) (a_a : Option Addr) (c_a : Nat) (a : List LabLink) (h_a : SlR rpLabLink w a_a c_a a) (hr : szN_LabLinkS a ≤ 1048576) :
    Calls Try.prog 14 #[.slice a_a a.length c_a] w fun e w' => ∃ rv, e = .returned rv ∧ (Below w.heap.size w w' ∧ FreshL rpLabLink (a : List LabLink) rv w.heap.size w'.heap.size w') := by
  refine enter [(0, .slice a_a a.length c_a)] Try.func14 rfl (by kernel_rfl) (by kernel_rfl) ?_
  have e0 := brefl w
  have hr' : a.length ≤ 1048576 := hr
  refine GC.seq ?_
  refine GC.regW [W (.slice none 0 0)] [(0, .slice a_a a.length c_a)] mixed rfl (fun vs w => by kernel_rfl) rfl (fun vs => by kernel_rfl) ?_
  refine GQ.on ?_
  refine GC.seq ?_
  refine GC.reg 4 [W (.slice a_a a.length c_a), W (.int .i64 (a.length : Int)), RM 2 rpLabLink (⟨(0 : Int), (0 : Int)⟩ : LabLink) a.length, WR [2] (fun l => l.headD undef)] mixed (fun vs w => by kernel_rfl) (⟨fun vs lo hi wx hB hK => Out.make (by' := 16) rpLabLink (⟨(0 : Int), (0 : Int)⟩ : LabLink) (zv := .agg #[.int .i64 0, .int .i64 0]) rfl rfl Try.underlying24 (by kernel_rfl) (⟨rfl, rfl⟩) (by decide) (by omega) (by omega), trivial⟩) ?_
  rintro vs1 lo1 hi1 w1 hU1
  have e2 := btr e0 hU1.1
  obtain ⟨⟨hv1_2, hp1_2, fp1_2, hO1_2, hf1_2⟩, hl1_2, -, -⟩ := hU1.2.1 2 _ rfl trivial
  have hl1_2b := Nat.le_trans e0.size hl1_2
  have hlo3 := low_of hf1_2 hl1_2b
  refine Rest.nil (GQ.sub [(0, .slice a_a a.length c_a), (3, .slice (some ⟨(lo1 2), 0, none⟩) a.length a.length)] (by rw [← hv1_2]; kernel_rfl) ?_)
  refine GQ.on ?_
  refine GC.seq ?_
  refine GC.seq ?_
  refine GC.regW [W (.int .i64 0)] [(0, .slice a_a a.length c_a), (3, .slice (some ⟨(lo1 2), 0, none⟩) a.length a.length), (4, .int .i64 0)] mixed rfl (fun vs w => by kernel_rfl) rfl (fun vs => by kernel_rfl) ?_
  refine GQ.on ?_
  refine GC.block ?_
  refine GC.loop (ι := Nat) (fun k => [(0, .slice a_a a.length c_a), (3, .slice (some ⟨(lo1 2), 0, none⟩) a.length a.length), (4, .int .i64 (k : Int))]) (fun k w' => Chg (fun b' : Nat => b' ∈ fp1_2) w1 w' ∧ (∃ fpq0, SlO rpLabLink w' (some ⟨(lo1 2), 0, none⟩) a.length (a.take k ++ List.replicate (a.length - k) (⟨(0 : Int), (0 : Int)⟩ : LabLink)) fpq0 ∧ (∀ b' ∈ fpq0, w.heap.size ≤ b') ∧ (∀ b' ∈ fpq0, w1.heap.size ≤ b' ∨ (fun b' : Nat => b' ∈ fp1_2) b')) ∧ (k ≤ a.length)) (fun k => a.length - k) 0 (by kernel_rfl) ⟨chg_refl _ _, ⟨_, (set_start a (⟨(0 : Int), (0 : Int)⟩ : LabLink)).symm ▸ hO1_2, hlo3, (fun b hb => .inr (hb))⟩, by omega⟩ ?_
  rintro k w4 ⟨hw6, ⟨fp7_0, hO7_0, hlo7_0, hll7_0⟩, hi0_0⟩
  have e5 := chg_below e2 (Nat.le_refl _) hw6 (fun k h => ((fun h => hlo3 k h)) h)
  refine GC.seq ?_
  refine GC.seq ?_
  refine GC.regW [W (.int .i64 (k : Int)), W (.slice a_a a.length c_a), W (.int .i64 (a.length : Int)), W (.bool (decide ((k : Int) < (a.length : Int))))] [(0, .slice a_a a.length c_a), (3, .slice (some ⟨(lo1 2), 0, none⟩) a.length a.length), (4, .int .i64 (k : Int)), (11, .bool (decide ((k : Int) < (a.length : Int))))] mixed rfl (fun vs w => by kernel_rfl) rfl (fun vs => by kernel_rfl) ?_
  refine GQ.on ?_
  refine GC.cond (decide ((k : Int) < (a.length : Int))) rfl (fun hc0 => ?_) (fun hc0 => ?_)
  · skip
    have hc0' := hc0
    try simp at hc0'
    refine GC.skip ?_
    refine GQ.on ?_
    refine GC.seq ?_
    refine GC.block ?_
    obtain ⟨x_a_k, hx_x_a_k⟩ : ∃ x, a[k]? = some x := ⟨_, List.getElem?_eq_getElem (by omega)⟩
    obtain ⟨ha_x_a_k, hb_x_a_k, cs_x_a_k, hl_x_a_k, hh_x_a_k, hr_x_a_k⟩ := h_a.2.2 k x_a_k hx_x_a_k
    obtain rfl := hr_x_a_k
    refine GC.reg 8 [W (.slice (some ⟨(lo1 2), 0, none⟩) a.length a.length), W (.int .i64 (k : Int)), W (.slice a_a a.length c_a), W (.int .i64 (k : Int)), D (.pointer (some ⟨(ab a_a), ao a_a + k * 2, none⟩)), D (.agg #[.int .i64 x_a_k.A, .int .i64 x_a_k.B]), D (.agg #[.int .i64 x_a_k.A, .int .i64 x_a_k.B]), D (.pointer (some ⟨(lo1 2), 0 + k * 2, none⟩))] mixed (fun vs w => by kernel_rfl) (⟨fun vs lo hi wx hB hK => Out.idxS k rfl rfl (ltg hx_x_a_k) ha_x_a_k Try.underlying22 size_74, fun vs lo hi wx hB hK => Out.loadA rfl agg_74 size_74 ((hh_x_a_k.below hb_x_a_k (btr e5 hB)).sub 0 _ rfl), fun vs lo hi wx hB hK => Out.call (by kernel_rfl) (c_laws_toLabLink _ x_a_k ([.int .i64 x_a_k.A, .int .i64 x_a_k.B]) (show rpLabLink.rd _ _ _ from rfl)) (fun _ _ h => h), fun vs lo hi wx hB hK => Out.idx rfl rfl (by have := ltg hx_x_a_k; first | omega | (simp; omega)) Try.underlying24 size_72, trivial⟩) ?_
    rintro vs8 lo8 hi8 w8 hU8
    have e9 := btr e5 hU8.1
    replace hO7_0 := hO7_0.below hU8.1
    have hw10 := chg_trb hw6 hU8.1
    refine Rest.sub [(0, .slice a_a a.length c_a), (3, .slice (some ⟨(lo1 2), 0, none⟩) a.length a.length), (4, .int .i64 (k : Int)), (20, .agg #[.int .i64 x_a_k.A, .int .i64 x_a_k.B]), (21, .pointer (some ⟨(lo1 2), 0 + k * 2, none⟩))] (by kernel_rfl) ?_
    refine Rest.storeO k x_a_k [.int .i64 x_a_k.A, .int .i64 x_a_k.B] [] hO7_0 (by have := ltg hx_x_a_k; first | omega | (simp; omega)) rfl (Nat.zero_add _) rfl size_72 (⟨rfl, rfl⟩) (mem_nil) ?_
    intro w11 fp11 hC11 hO11 hs11
    have e12 := chg_below e9 (Nat.le_refl _) hC11 hlo7_0
    have hw13 := chg_trS hw10 hC11 hll7_0
    have hlo11 : ∀ b ∈ fp11, w.heap.size ≤ b := (fun b hb => (fun h => h.elim (hlo7_0 b) (fun h => (fun b h => by cases h) b h)) (hs11 b hb))
    have hll11 : ∀ b ∈ fp11, w1.heap.size ≤ b ∨ (fun b' : Nat => b' ∈ fp1_2) b := (fun b hb => (fun h => h.elim (hll7_0 b) (fun h => (fun b h => by cases h) b h)) (hs11 b hb))
    refine Rest.nil (GQ.sub [(0, .slice a_a a.length c_a), (3, .slice (some ⟨(lo1 2), 0, none⟩) a.length a.length), (4, .int .i64 (k : Int))] (by kernel_rfl) ?_)
    refine GQ.blockEnd ?_
    refine GQ.on ?_
    refine GC.reg 3 [W (.int .i64 (k : Int)), D (.int .i64 ((k : Int) + 1)), W (.int .i64 ((k : Int) + 1))] mixed (fun vs w => by kernel_rfl) (⟨fun vs lo hi wx hB hK => Out.add rfl rfl (by omega) (by omega), trivial⟩) ?_
    rintro vs14 lo14 hi14 w14 hU14
    have e15 := btr e12 hU14.1
    replace hO11 := hO11.below hU14.1
    have hw16 := chg_trb hw13 hU14.1
    refine Rest.nil (GQ.sub [(0, .slice a_a a.length c_a), (3, .slice (some ⟨(lo1 2), 0, none⟩) a.length a.length), (4, .int .i64 ((k : Int) + 1))] (by kernel_rfl) ?_)
    exact GQ.next (k + 1) (by kernel_rfl) ⟨hw16, ⟨_, set_take hx_x_a_k ▸ hO11, hlo11, hll11⟩, by have := ltg hx_x_a_k; omega⟩ (by have := ltg hx_x_a_k; omega)
  · skip
    have hc0' := hc0
    try simp at hc0'
    refine GC.exit ?_
    refine GQ.pass ?_
    refine GQ.pass ?_
    refine GQ.blockOut ?_
    refine GQ.on ?_
    refine GC.seq ?_
    refine GC.regW [W (.slice (some ⟨(lo1 2), 0, none⟩) a.length a.length), W (.slice (some ⟨(lo1 2), 0, none⟩) a.length a.length)] [(2, .slice (some ⟨(lo1 2), 0, none⟩) a.length a.length)] mixed rfl (fun vs w => by kernel_rfl) rfl (fun vs => by kernel_rfl) ?_
    refine GQ.on ?_
    refine GC.ret ?_
    refine GQ.ret1 (.slice (some ⟨(lo1 2), 0, none⟩) a.length a.length) rfl rfl ?_
    exact ⟨_, rfl, e5, FreshL.mk (rfl) (by have h := hO7_0; rwa [show k = a.length by omega, set_end] at h) hlo7_0⟩
/-- laws.toLabRow -/
theorem c_laws_toLabRow (w : World) (a : LabRow) (cs_a : List Value) (h_a : rpLabRow.rd w cs_a a) :
    Calls Try.prog 141 #[.agg cs_a.toArray] w fun e w' => ∃ rv, e = .returned rv ∧ (rv = .agg #[.int .i64 a.In, .int .i64 a.Next, .int .i64 a.Out] ∧ Below w.heap.size w w') := by
  obtain rfl := h_a
  refine enter [(0, .agg #[.int .i64 a.In, .int .i64 a.Next, .int .i64 a.Out])] Try.func141 rfl (by kernel_rfl) (by kernel_rfl) ?_
  have e0 := brefl w
  refine GC.seq ?_
  refine GC.reg 2 [RB 0 162 [.int .i64 a.In, .int .i64 a.Next, .int .i64 a.Out], RB 1 92 [.int .i64 0, .int .i64 0, .int .i64 0]] mixed (fun vs w => by kernel_rfl) (⟨fun vs lo hi wx hB hK => Out.box rfl, fun vs lo hi wx hB hK => Out.alloc (z := .agg #[.int .i64 0, .int .i64 0, .int .i64 0]) (by kernel_rfl) rfl, trivial⟩) ?_
  rintro vs1 lo1 hi1 w1 hU1
  have e2 := btr e0 hU1.1
  obtain ⟨⟨hv1_0, hp1_0, hb1_0⟩, hl1_0, -, -⟩ := hU1.2.1 0 _ rfl trivial
  have hl1_0b := Nat.le_trans e0.size hl1_0
  obtain ⟨⟨hv1_1, hp1_1, hb1_1⟩, hl1_1, -, -⟩ := hU1.2.1 1 _ rfl trivial
  have hne3 := hU1.ne 0 1 rfl rfl trivial trivial (by decide) hp1_0 hp1_1
  have hl1_1b := Nat.le_trans e0.size hl1_1
  refine Rest.nil (GQ.sub [(1, .pointer (some ⟨(lo1 0), 0, none⟩)), (2, .pointer (some ⟨(lo1 1), 0, none⟩))] (by rw [← hv1_0, ← hv1_1]; kernel_rfl) ?_)
  refine GQ.on ?_
  refine GC.seq ?_
  refine GC.reg 1 [RB 0 92 [.int .i64 0, .int .i64 0, .int .i64 0]] mixed (fun vs w => by kernel_rfl) (⟨fun vs lo hi wx hB hK => Out.alloc (z := .agg #[.int .i64 0, .int .i64 0, .int .i64 0]) (by kernel_rfl) rfl, trivial⟩) ?_
  rintro vs4 lo4 hi4 w4 hU4
  have hlt5 := hb1_0.lt
  have hlt6 := hb1_1.lt
  have e7 := btr e2 hU4.1
  replace hb1_0 := hb1_0.to hU4.1
  replace hb1_1 := hb1_1.to hU4.1
  obtain ⟨⟨hv4_0, hp4_0, hb4_0⟩, hl4_0, -, -⟩ := hU4.2.1 0 _ rfl trivial
  have hne8 := Nat.ne_of_lt (Nat.lt_of_lt_of_le hlt5 hl4_0)
  have hne9 := Nat.ne_of_lt (Nat.lt_of_lt_of_le hlt6 hl4_0)
  have hl4_0b := Nat.le_trans e2.size hl4_0
  refine Rest.nil (GQ.sub [(1, .pointer (some ⟨(lo1 0), 0, none⟩)), (2, .pointer (some ⟨(lo1 1), 0, none⟩)), (3, .pointer (some ⟨(lo4 0), 0, none⟩))] (by rw [← hv4_0]; kernel_rfl) ?_)
  refine GQ.on ?_
  refine GC.seq ?_
  refine GC.reg 3 [W (.pointer (some ⟨(lo1 0), 0, none⟩)), D (.int .i64 a.In), W (.pointer (some ⟨(lo4 0), 0, none⟩))] mixed (fun vs w => by kernel_rfl) (⟨fun vs lo hi wx hB hK => Out.load1 rfl agg_3 ((hb1_0.to hB).cell 0 _ rfl), trivial⟩) ?_
  rintro vs10 lo10 hi10 w10 hU10
  have e11 := btr e7 hU10.1
  replace hb1_0 := hb1_0.to hU10.1
  replace hb1_1 := hb1_1.to hU10.1
  replace hb4_0 := hb4_0.to hU10.1
  refine Rest.sub [(1, .pointer (some ⟨(lo1 0), 0, none⟩)), (2, .pointer (some ⟨(lo1 1), 0, none⟩)), (3, .pointer (some ⟨(lo4 0), 0, none⟩)), (5, .int .i64 a.In), (6, .pointer (some ⟨(lo4 0), 0, none⟩))] (by kernel_rfl) ?_
  refine Rest.store [.int .i64 a.In] [.int .i64 a.In, .int .i64 0, .int .i64 0] rfl rfl hb4_0 size_3 rfl rfl rfl ?_
  intro w12 hC13 hb14
  have e15 := bchg1 e11 (Nat.le_refl _) hC13 hl4_0b
  replace hb1_0 := hb1_0.chg hC13 hne8
  replace hb1_1 := hb1_1.chg hC13 hne9
  refine Rest.nil (GQ.sub [(1, .pointer (some ⟨(lo1 0), 0, none⟩)), (2, .pointer (some ⟨(lo1 1), 0, none⟩)), (3, .pointer (some ⟨(lo4 0), 0, none⟩))] (by kernel_rfl) ?_)
  refine GQ.on ?_
  refine GC.seq ?_
  refine GC.reg 3 [W (.pointer (some ⟨(lo1 0), 1, none⟩)), D (.int .i64 a.Next), W (.pointer (some ⟨(lo4 0), 1, none⟩))] mixed (fun vs w => by kernel_rfl) (⟨fun vs lo hi wx hB hK => Out.load1 rfl agg_3 ((hb1_0.to hB).cell 1 _ rfl), trivial⟩) ?_
  rintro vs16 lo16 hi16 w16 hU16
  have e17 := btr e15 hU16.1
  replace hb1_0 := hb1_0.to hU16.1
  replace hb1_1 := hb1_1.to hU16.1
  replace hb14 := hb14.to hU16.1
  refine Rest.sub [(1, .pointer (some ⟨(lo1 0), 0, none⟩)), (2, .pointer (some ⟨(lo1 1), 0, none⟩)), (3, .pointer (some ⟨(lo4 0), 0, none⟩)), (8, .int .i64 a.Next), (9, .pointer (some ⟨(lo4 0), 1, none⟩))] (by kernel_rfl) ?_
  refine Rest.store [.int .i64 a.Next] [.int .i64 a.In, .int .i64 a.Next, .int .i64 0] rfl rfl hb14 size_3 rfl rfl rfl ?_
  intro w18 hC19 hb20
  have e21 := bchg1 e17 (Nat.le_refl _) hC19 hl4_0b
  replace hb1_0 := hb1_0.chg hC19 hne8
  replace hb1_1 := hb1_1.chg hC19 hne9
  refine Rest.nil (GQ.sub [(1, .pointer (some ⟨(lo1 0), 0, none⟩)), (2, .pointer (some ⟨(lo1 1), 0, none⟩)), (3, .pointer (some ⟨(lo4 0), 0, none⟩))] (by kernel_rfl) ?_)
  refine GQ.on ?_
  refine GC.seq ?_
  refine GC.reg 3 [W (.pointer (some ⟨(lo1 0), 2, none⟩)), D (.int .i64 a.Out), W (.pointer (some ⟨(lo4 0), 2, none⟩))] mixed (fun vs w => by kernel_rfl) (⟨fun vs lo hi wx hB hK => Out.load1 rfl agg_3 ((hb1_0.to hB).cell 2 _ rfl), trivial⟩) ?_
  rintro vs22 lo22 hi22 w22 hU22
  have e23 := btr e21 hU22.1
  replace hb1_0 := hb1_0.to hU22.1
  replace hb1_1 := hb1_1.to hU22.1
  replace hb20 := hb20.to hU22.1
  refine Rest.sub [(2, .pointer (some ⟨(lo1 1), 0, none⟩)), (3, .pointer (some ⟨(lo4 0), 0, none⟩)), (11, .int .i64 a.Out), (12, .pointer (some ⟨(lo4 0), 2, none⟩))] (by kernel_rfl) ?_
  refine Rest.store [.int .i64 a.Out] [.int .i64 a.In, .int .i64 a.Next, .int .i64 a.Out] rfl rfl hb20 size_3 rfl rfl rfl ?_
  intro w24 hC25 hb26
  have e27 := bchg1 e23 (Nat.le_refl _) hC25 hl4_0b
  replace hb1_0 := hb1_0.chg hC25 hne8
  replace hb1_1 := hb1_1.chg hC25 hne9
  refine Rest.nil (GQ.sub [(2, .pointer (some ⟨(lo1 1), 0, none⟩)), (3, .pointer (some ⟨(lo4 0), 0, none⟩))] (by kernel_rfl) ?_)
  refine GQ.on ?_
  refine GC.seq ?_
  refine GC.reg 1 [D (.agg #[.int .i64 a.In, .int .i64 a.Next, .int .i64 a.Out])] mixed (fun vs w => by kernel_rfl) (⟨fun vs lo hi wx hB hK => Out.loadA rfl agg_92 size_92 ((hb26.to hB).has 0 _ rfl), trivial⟩) ?_
  rintro vs28 lo28 hi28 w28 hU28
  have e29 := btr e27 hU28.1
  replace hb1_0 := hb1_0.to hU28.1
  replace hb1_1 := hb1_1.to hU28.1
  replace hb26 := hb26.to hU28.1
  refine Rest.sub [(2, .pointer (some ⟨(lo1 1), 0, none⟩)), (13, .agg #[.int .i64 a.In, .int .i64 a.Next, .int .i64 a.Out])] (by kernel_rfl) ?_
  refine Rest.store [.int .i64 a.In, .int .i64 a.Next, .int .i64 a.Out] [.int .i64 a.In, .int .i64 a.Next, .int .i64 a.Out] rfl rfl hb1_1 size_92 rfl rfl rfl ?_
  intro w30 hC31 hb32
  have e33 := bchg1 e29 (Nat.le_refl _) hC31 hl1_1b
  replace hb1_0 := hb1_0.chg hC31 hne3
  replace hb26 := hb26.chg hC31 (Ne.symm hne9)
  refine Rest.nil (GQ.sub [(2, .pointer (some ⟨(lo1 1), 0, none⟩))] (by kernel_rfl) ?_)
  refine GQ.on ?_
  refine GC.ret ?_
  refine GQ.ret1 (.agg #[.int .i64 a.In, .int .i64 a.Next, .int .i64 a.Out]) rfl ⟨_, rfl, run_loadA agg_92 size_92 (hb32.has 0 _ rfl)⟩ ?_
  exact ⟨_, rfl, rfl, e33⟩
/-- laws.toLabRowS -/
theorem c_laws_toLabRowS (w : World) (a_a : Option Addr) (c_a : Nat) (a : List LabRow) (h_a : SlR rpLabRow w a_a c_a a) (hr : szN_LabRowS a ≤ 1048576) :
    Calls Try.prog 131 #[.slice a_a a.length c_a] w fun e w' => ∃ rv, e = .returned rv ∧ (Below w.heap.size w w' ∧ FreshL rpLabRow (a : List LabRow) rv w.heap.size w'.heap.size w') := by
  refine enter [(0, .slice a_a a.length c_a)] Try.func131 rfl (by kernel_rfl) (by kernel_rfl) ?_
  have e0 := brefl w
  have hr' : a.length ≤ 1048576 := hr
  refine GC.seq ?_
  refine GC.regW [W (.slice none 0 0)] [(0, .slice a_a a.length c_a)] mixed rfl (fun vs w => by kernel_rfl) rfl (fun vs => by kernel_rfl) ?_
  refine GQ.on ?_
  refine GC.seq ?_
  refine GC.reg 4 [W (.slice a_a a.length c_a), W (.int .i64 (a.length : Int)), RM 2 rpLabRow (⟨(0 : Int), (0 : Int), (0 : Int)⟩ : LabRow) a.length, WR [2] (fun l => l.headD undef)] mixed (fun vs w => by kernel_rfl) (⟨fun vs lo hi wx hB hK => Out.make (by' := 24) rpLabRow (⟨(0 : Int), (0 : Int), (0 : Int)⟩ : LabRow) (zv := .agg #[.int .i64 0, .int .i64 0, .int .i64 0]) rfl rfl Try.underlying87 (by kernel_rfl) (⟨rfl, rfl⟩) (by decide) (by omega) (by omega), trivial⟩) ?_
  rintro vs1 lo1 hi1 w1 hU1
  have e2 := btr e0 hU1.1
  obtain ⟨⟨hv1_2, hp1_2, fp1_2, hO1_2, hf1_2⟩, hl1_2, -, -⟩ := hU1.2.1 2 _ rfl trivial
  have hl1_2b := Nat.le_trans e0.size hl1_2
  have hlo3 := low_of hf1_2 hl1_2b
  refine Rest.nil (GQ.sub [(0, .slice a_a a.length c_a), (3, .slice (some ⟨(lo1 2), 0, none⟩) a.length a.length)] (by rw [← hv1_2]; kernel_rfl) ?_)
  refine GQ.on ?_
  refine GC.seq ?_
  refine GC.seq ?_
  refine GC.regW [W (.int .i64 0)] [(0, .slice a_a a.length c_a), (3, .slice (some ⟨(lo1 2), 0, none⟩) a.length a.length), (4, .int .i64 0)] mixed rfl (fun vs w => by kernel_rfl) rfl (fun vs => by kernel_rfl) ?_
  refine GQ.on ?_
  refine GC.block ?_
  refine GC.loop (ι := Nat) (fun k => [(0, .slice a_a a.length c_a), (3, .slice (some ⟨(lo1 2), 0, none⟩) a.length a.length), (4, .int .i64 (k : Int))]) (fun k w' => Chg (fun b' : Nat => b' ∈ fp1_2) w1 w' ∧ (∃ fpq0, SlO rpLabRow w' (some ⟨(lo1 2), 0, none⟩) a.length (a.take k ++ List.replicate (a.length - k) (⟨(0 : Int), (0 : Int), (0 : Int)⟩ : LabRow)) fpq0 ∧ (∀ b' ∈ fpq0, w.heap.size ≤ b') ∧ (∀ b' ∈ fpq0, w1.heap.size ≤ b' ∨ (fun b' : Nat => b' ∈ fp1_2) b')) ∧ (k ≤ a.length)) (fun k => a.length - k) 0 (by kernel_rfl) ⟨chg_refl _ _, ⟨_, (set_start a (⟨(0 : Int), (0 : Int), (0 : Int)⟩ : LabRow)).symm ▸ hO1_2, hlo3, (fun b hb => .inr (hb))⟩, by omega⟩ ?_
  rintro k w4 ⟨hw6, ⟨fp7_0, hO7_0, hlo7_0, hll7_0⟩, hi0_0⟩
  have e5 := chg_below e2 (Nat.le_refl _) hw6 (fun k h => ((fun h => hlo3 k h)) h)
  refine GC.seq ?_
  refine GC.seq ?_
  refine GC.regW [W (.int .i64 (k : Int)), W (.slice a_a a.length c_a), W (.int .i64 (a.length : Int)), W (.bool (decide ((k : Int) < (a.length : Int))))] [(0, .slice a_a a.length c_a), (3, .slice (some ⟨(lo1 2), 0, none⟩) a.length a.length), (4, .int .i64 (k : Int)), (11, .bool (decide ((k : Int) < (a.length : Int))))] mixed rfl (fun vs w => by kernel_rfl) rfl (fun vs => by kernel_rfl) ?_
  refine GQ.on ?_
  refine GC.cond (decide ((k : Int) < (a.length : Int))) rfl (fun hc0 => ?_) (fun hc0 => ?_)
  · skip
    have hc0' := hc0
    try simp at hc0'
    refine GC.skip ?_
    refine GQ.on ?_
    refine GC.seq ?_
    refine GC.block ?_
    obtain ⟨x_a_k, hx_x_a_k⟩ : ∃ x, a[k]? = some x := ⟨_, List.getElem?_eq_getElem (by omega)⟩
    obtain ⟨ha_x_a_k, hb_x_a_k, cs_x_a_k, hl_x_a_k, hh_x_a_k, hr_x_a_k⟩ := h_a.2.2 k x_a_k hx_x_a_k
    obtain rfl := hr_x_a_k
    refine GC.reg 8 [W (.slice (some ⟨(lo1 2), 0, none⟩) a.length a.length), W (.int .i64 (k : Int)), W (.slice a_a a.length c_a), W (.int .i64 (k : Int)), D (.pointer (some ⟨(ab a_a), ao a_a + k * 3, none⟩)), D (.agg #[.int .i64 x_a_k.In, .int .i64 x_a_k.Next, .int .i64 x_a_k.Out]), D (.agg #[.int .i64 x_a_k.In, .int .i64 x_a_k.Next, .int .i64 x_a_k.Out]), D (.pointer (some ⟨(lo1 2), 0 + k * 3, none⟩))] mixed (fun vs w => by kernel_rfl) (⟨fun vs lo hi wx hB hK => Out.idxS k rfl rfl (ltg hx_x_a_k) ha_x_a_k Try.underlying112 size_162, fun vs lo hi wx hB hK => Out.loadA rfl agg_162 size_162 ((hh_x_a_k.below hb_x_a_k (btr e5 hB)).sub 0 _ rfl), fun vs lo hi wx hB hK => Out.call (by kernel_rfl) (c_laws_toLabRow _ x_a_k ([.int .i64 x_a_k.In, .int .i64 x_a_k.Next, .int .i64 x_a_k.Out]) (show rpLabRow.rd _ _ _ from rfl)) (fun _ _ h => h), fun vs lo hi wx hB hK => Out.idx rfl rfl (by have := ltg hx_x_a_k; first | omega | (simp; omega)) Try.underlying87 size_92, trivial⟩) ?_
    rintro vs8 lo8 hi8 w8 hU8
    have e9 := btr e5 hU8.1
    replace hO7_0 := hO7_0.below hU8.1
    have hw10 := chg_trb hw6 hU8.1
    refine Rest.sub [(0, .slice a_a a.length c_a), (3, .slice (some ⟨(lo1 2), 0, none⟩) a.length a.length), (4, .int .i64 (k : Int)), (20, .agg #[.int .i64 x_a_k.In, .int .i64 x_a_k.Next, .int .i64 x_a_k.Out]), (21, .pointer (some ⟨(lo1 2), 0 + k * 3, none⟩))] (by kernel_rfl) ?_
    refine Rest.storeO k x_a_k [.int .i64 x_a_k.In, .int .i64 x_a_k.Next, .int .i64 x_a_k.Out] [] hO7_0 (by have := ltg hx_x_a_k; first | omega | (simp; omega)) rfl (Nat.zero_add _) rfl size_92 (⟨rfl, rfl⟩) (mem_nil) ?_
    intro w11 fp11 hC11 hO11 hs11
    have e12 := chg_below e9 (Nat.le_refl _) hC11 hlo7_0
    have hw13 := chg_trS hw10 hC11 hll7_0
    have hlo11 : ∀ b ∈ fp11, w.heap.size ≤ b := (fun b hb => (fun h => h.elim (hlo7_0 b) (fun h => (fun b h => by cases h) b h)) (hs11 b hb))
    have hll11 : ∀ b ∈ fp11, w1.heap.size ≤ b ∨ (fun b' : Nat => b' ∈ fp1_2) b := (fun b hb => (fun h => h.elim (hll7_0 b) (fun h => (fun b h => by cases h) b h)) (hs11 b hb))
    refine Rest.nil (GQ.sub [(0, .slice a_a a.length c_a), (3, .slice (some ⟨(lo1 2), 0, none⟩) a.length a.length), (4, .int .i64 (k : Int))] (by kernel_rfl) ?_)
    refine GQ.blockEnd ?_
    refine GQ.on ?_
    refine GC.reg 3 [W (.int .i64 (k : Int)), D (.int .i64 ((k : Int) + 1)), W (.int .i64 ((k : Int) + 1))] mixed (fun vs w => by kernel_rfl) (⟨fun vs lo hi wx hB hK => Out.add rfl rfl (by omega) (by omega), trivial⟩) ?_
    rintro vs14 lo14 hi14 w14 hU14
    have e15 := btr e12 hU14.1
    replace hO11 := hO11.below hU14.1
    have hw16 := chg_trb hw13 hU14.1
    refine Rest.nil (GQ.sub [(0, .slice a_a a.length c_a), (3, .slice (some ⟨(lo1 2), 0, none⟩) a.length a.length), (4, .int .i64 ((k : Int) + 1))] (by kernel_rfl) ?_)
    exact GQ.next (k + 1) (by kernel_rfl) ⟨hw16, ⟨_, set_take hx_x_a_k ▸ hO11, hlo11, hll11⟩, by have := ltg hx_x_a_k; omega⟩ (by have := ltg hx_x_a_k; omega)
  · skip
    have hc0' := hc0
    try simp at hc0'
    refine GC.exit ?_
    refine GQ.pass ?_
    refine GQ.pass ?_
    refine GQ.blockOut ?_
    refine GQ.on ?_
    refine GC.seq ?_
    refine GC.regW [W (.slice (some ⟨(lo1 2), 0, none⟩) a.length a.length), W (.slice (some ⟨(lo1 2), 0, none⟩) a.length a.length)] [(2, .slice (some ⟨(lo1 2), 0, none⟩) a.length a.length)] mixed rfl (fun vs w => by kernel_rfl) rfl (fun vs => by kernel_rfl) ?_
    refine GQ.on ?_
    refine GC.ret ?_
    refine GQ.ret1 (.slice (some ⟨(lo1 2), 0, none⟩) a.length a.length) rfl rfl ?_
    exact ⟨_, rfl, e5, FreshL.mk (rfl) (by have h := hO7_0; rwa [show k = a.length by omega, set_end] at h) hlo7_0⟩
/-- laws.toLabVia -/
theorem c_laws_toLabVia (w : World) (a : LabVia) (cs_a : List Value) (h_a : rpLabVia.rd w cs_a a) :
    Calls Try.prog 142 #[.agg cs_a.toArray] w fun e w' => ∃ rv, e = .returned rv ∧ (rv = .agg #[.int .i64 a.To, .int .i64 a.Via, .int .i64 a.Push] ∧ Below w.heap.size w w') := by
  obtain rfl := h_a
  refine enter [(0, .agg #[.int .i64 a.To, .int .i64 a.Via, .int .i64 a.Push])] Try.func142 rfl (by kernel_rfl) (by kernel_rfl) ?_
  have e0 := brefl w
  refine GC.seq ?_
  refine GC.reg 2 [RB 0 164 [.int .i64 a.To, .int .i64 a.Via, .int .i64 a.Push], RB 1 119 [.int .i64 0, .int .i64 0, .int .i64 0]] mixed (fun vs w => by kernel_rfl) (⟨fun vs lo hi wx hB hK => Out.box rfl, fun vs lo hi wx hB hK => Out.alloc (z := .agg #[.int .i64 0, .int .i64 0, .int .i64 0]) (by kernel_rfl) rfl, trivial⟩) ?_
  rintro vs1 lo1 hi1 w1 hU1
  have e2 := btr e0 hU1.1
  obtain ⟨⟨hv1_0, hp1_0, hb1_0⟩, hl1_0, -, -⟩ := hU1.2.1 0 _ rfl trivial
  have hl1_0b := Nat.le_trans e0.size hl1_0
  obtain ⟨⟨hv1_1, hp1_1, hb1_1⟩, hl1_1, -, -⟩ := hU1.2.1 1 _ rfl trivial
  have hne3 := hU1.ne 0 1 rfl rfl trivial trivial (by decide) hp1_0 hp1_1
  have hl1_1b := Nat.le_trans e0.size hl1_1
  refine Rest.nil (GQ.sub [(1, .pointer (some ⟨(lo1 0), 0, none⟩)), (2, .pointer (some ⟨(lo1 1), 0, none⟩))] (by rw [← hv1_0, ← hv1_1]; kernel_rfl) ?_)
  refine GQ.on ?_
  refine GC.seq ?_
  refine GC.reg 1 [RB 0 119 [.int .i64 0, .int .i64 0, .int .i64 0]] mixed (fun vs w => by kernel_rfl) (⟨fun vs lo hi wx hB hK => Out.alloc (z := .agg #[.int .i64 0, .int .i64 0, .int .i64 0]) (by kernel_rfl) rfl, trivial⟩) ?_
  rintro vs4 lo4 hi4 w4 hU4
  have hlt5 := hb1_0.lt
  have hlt6 := hb1_1.lt
  have e7 := btr e2 hU4.1
  replace hb1_0 := hb1_0.to hU4.1
  replace hb1_1 := hb1_1.to hU4.1
  obtain ⟨⟨hv4_0, hp4_0, hb4_0⟩, hl4_0, -, -⟩ := hU4.2.1 0 _ rfl trivial
  have hne8 := Nat.ne_of_lt (Nat.lt_of_lt_of_le hlt5 hl4_0)
  have hne9 := Nat.ne_of_lt (Nat.lt_of_lt_of_le hlt6 hl4_0)
  have hl4_0b := Nat.le_trans e2.size hl4_0
  refine Rest.nil (GQ.sub [(1, .pointer (some ⟨(lo1 0), 0, none⟩)), (2, .pointer (some ⟨(lo1 1), 0, none⟩)), (3, .pointer (some ⟨(lo4 0), 0, none⟩))] (by rw [← hv4_0]; kernel_rfl) ?_)
  refine GQ.on ?_
  refine GC.seq ?_
  refine GC.reg 3 [W (.pointer (some ⟨(lo1 0), 0, none⟩)), D (.int .i64 a.To), W (.pointer (some ⟨(lo4 0), 0, none⟩))] mixed (fun vs w => by kernel_rfl) (⟨fun vs lo hi wx hB hK => Out.load1 rfl agg_3 ((hb1_0.to hB).cell 0 _ rfl), trivial⟩) ?_
  rintro vs10 lo10 hi10 w10 hU10
  have e11 := btr e7 hU10.1
  replace hb1_0 := hb1_0.to hU10.1
  replace hb1_1 := hb1_1.to hU10.1
  replace hb4_0 := hb4_0.to hU10.1
  refine Rest.sub [(1, .pointer (some ⟨(lo1 0), 0, none⟩)), (2, .pointer (some ⟨(lo1 1), 0, none⟩)), (3, .pointer (some ⟨(lo4 0), 0, none⟩)), (5, .int .i64 a.To), (6, .pointer (some ⟨(lo4 0), 0, none⟩))] (by kernel_rfl) ?_
  refine Rest.store [.int .i64 a.To] [.int .i64 a.To, .int .i64 0, .int .i64 0] rfl rfl hb4_0 size_3 rfl rfl rfl ?_
  intro w12 hC13 hb14
  have e15 := bchg1 e11 (Nat.le_refl _) hC13 hl4_0b
  replace hb1_0 := hb1_0.chg hC13 hne8
  replace hb1_1 := hb1_1.chg hC13 hne9
  refine Rest.nil (GQ.sub [(1, .pointer (some ⟨(lo1 0), 0, none⟩)), (2, .pointer (some ⟨(lo1 1), 0, none⟩)), (3, .pointer (some ⟨(lo4 0), 0, none⟩))] (by kernel_rfl) ?_)
  refine GQ.on ?_
  refine GC.seq ?_
  refine GC.reg 3 [W (.pointer (some ⟨(lo1 0), 1, none⟩)), D (.int .i64 a.Via), W (.pointer (some ⟨(lo4 0), 1, none⟩))] mixed (fun vs w => by kernel_rfl) (⟨fun vs lo hi wx hB hK => Out.load1 rfl agg_3 ((hb1_0.to hB).cell 1 _ rfl), trivial⟩) ?_
  rintro vs16 lo16 hi16 w16 hU16
  have e17 := btr e15 hU16.1
  replace hb1_0 := hb1_0.to hU16.1
  replace hb1_1 := hb1_1.to hU16.1
  replace hb14 := hb14.to hU16.1
  refine Rest.sub [(1, .pointer (some ⟨(lo1 0), 0, none⟩)), (2, .pointer (some ⟨(lo1 1), 0, none⟩)), (3, .pointer (some ⟨(lo4 0), 0, none⟩)), (8, .int .i64 a.Via), (9, .pointer (some ⟨(lo4 0), 1, none⟩))] (by kernel_rfl) ?_
  refine Rest.store [.int .i64 a.Via] [.int .i64 a.To, .int .i64 a.Via, .int .i64 0] rfl rfl hb14 size_3 rfl rfl rfl ?_
  intro w18 hC19 hb20
  have e21 := bchg1 e17 (Nat.le_refl _) hC19 hl4_0b
  replace hb1_0 := hb1_0.chg hC19 hne8
  replace hb1_1 := hb1_1.chg hC19 hne9
  refine Rest.nil (GQ.sub [(1, .pointer (some ⟨(lo1 0), 0, none⟩)), (2, .pointer (some ⟨(lo1 1), 0, none⟩)), (3, .pointer (some ⟨(lo4 0), 0, none⟩))] (by kernel_rfl) ?_)
  refine GQ.on ?_
  refine GC.seq ?_
  refine GC.reg 3 [W (.pointer (some ⟨(lo1 0), 2, none⟩)), D (.int .i64 a.Push), W (.pointer (some ⟨(lo4 0), 2, none⟩))] mixed (fun vs w => by kernel_rfl) (⟨fun vs lo hi wx hB hK => Out.load1 rfl agg_3 ((hb1_0.to hB).cell 2 _ rfl), trivial⟩) ?_
  rintro vs22 lo22 hi22 w22 hU22
  have e23 := btr e21 hU22.1
  replace hb1_0 := hb1_0.to hU22.1
  replace hb1_1 := hb1_1.to hU22.1
  replace hb20 := hb20.to hU22.1
  refine Rest.sub [(2, .pointer (some ⟨(lo1 1), 0, none⟩)), (3, .pointer (some ⟨(lo4 0), 0, none⟩)), (11, .int .i64 a.Push), (12, .pointer (some ⟨(lo4 0), 2, none⟩))] (by kernel_rfl) ?_
  refine Rest.store [.int .i64 a.Push] [.int .i64 a.To, .int .i64 a.Via, .int .i64 a.Push] rfl rfl hb20 size_3 rfl rfl rfl ?_
  intro w24 hC25 hb26
  have e27 := bchg1 e23 (Nat.le_refl _) hC25 hl4_0b
  replace hb1_0 := hb1_0.chg hC25 hne8
  replace hb1_1 := hb1_1.chg hC25 hne9
  refine Rest.nil (GQ.sub [(2, .pointer (some ⟨(lo1 1), 0, none⟩)), (3, .pointer (some ⟨(lo4 0), 0, none⟩))] (by kernel_rfl) ?_)
  refine GQ.on ?_
  refine GC.seq ?_
  refine GC.reg 1 [D (.agg #[.int .i64 a.To, .int .i64 a.Via, .int .i64 a.Push])] mixed (fun vs w => by kernel_rfl) (⟨fun vs lo hi wx hB hK => Out.loadA rfl agg_119 size_119 ((hb26.to hB).has 0 _ rfl), trivial⟩) ?_
  rintro vs28 lo28 hi28 w28 hU28
  have e29 := btr e27 hU28.1
  replace hb1_0 := hb1_0.to hU28.1
  replace hb1_1 := hb1_1.to hU28.1
  replace hb26 := hb26.to hU28.1
  refine Rest.sub [(2, .pointer (some ⟨(lo1 1), 0, none⟩)), (13, .agg #[.int .i64 a.To, .int .i64 a.Via, .int .i64 a.Push])] (by kernel_rfl) ?_
  refine Rest.store [.int .i64 a.To, .int .i64 a.Via, .int .i64 a.Push] [.int .i64 a.To, .int .i64 a.Via, .int .i64 a.Push] rfl rfl hb1_1 size_119 rfl rfl rfl ?_
  intro w30 hC31 hb32
  have e33 := bchg1 e29 (Nat.le_refl _) hC31 hl1_1b
  replace hb1_0 := hb1_0.chg hC31 hne3
  replace hb26 := hb26.chg hC31 (Ne.symm hne9)
  refine Rest.nil (GQ.sub [(2, .pointer (some ⟨(lo1 1), 0, none⟩))] (by kernel_rfl) ?_)
  refine GQ.on ?_
  refine GC.ret ?_
  refine GQ.ret1 (.agg #[.int .i64 a.To, .int .i64 a.Via, .int .i64 a.Push]) rfl ⟨_, rfl, run_loadA agg_119 size_119 (hb32.has 0 _ rfl)⟩ ?_
  exact ⟨_, rfl, rfl, e33⟩
/-- laws.toLabViaS -/
theorem c_laws_toLabViaS (w : World) (a_a : Option Addr) (c_a : Nat) (a : List LabVia) (h_a : SlR rpLabVia w a_a c_a a) (hr : szN_LabViaS a ≤ 1048576) :
    Calls Try.prog 132 #[.slice a_a a.length c_a] w fun e w' => ∃ rv, e = .returned rv ∧ (Below w.heap.size w w' ∧ FreshL rpLabVia (a : List LabVia) rv w.heap.size w'.heap.size w') := by
  refine enter [(0, .slice a_a a.length c_a)] Try.func132 rfl (by kernel_rfl) (by kernel_rfl) ?_
  have e0 := brefl w
  have hr' : a.length ≤ 1048576 := hr
  refine GC.seq ?_
  refine GC.regW [W (.slice none 0 0)] [(0, .slice a_a a.length c_a)] mixed rfl (fun vs w => by kernel_rfl) rfl (fun vs => by kernel_rfl) ?_
  refine GQ.on ?_
  refine GC.seq ?_
  refine GC.reg 4 [W (.slice a_a a.length c_a), W (.int .i64 (a.length : Int)), RM 2 rpLabVia (⟨(0 : Int), (0 : Int), (0 : Int)⟩ : LabVia) a.length, WR [2] (fun l => l.headD undef)] mixed (fun vs w => by kernel_rfl) (⟨fun vs lo hi wx hB hK => Out.make (by' := 24) rpLabVia (⟨(0 : Int), (0 : Int), (0 : Int)⟩ : LabVia) (zv := .agg #[.int .i64 0, .int .i64 0, .int .i64 0]) rfl rfl Try.underlying88 (by kernel_rfl) (⟨rfl, rfl⟩) (by decide) (by omega) (by omega), trivial⟩) ?_
  rintro vs1 lo1 hi1 w1 hU1
  have e2 := btr e0 hU1.1
  obtain ⟨⟨hv1_2, hp1_2, fp1_2, hO1_2, hf1_2⟩, hl1_2, -, -⟩ := hU1.2.1 2 _ rfl trivial
  have hl1_2b := Nat.le_trans e0.size hl1_2
  have hlo3 := low_of hf1_2 hl1_2b
  refine Rest.nil (GQ.sub [(0, .slice a_a a.length c_a), (3, .slice (some ⟨(lo1 2), 0, none⟩) a.length a.length)] (by rw [← hv1_2]; kernel_rfl) ?_)
  refine GQ.on ?_
  refine GC.seq ?_
  refine GC.seq ?_
  refine GC.regW [W (.int .i64 0)] [(0, .slice a_a a.length c_a), (3, .slice (some ⟨(lo1 2), 0, none⟩) a.length a.length), (4, .int .i64 0)] mixed rfl (fun vs w => by kernel_rfl) rfl (fun vs => by kernel_rfl) ?_
  refine GQ.on ?_
  refine GC.block ?_
  refine GC.loop (ι := Nat) (fun k => [(0, .slice a_a a.length c_a), (3, .slice (some ⟨(lo1 2), 0, none⟩) a.length a.length), (4, .int .i64 (k : Int))]) (fun k w' => Chg (fun b' : Nat => b' ∈ fp1_2) w1 w' ∧ (∃ fpq0, SlO rpLabVia w' (some ⟨(lo1 2), 0, none⟩) a.length (a.take k ++ List.replicate (a.length - k) (⟨(0 : Int), (0 : Int), (0 : Int)⟩ : LabVia)) fpq0 ∧ (∀ b' ∈ fpq0, w.heap.size ≤ b') ∧ (∀ b' ∈ fpq0, w1.heap.size ≤ b' ∨ (fun b' : Nat => b' ∈ fp1_2) b')) ∧ (k ≤ a.length)) (fun k => a.length - k) 0 (by kernel_rfl) ⟨chg_refl _ _, ⟨_, (set_start a (⟨(0 : Int), (0 : Int), (0 : Int)⟩ : LabVia)).symm ▸ hO1_2, hlo3, (fun b hb => .inr (hb))⟩, by omega⟩ ?_
  rintro k w4 ⟨hw6, ⟨fp7_0, hO7_0, hlo7_0, hll7_0⟩, hi0_0⟩
  have e5 := chg_below e2 (Nat.le_refl _) hw6 (fun k h => ((fun h => hlo3 k h)) h)
  refine GC.seq ?_
  refine GC.seq ?_
  refine GC.regW [W (.int .i64 (k : Int)), W (.slice a_a a.length c_a), W (.int .i64 (a.length : Int)), W (.bool (decide ((k : Int) < (a.length : Int))))] [(0, .slice a_a a.length c_a), (3, .slice (some ⟨(lo1 2), 0, none⟩) a.length a.length), (4, .int .i64 (k : Int)), (11, .bool (decide ((k : Int) < (a.length : Int))))] mixed rfl (fun vs w => by kernel_rfl) rfl (fun vs => by kernel_rfl) ?_
  refine GQ.on ?_
  refine GC.cond (decide ((k : Int) < (a.length : Int))) rfl (fun hc0 => ?_) (fun hc0 => ?_)
  · skip
    have hc0' := hc0
    try simp at hc0'
    refine GC.skip ?_
    refine GQ.on ?_
    refine GC.seq ?_
    refine GC.block ?_
    obtain ⟨x_a_k, hx_x_a_k⟩ : ∃ x, a[k]? = some x := ⟨_, List.getElem?_eq_getElem (by omega)⟩
    obtain ⟨ha_x_a_k, hb_x_a_k, cs_x_a_k, hl_x_a_k, hh_x_a_k, hr_x_a_k⟩ := h_a.2.2 k x_a_k hx_x_a_k
    obtain rfl := hr_x_a_k
    refine GC.reg 8 [W (.slice (some ⟨(lo1 2), 0, none⟩) a.length a.length), W (.int .i64 (k : Int)), W (.slice a_a a.length c_a), W (.int .i64 (k : Int)), D (.pointer (some ⟨(ab a_a), ao a_a + k * 3, none⟩)), D (.agg #[.int .i64 x_a_k.To, .int .i64 x_a_k.Via, .int .i64 x_a_k.Push]), D (.agg #[.int .i64 x_a_k.To, .int .i64 x_a_k.Via, .int .i64 x_a_k.Push]), D (.pointer (some ⟨(lo1 2), 0 + k * 3, none⟩))] mixed (fun vs w => by kernel_rfl) (⟨fun vs lo hi wx hB hK => Out.idxS k rfl rfl (ltg hx_x_a_k) ha_x_a_k Try.underlying113 size_164, fun vs lo hi wx hB hK => Out.loadA rfl agg_164 size_164 ((hh_x_a_k.below hb_x_a_k (btr e5 hB)).sub 0 _ rfl), fun vs lo hi wx hB hK => Out.call (by kernel_rfl) (c_laws_toLabVia _ x_a_k ([.int .i64 x_a_k.To, .int .i64 x_a_k.Via, .int .i64 x_a_k.Push]) (show rpLabVia.rd _ _ _ from rfl)) (fun _ _ h => h), fun vs lo hi wx hB hK => Out.idx rfl rfl (by have := ltg hx_x_a_k; first | omega | (simp; omega)) Try.underlying88 size_119, trivial⟩) ?_
    rintro vs8 lo8 hi8 w8 hU8
    have e9 := btr e5 hU8.1
    replace hO7_0 := hO7_0.below hU8.1
    have hw10 := chg_trb hw6 hU8.1
    refine Rest.sub [(0, .slice a_a a.length c_a), (3, .slice (some ⟨(lo1 2), 0, none⟩) a.length a.length), (4, .int .i64 (k : Int)), (20, .agg #[.int .i64 x_a_k.To, .int .i64 x_a_k.Via, .int .i64 x_a_k.Push]), (21, .pointer (some ⟨(lo1 2), 0 + k * 3, none⟩))] (by kernel_rfl) ?_
    refine Rest.storeO k x_a_k [.int .i64 x_a_k.To, .int .i64 x_a_k.Via, .int .i64 x_a_k.Push] [] hO7_0 (by have := ltg hx_x_a_k; first | omega | (simp; omega)) rfl (Nat.zero_add _) rfl size_119 (⟨rfl, rfl⟩) (mem_nil) ?_
    intro w11 fp11 hC11 hO11 hs11
    have e12 := chg_below e9 (Nat.le_refl _) hC11 hlo7_0
    have hw13 := chg_trS hw10 hC11 hll7_0
    have hlo11 : ∀ b ∈ fp11, w.heap.size ≤ b := (fun b hb => (fun h => h.elim (hlo7_0 b) (fun h => (fun b h => by cases h) b h)) (hs11 b hb))
    have hll11 : ∀ b ∈ fp11, w1.heap.size ≤ b ∨ (fun b' : Nat => b' ∈ fp1_2) b := (fun b hb => (fun h => h.elim (hll7_0 b) (fun h => (fun b h => by cases h) b h)) (hs11 b hb))
    refine Rest.nil (GQ.sub [(0, .slice a_a a.length c_a), (3, .slice (some ⟨(lo1 2), 0, none⟩) a.length a.length), (4, .int .i64 (k : Int))] (by kernel_rfl) ?_)
    refine GQ.blockEnd ?_
    refine GQ.on ?_
    refine GC.reg 3 [W (.int .i64 (k : Int)), D (.int .i64 ((k : Int) + 1)), W (.int .i64 ((k : Int) + 1))] mixed (fun vs w => by kernel_rfl) (⟨fun vs lo hi wx hB hK => Out.add rfl rfl (by omega) (by omega), trivial⟩) ?_
    rintro vs14 lo14 hi14 w14 hU14
    have e15 := btr e12 hU14.1
    replace hO11 := hO11.below hU14.1
    have hw16 := chg_trb hw13 hU14.1
    refine Rest.nil (GQ.sub [(0, .slice a_a a.length c_a), (3, .slice (some ⟨(lo1 2), 0, none⟩) a.length a.length), (4, .int .i64 ((k : Int) + 1))] (by kernel_rfl) ?_)
    exact GQ.next (k + 1) (by kernel_rfl) ⟨hw16, ⟨_, set_take hx_x_a_k ▸ hO11, hlo11, hll11⟩, by have := ltg hx_x_a_k; omega⟩ (by have := ltg hx_x_a_k; omega)
  · skip
    have hc0' := hc0
    try simp at hc0'
    refine GC.exit ?_
    refine GQ.pass ?_
    refine GQ.pass ?_
    refine GQ.blockOut ?_
    refine GQ.on ?_
    refine GC.seq ?_
    refine GC.regW [W (.slice (some ⟨(lo1 2), 0, none⟩) a.length a.length), W (.slice (some ⟨(lo1 2), 0, none⟩) a.length a.length)] [(2, .slice (some ⟨(lo1 2), 0, none⟩) a.length a.length)] mixed rfl (fun vs w => by kernel_rfl) rfl (fun vs => by kernel_rfl) ?_
    refine GQ.on ?_
    refine GC.ret ?_
    refine GQ.ret1 (.slice (some ⟨(lo1 2), 0, none⟩) a.length a.length) rfl rfl ?_
    exact ⟨_, rfl, e5, FreshL.mk (rfl) (by have h := hO7_0; rwa [show k = a.length by omega, set_end] at h) hlo7_0⟩
/-- laws.toLabBox -/
theorem c_laws_toLabBox (w : World) (a : LabBox) (cs_a : List Value) (h_a : rpLabBox.rd w cs_a a) (hr : szN_LabBox a ≤ 1048576) :
    Calls Try.prog 98 #[.agg cs_a.toArray] w fun e w' => ∃ rv, e = .returned rv ∧ (Below w.heap.size w w' ∧ FreshS rpLabBox (a) rv w.heap.size w'.heap.size w') := by
  obtain ⟨a_a_Rows, c_a_Rows, a_a_Guards, c_a_Guards, rfl, h_a_Rows, h_a_Guards⟩ := h_a
  have lh_a_Rows := h_a_Rows.2.1
  have lh_a_Guards := h_a_Guards.2.1
  refine enter [(0, .agg #[.slice a_a_Rows a.Rows.length c_a_Rows, .slice a_a_Guards a.Guards.length c_a_Guards])] Try.func98 rfl (by kernel_rfl) (by kernel_rfl) ?_
  have e0 := brefl w
  have hr' : szN_LabRowS a.Rows + szN_LabViaS a.Guards ≤ 1048576 := hr
  refine GC.seq ?_
  refine GC.reg 2 [RB 0 115 [.slice a_a_Rows a.Rows.length c_a_Rows, .slice a_a_Guards a.Guards.length c_a_Guards], RB 1 90 [.slice none 0 0, .slice none 0 0]] mixed (fun vs w => by kernel_rfl) (⟨fun vs lo hi wx hB hK => Out.box rfl, fun vs lo hi wx hB hK => Out.alloc (z := .agg #[.slice none 0 0, .slice none 0 0]) (by kernel_rfl) rfl, trivial⟩) ?_
  rintro vs1 lo1 hi1 w1 hU1
  have e2 := btr e0 hU1.1
  obtain ⟨⟨hv1_0, hp1_0, hb1_0⟩, hl1_0, -, -⟩ := hU1.2.1 0 _ rfl trivial
  have hl1_0b := Nat.le_trans e0.size hl1_0
  obtain ⟨⟨hv1_1, hp1_1, hb1_1⟩, hl1_1, -, -⟩ := hU1.2.1 1 _ rfl trivial
  have hne3 := hU1.ne 0 1 rfl rfl trivial trivial (by decide) hp1_0 hp1_1
  have hl1_1b := Nat.le_trans e0.size hl1_1
  refine Rest.nil (GQ.sub [(1, .pointer (some ⟨(lo1 0), 0, none⟩)), (2, .pointer (some ⟨(lo1 1), 0, none⟩))] (by rw [← hv1_0, ← hv1_1]; kernel_rfl) ?_)
  refine GQ.on ?_
  refine GC.seq ?_
  refine GC.reg 1 [RB 0 90 [.slice none 0 0, .slice none 0 0]] mixed (fun vs w => by kernel_rfl) (⟨fun vs lo hi wx hB hK => Out.alloc (z := .agg #[.slice none 0 0, .slice none 0 0]) (by kernel_rfl) rfl, trivial⟩) ?_
  rintro vs4 lo4 hi4 w4 hU4
  have hlt5 := hb1_0.lt
  have hlt6 := hb1_1.lt
  have e7 := btr e2 hU4.1
  replace hb1_0 := hb1_0.to hU4.1
  replace hb1_1 := hb1_1.to hU4.1
  obtain ⟨⟨hv4_0, hp4_0, hb4_0⟩, hl4_0, -, -⟩ := hU4.2.1 0 _ rfl trivial
  have hne8 := Nat.ne_of_lt (Nat.lt_of_lt_of_le hlt5 hl4_0)
  have hne9 := Nat.ne_of_lt (Nat.lt_of_lt_of_le hlt6 hl4_0)
  have hl4_0b := Nat.le_trans e2.size hl4_0
  refine Rest.nil (GQ.sub [(1, .pointer (some ⟨(lo1 0), 0, none⟩)), (2, .pointer (some ⟨(lo1 1), 0, none⟩)), (3, .pointer (some ⟨(lo4 0), 0, none⟩))] (by rw [← hv4_0]; kernel_rfl) ?_)
  refine GQ.on ?_
  refine GC.seq ?_
  refine GC.reg 4 [W (.pointer (some ⟨(lo1 0), 0, none⟩)), D (.slice a_a_Rows a.Rows.length c_a_Rows), RFL 2 rpLabRow a.Rows, W (.pointer (some ⟨(lo4 0), 0, none⟩))] mixed (fun vs w => by kernel_rfl) (⟨fun vs lo hi wx hB hK => Out.load1 rfl agg_112 ((hb1_0.to hB).cell 0 _ rfl), fun vs lo hi wx hB hK => Out.call (by kernel_rfl) (c_laws_toLabRowS _ a_a_Rows c_a_Rows a.Rows (h_a_Rows.below (btr e7 hB)) (by first | assumption | omega)) (fun _ _ h => h), trivial⟩) ?_
  rintro vs10 lo10 hi10 w10 hU10
  have hlt11 := hb1_0.lt
  have hlt12 := hb1_1.lt
  have hlt13 := hb4_0.lt
  have e14 := btr e7 hU10.1
  replace hb1_0 := hb1_0.to hU10.1
  replace hb1_1 := hb1_1.to hU10.1
  replace hb4_0 := hb4_0.to hU10.1
  obtain ⟨⟨a10_2, c10_2, fp10_2, hv10_2, hO10_2, hf10_2⟩, hl10_2, -, -⟩ := hU10.2.1 2 _ rfl trivial
  have hsp15 := sep_lo hf10_2 (Nat.lt_of_lt_of_le hlt11 hl10_2)
  have hsp16 := sep_lo hf10_2 (Nat.lt_of_lt_of_le hlt12 hl10_2)
  have hsp17 := sep_lo hf10_2 (Nat.lt_of_lt_of_le hlt13 hl10_2)
  have hl10_2b := Nat.le_trans e7.size hl10_2
  have hlo18 := low_of hf10_2 hl10_2b
  refine Rest.sub [(1, .pointer (some ⟨(lo1 0), 0, none⟩)), (2, .pointer (some ⟨(lo1 1), 0, none⟩)), (3, .pointer (some ⟨(lo4 0), 0, none⟩)), (6, .slice a10_2 a.Rows.length c10_2), (7, .pointer (some ⟨(lo4 0), 0, none⟩))] (by rw [← hv10_2]; kernel_rfl) ?_
  refine Rest.store [.slice a10_2 a.Rows.length c10_2] [.slice a10_2 a.Rows.length c10_2, .slice none 0 0] rfl rfl hb4_0 size_87 rfl rfl rfl ?_
  intro w19 hC20 hb21
  have e22 := bchg1 e14 (Nat.le_refl _) hC20 hl4_0b
  replace hb1_0 := hb1_0.chg hC20 hne8
  replace hb1_1 := hb1_1.chg hC20 hne9
  replace hO10_2 := hO10_2.chg hC20 hsp17
  refine Rest.nil (GQ.sub [(1, .pointer (some ⟨(lo1 0), 0, none⟩)), (2, .pointer (some ⟨(lo1 1), 0, none⟩)), (3, .pointer (some ⟨(lo4 0), 0, none⟩))] (by kernel_rfl) ?_)
  refine GQ.on ?_
  refine GC.seq ?_
  refine GC.reg 4 [W (.pointer (some ⟨(lo1 0), 1, none⟩)), D (.slice a_a_Guards a.Guards.length c_a_Guards), RFL 2 rpLabVia a.Guards, W (.pointer (some ⟨(lo4 0), 1, none⟩))] mixed (fun vs w => by kernel_rfl) (⟨fun vs lo hi wx hB hK => Out.load1 rfl agg_113 ((hb1_0.to hB).cell 1 _ rfl), fun vs lo hi wx hB hK => Out.call (by kernel_rfl) (c_laws_toLabViaS _ a_a_Guards c_a_Guards a.Guards (h_a_Guards.below (btr e22 hB)) (by first | assumption | omega)) (fun _ _ h => h), trivial⟩) ?_
  rintro vs23 lo23 hi23 w23 hU23
  have hlt24 := hb1_0.lt
  have hlt25 := hb1_1.lt
  have hlt26 := hb21.lt
  have hlt27 := hO10_2.lt
  have e28 := btr e22 hU23.1
  replace hb1_0 := hb1_0.to hU23.1
  replace hb1_1 := hb1_1.to hU23.1
  replace hb21 := hb21.to hU23.1
  replace hO10_2 := hO10_2.below hU23.1
  obtain ⟨⟨a23_2, c23_2, fp23_2, hv23_2, hO23_2, hf23_2⟩, hl23_2, -, -⟩ := hU23.2.1 2 _ rfl trivial
  have hsp29 := sep_lo hf23_2 (Nat.lt_of_lt_of_le hlt24 hl23_2)
  have hsp30 := sep_lo hf23_2 (Nat.lt_of_lt_of_le hlt25 hl23_2)
  have hsp31 := sep_lo hf23_2 (Nat.lt_of_lt_of_le hlt26 hl23_2)
  have hds32 := dis_new hlt27 hf23_2 hl23_2
  have hl23_2b := Nat.le_trans e22.size hl23_2
  have hlo33 := low_of hf23_2 hl23_2b
  refine Rest.sub [(2, .pointer (some ⟨(lo1 1), 0, none⟩)), (3, .pointer (some ⟨(lo4 0), 0, none⟩)), (10, .slice a23_2 a.Guards.length c23_2), (11, .pointer (some ⟨(lo4 0), 1, none⟩))] (by rw [← hv23_2]; kernel_rfl) ?_
  refine Rest.store [.slice a23_2 a.Guards.length c23_2] [.slice a10_2 a.Rows.length c10_2, .slice a23_2 a.Guards.length c23_2] rfl rfl hb21 size_88 rfl rfl rfl ?_
  intro w34 hC35 hb36
  have e37 := bchg1 e28 (Nat.le_refl _) hC35 hl4_0b
  replace hb1_0 := hb1_0.chg hC35 hne8
  replace hb1_1 := hb1_1.chg hC35 hne9
  replace hO10_2 := hO10_2.chg hC35 hsp17
  replace hO23_2 := hO23_2.chg hC35 hsp31
  refine Rest.nil (GQ.sub [(2, .pointer (some ⟨(lo1 1), 0, none⟩)), (3, .pointer (some ⟨(lo4 0), 0, none⟩))] (by kernel_rfl) ?_)
  refine GQ.on ?_
  refine GC.seq ?_
  refine GC.reg 1 [D (.agg #[.slice a10_2 a.Rows.length c10_2, .slice a23_2 a.Guards.length c23_2])] mixed (fun vs w => by kernel_rfl) (⟨fun vs lo hi wx hB hK => Out.loadA rfl agg_90 size_90 ((hb36.to hB).has 0 _ rfl), trivial⟩) ?_
  rintro vs38 lo38 hi38 w38 hU38
  have e39 := btr e37 hU38.1
  replace hb1_0 := hb1_0.to hU38.1
  replace hb1_1 := hb1_1.to hU38.1
  replace hb36 := hb36.to hU38.1
  replace hO10_2 := hO10_2.below hU38.1
  replace hO23_2 := hO23_2.below hU38.1
  refine Rest.sub [(2, .pointer (some ⟨(lo1 1), 0, none⟩)), (12, .agg #[.slice a10_2 a.Rows.length c10_2, .slice a23_2 a.Guards.length c23_2])] (by kernel_rfl) ?_
  refine Rest.store [.slice a10_2 a.Rows.length c10_2, .slice a23_2 a.Guards.length c23_2] [.slice a10_2 a.Rows.length c10_2, .slice a23_2 a.Guards.length c23_2] rfl rfl hb1_1 size_90 rfl rfl rfl ?_
  intro w40 hC41 hb42
  have e43 := bchg1 e39 (Nat.le_refl _) hC41 hl1_1b
  replace hb1_0 := hb1_0.chg hC41 hne3
  replace hb36 := hb36.chg hC41 (Ne.symm hne9)
  replace hO10_2 := hO10_2.chg hC41 hsp16
  replace hO23_2 := hO23_2.chg hC41 hsp30
  refine Rest.nil (GQ.sub [(2, .pointer (some ⟨(lo1 1), 0, none⟩))] (by kernel_rfl) ?_)
  refine GQ.on ?_
  refine GC.ret ?_
  refine GQ.ret1 (.agg #[.slice a10_2 a.Rows.length c10_2, .slice a23_2 a.Guards.length c23_2]) rfl ⟨_, rfl, run_loadA agg_90 size_90 (hb42.has 0 _ rfl)⟩ ?_
  exact ⟨_, rfl, e43, FreshS.mk (r := rpLabBox) (x := a) ⟨_, _, _, _, _, _, rfl, hO10_2, hO23_2, rfl, (nd_app (SlO.nd hO10_2) (SlO.nd hO23_2) (dis_comm hds32))⟩ (low_app hlo18 hlo33)⟩
/-- laws.toLabBoxS -/
theorem c_laws_toLabBoxS (w : World) (a_a : Option Addr) (c_a : Nat) (a : List LabBox) (h_a : SlR rpLabBox w a_a c_a a) (hr : szN_LabBoxS a ≤ 1048576) :
    Calls Try.prog 61 #[.slice a_a a.length c_a] w fun e w' => ∃ rv, e = .returned rv ∧ (Below w.heap.size w w' ∧ FreshL rpLabBox (a : List LabBox) rv w.heap.size w'.heap.size w') := by
  refine enter [(0, .slice a_a a.length c_a)] Try.func61 rfl (by kernel_rfl) (by kernel_rfl) ?_
  have e0 := brefl w
  have hr' : a.length + szSum szN_LabBox a ≤ 1048576 := hr
  refine GC.seq ?_
  refine GC.regW [W (.slice none 0 0)] [(0, .slice a_a a.length c_a)] mixed rfl (fun vs w => by kernel_rfl) rfl (fun vs => by kernel_rfl) ?_
  refine GQ.on ?_
  refine GC.seq ?_
  refine GC.reg 4 [W (.slice a_a a.length c_a), W (.int .i64 (a.length : Int)), RM 2 rpLabBox (⟨[], []⟩ : LabBox) a.length, WR [2] (fun l => l.headD undef)] mixed (fun vs w => by kernel_rfl) (⟨fun vs lo hi wx hB hK => Out.make (by' := 48) rpLabBox (⟨[], []⟩ : LabBox) (zv := .agg #[.slice none 0 0, .slice none 0 0]) rfl rfl Try.underlying25 (by kernel_rfl) (⟨none, 0, [], none, 0, [], rfl, SlO.nil _ _, SlO.nil _ _, rfl, List.nodup_nil⟩) (by decide) (by omega) (by omega), trivial⟩) ?_
  rintro vs1 lo1 hi1 w1 hU1
  have e2 := btr e0 hU1.1
  obtain ⟨⟨hv1_2, hp1_2, fp1_2, hO1_2, hf1_2⟩, hl1_2, -, -⟩ := hU1.2.1 2 _ rfl trivial
  have hl1_2b := Nat.le_trans e0.size hl1_2
  have hlo3 := low_of hf1_2 hl1_2b
  refine Rest.nil (GQ.sub [(0, .slice a_a a.length c_a), (3, .slice (some ⟨(lo1 2), 0, none⟩) a.length a.length)] (by rw [← hv1_2]; kernel_rfl) ?_)
  refine GQ.on ?_
  refine GC.seq ?_
  refine GC.seq ?_
  refine GC.regW [W (.int .i64 0)] [(0, .slice a_a a.length c_a), (3, .slice (some ⟨(lo1 2), 0, none⟩) a.length a.length), (4, .int .i64 0)] mixed rfl (fun vs w => by kernel_rfl) rfl (fun vs => by kernel_rfl) ?_
  refine GQ.on ?_
  refine GC.block ?_
  refine GC.loop (ι := Nat) (fun k => [(0, .slice a_a a.length c_a), (3, .slice (some ⟨(lo1 2), 0, none⟩) a.length a.length), (4, .int .i64 (k : Int))]) (fun k w' => Chg (fun b' : Nat => b' ∈ fp1_2) w1 w' ∧ (∃ fpq0, SlO rpLabBox w' (some ⟨(lo1 2), 0, none⟩) a.length (a.take k ++ List.replicate (a.length - k) (⟨[], []⟩ : LabBox)) fpq0 ∧ (∀ b' ∈ fpq0, w.heap.size ≤ b') ∧ (∀ b' ∈ fpq0, w1.heap.size ≤ b' ∨ (fun b' : Nat => b' ∈ fp1_2) b')) ∧ (k ≤ a.length)) (fun k => a.length - k) 0 (by kernel_rfl) ⟨chg_refl _ _, ⟨_, (set_start a (⟨[], []⟩ : LabBox)).symm ▸ hO1_2, hlo3, (fun b hb => .inr (hb))⟩, by omega⟩ ?_
  rintro k w4 ⟨hw6, ⟨fp7_0, hO7_0, hlo7_0, hll7_0⟩, hi0_0⟩
  have e5 := chg_below e2 (Nat.le_refl _) hw6 (fun k h => ((fun h => hlo3 k h)) h)
  refine GC.seq ?_
  refine GC.seq ?_
  refine GC.regW [W (.int .i64 (k : Int)), W (.slice a_a a.length c_a), W (.int .i64 (a.length : Int)), W (.bool (decide ((k : Int) < (a.length : Int))))] [(0, .slice a_a a.length c_a), (3, .slice (some ⟨(lo1 2), 0, none⟩) a.length a.length), (4, .int .i64 (k : Int)), (11, .bool (decide ((k : Int) < (a.length : Int))))] mixed rfl (fun vs w => by kernel_rfl) rfl (fun vs => by kernel_rfl) ?_
  refine GQ.on ?_
  refine GC.cond (decide ((k : Int) < (a.length : Int))) rfl (fun hc0 => ?_) (fun hc0 => ?_)
  · skip
    have hc0' := hc0
    try simp at hc0'
    refine GC.skip ?_
    refine GQ.on ?_
    refine GC.seq ?_
    refine GC.block ?_
    obtain ⟨x_a_k, hx_x_a_k⟩ : ∃ x, a[k]? = some x := ⟨_, List.getElem?_eq_getElem (by omega)⟩
    obtain ⟨ha_x_a_k, hb_x_a_k, cs_x_a_k, hl_x_a_k, hh_x_a_k, hr_x_a_k⟩ := h_a.2.2 k x_a_k hx_x_a_k
    obtain ⟨a_x_a_k_Rows, c_x_a_k_Rows, a_x_a_k_Guards, c_x_a_k_Guards, rfl, h_x_a_k_Rows, h_x_a_k_Guards⟩ := hr_x_a_k
    have lh_x_a_k_Rows := h_x_a_k_Rows.2.1
    have lh_x_a_k_Guards := h_x_a_k_Guards.2.1
    have hsz := szSum_get (f := szN_LabBox) hx_x_a_k
    refine GC.reg 8 [W (.slice (some ⟨(lo1 2), 0, none⟩) a.length a.length), W (.int .i64 (k : Int)), W (.slice a_a a.length c_a), W (.int .i64 (k : Int)), D (.pointer (some ⟨(ab a_a), ao a_a + k * 2, none⟩)), D (.agg #[.slice a_x_a_k_Rows x_a_k.Rows.length c_x_a_k_Rows, .slice a_x_a_k_Guards x_a_k.Guards.length c_x_a_k_Guards]), RFS 6 rpLabBox x_a_k, D (.pointer (some ⟨(lo1 2), 0 + k * 2, none⟩))] mixed (fun vs w => by kernel_rfl) (⟨fun vs lo hi wx hB hK => Out.idxS k rfl rfl (ltg hx_x_a_k) ha_x_a_k Try.underlying36 size_115, fun vs lo hi wx hB hK => Out.loadA rfl agg_115 size_115 ((hh_x_a_k.below hb_x_a_k (btr e5 hB)).sub 0 _ rfl), fun vs lo hi wx hB hK => Out.call (by kernel_rfl) (c_laws_toLabBox _ x_a_k ([.slice a_x_a_k_Rows x_a_k.Rows.length c_x_a_k_Rows, .slice a_x_a_k_Guards x_a_k.Guards.length c_x_a_k_Guards]) (show rpLabBox.rd _ _ _ from ⟨_, _, _, _, rfl, h_x_a_k_Rows.below (btr e5 hB), h_x_a_k_Guards.below (btr e5 hB)⟩) (by first | assumption | omega)) (fun _ _ h => h), fun vs lo hi wx hB hK => Out.idx rfl rfl (by have := ltg hx_x_a_k; first | omega | (simp; omega)) Try.underlying25 size_90, trivial⟩) ?_
    rintro vs8 lo8 hi8 w8 hU8
    have hlt9 := hO7_0.lt
    have e10 := btr e5 hU8.1
    replace hO7_0 := hO7_0.below hU8.1
    have hw11 := chg_trb hw6 hU8.1
    obtain ⟨⟨cs8_6, fp8_6, hv8_6, hO8_6, hf8_6⟩, hl8_6, -, -⟩ := hU8.2.1 6 _ rfl trivial
    have s8_6 := hO8_6
    obtain ⟨a8_6_0, c8_6_0, f8_6_0, a8_6_1, c8_6_1, f8_6_1, rfl, hO8_6_0, hO8_6_1, hfq8_6, hnd8_6⟩ := hO8_6
    subst hfq8_6
    have hf8_6_0 := (low_l hf8_6)
    have hf8_6_1 := (low_r hf8_6)
    have hds12 := dis_new hlt9 hf8_6_0 hl8_6
    have hds13 := dis_new hlt9 hf8_6_1 hl8_6
    have hds14 := dis_new hlt9 hf8_6 hl8_6
    have hl8_6w := Nat.le_trans hw6.size hl8_6
    have hl8_6b := Nat.le_trans e5.size hl8_6
    have hlo15 := low_of hf8_6_0 hl8_6b
    have hlo16 := low_of hf8_6_1 hl8_6b
    have hlo17 := low_of hf8_6 hl8_6b
    refine Rest.sub [(0, .slice a_a a.length c_a), (3, .slice (some ⟨(lo1 2), 0, none⟩) a.length a.length), (4, .int .i64 (k : Int)), (20, .agg #[.slice a8_6_0 x_a_k.Rows.length c8_6_0, .slice a8_6_1 x_a_k.Guards.length c8_6_1]), (21, .pointer (some ⟨(lo1 2), 0 + k * 2, none⟩))] (by rw [← hv8_6]; kernel_rfl) ?_
    refine Rest.storeO k x_a_k [.slice a8_6_0 x_a_k.Rows.length c8_6_0, .slice a8_6_1 x_a_k.Guards.length c8_6_1] (f8_6_0 ++ f8_6_1) hO7_0 (by have := ltg hx_x_a_k; first | omega | (simp; omega)) rfl (Nat.zero_add _) rfl size_90 (s8_6) (hds14) ?_
    intro w18 fp18 hC18 hO18 hs18
    have e19 := chg_below e10 (Nat.le_refl _) hC18 hlo7_0
    have hw20 := chg_trS hw11 hC18 hll7_0
    replace hO8_6_0 := hO8_6_0.chg hC18 hds12
    replace hO8_6_1 := hO8_6_1.chg hC18 hds13
    replace s8_6 := Rp.own_chg (r := rpLabBox) s8_6 hC18 hds14
    have hlo18 : ∀ b ∈ fp18, w.heap.size ≤ b := (fun b hb => (fun h => h.elim (hlo7_0 b) (fun h => hlo17 b h)) (hs18 b hb))
    have hll18 : ∀ b ∈ fp18, w1.heap.size ≤ b ∨ (fun b' : Nat => b' ∈ fp1_2) b := (fun b hb => (fun h => h.elim (hll7_0 b) (fun h => (low_ofl hf8_6 hl8_6w) b h)) (hs18 b hb))
    refine Rest.nil (GQ.sub [(0, .slice a_a a.length c_a), (3, .slice (some ⟨(lo1 2), 0, none⟩) a.length a.length), (4, .int .i64 (k : Int))] (by kernel_rfl) ?_)
    refine GQ.blockEnd ?_
    refine GQ.on ?_
    refine GC.reg 3 [W (.int .i64 (k : Int)), D (.int .i64 ((k : Int) + 1)), W (.int .i64 ((k : Int) + 1))] mixed (fun vs w => by kernel_rfl) (⟨fun vs lo hi wx hB hK => Out.add rfl rfl (by omega) (by omega), trivial⟩) ?_
    rintro vs21 lo21 hi21 w21 hU21
    have e22 := btr e19 hU21.1
    replace hO18 := hO18.below hU21.1
    replace hO8_6_0 := hO8_6_0.below hU21.1
    replace hO8_6_1 := hO8_6_1.below hU21.1
    have hw23 := chg_trb hw20 hU21.1
    refine Rest.nil (GQ.sub [(0, .slice a_a a.length c_a), (3, .slice (some ⟨(lo1 2), 0, none⟩) a.length a.length), (4, .int .i64 ((k : Int) + 1))] (by kernel_rfl) ?_)
    exact GQ.next (k + 1) (by kernel_rfl) ⟨hw23, ⟨_, set_take hx_x_a_k ▸ hO18, hlo18, hll18⟩, by have := ltg hx_x_a_k; omega⟩ (by have := ltg hx_x_a_k; omega)
  · skip
    have hc0' := hc0
    try simp at hc0'
    refine GC.exit ?_
    refine GQ.pass ?_
    refine GQ.pass ?_
    refine GQ.blockOut ?_
    refine GQ.on ?_
    refine GC.seq ?_
    refine GC.regW [W (.slice (some ⟨(lo1 2), 0, none⟩) a.length a.length), W (.slice (some ⟨(lo1 2), 0, none⟩) a.length a.length)] [(2, .slice (some ⟨(lo1 2), 0, none⟩) a.length a.length)] mixed rfl (fun vs w => by kernel_rfl) rfl (fun vs => by kernel_rfl) ?_
    refine GQ.on ?_
    refine GC.ret ?_
    refine GQ.ret1 (.slice (some ⟨(lo1 2), 0, none⟩) a.length a.length) rfl rfl ?_
    exact ⟨_, rfl, e5, FreshL.mk (rfl) (by have h := hO7_0; rwa [show k = a.length by omega, set_end] at h) hlo7_0⟩
/-- laws.toLabNet -/
theorem c_laws_toLabNet (w : World) (a : LabNet) (cs_a : List Value) (h_a : rpLabNet.rd w cs_a a) (hr : szN_LabNet a ≤ 1048576) :
    Calls Try.prog 23 #[.agg cs_a.toArray] w fun e w' => ∃ rv, e = .returned rv ∧ (Below w.heap.size w w' ∧ FreshS rpLabNet (a) rv w.heap.size w'.heap.size w') := by
  obtain ⟨a_a_Links, c_a_Links, a_a_Boxes, c_a_Boxes, rfl, h_a_Links, h_a_Boxes⟩ := h_a
  have lh_a_Links := h_a_Links.2.1
  have lh_a_Boxes := h_a_Boxes.2.1
  refine enter [(0, .agg #[.slice a_a_Links a.Links.length c_a_Links, .slice a_a_Boxes a.Boxes.length c_a_Boxes])] Try.func23 rfl (by kernel_rfl) (by kernel_rfl) ?_
  have e0 := brefl w
  have hr' : szN_LabLinkS a.Links + szN_LabBoxS a.Boxes ≤ 1048576 := hr
  refine GC.seq ?_
  refine GC.reg 2 [RB 0 38 [.slice a_a_Links a.Links.length c_a_Links, .slice a_a_Boxes a.Boxes.length c_a_Boxes], RB 1 27 [.slice none 0 0, .slice none 0 0]] mixed (fun vs w => by kernel_rfl) (⟨fun vs lo hi wx hB hK => Out.box rfl, fun vs lo hi wx hB hK => Out.alloc (z := .agg #[.slice none 0 0, .slice none 0 0]) (by kernel_rfl) rfl, trivial⟩) ?_
  rintro vs1 lo1 hi1 w1 hU1
  have e2 := btr e0 hU1.1
  obtain ⟨⟨hv1_0, hp1_0, hb1_0⟩, hl1_0, -, -⟩ := hU1.2.1 0 _ rfl trivial
  have hl1_0b := Nat.le_trans e0.size hl1_0
  obtain ⟨⟨hv1_1, hp1_1, hb1_1⟩, hl1_1, -, -⟩ := hU1.2.1 1 _ rfl trivial
  have hne3 := hU1.ne 0 1 rfl rfl trivial trivial (by decide) hp1_0 hp1_1
  have hl1_1b := Nat.le_trans e0.size hl1_1
  refine Rest.nil (GQ.sub [(1, .pointer (some ⟨(lo1 0), 0, none⟩)), (2, .pointer (some ⟨(lo1 1), 0, none⟩))] (by rw [← hv1_0, ← hv1_1]; kernel_rfl) ?_)
  refine GQ.on ?_
  refine GC.seq ?_
  refine GC.reg 1 [RB 0 27 [.slice none 0 0, .slice none 0 0]] mixed (fun vs w => by kernel_rfl) (⟨fun vs lo hi wx hB hK => Out.alloc (z := .agg #[.slice none 0 0, .slice none 0 0]) (by kernel_rfl) rfl, trivial⟩) ?_
  rintro vs4 lo4 hi4 w4 hU4
  have hlt5 := hb1_0.lt
  have hlt6 := hb1_1.lt
  have e7 := btr e2 hU4.1
  replace hb1_0 := hb1_0.to hU4.1
  replace hb1_1 := hb1_1.to hU4.1
  obtain ⟨⟨hv4_0, hp4_0, hb4_0⟩, hl4_0, -, -⟩ := hU4.2.1 0 _ rfl trivial
  have hne8 := Nat.ne_of_lt (Nat.lt_of_lt_of_le hlt5 hl4_0)
  have hne9 := Nat.ne_of_lt (Nat.lt_of_lt_of_le hlt6 hl4_0)
  have hl4_0b := Nat.le_trans e2.size hl4_0
  refine Rest.nil (GQ.sub [(1, .pointer (some ⟨(lo1 0), 0, none⟩)), (2, .pointer (some ⟨(lo1 1), 0, none⟩)), (3, .pointer (some ⟨(lo4 0), 0, none⟩))] (by rw [← hv4_0]; kernel_rfl) ?_)
  refine GQ.on ?_
  refine GC.seq ?_
  refine GC.reg 4 [W (.pointer (some ⟨(lo1 0), 0, none⟩)), D (.slice a_a_Links a.Links.length c_a_Links), RFL 2 rpLabLink a.Links, W (.pointer (some ⟨(lo4 0), 0, none⟩))] mixed (fun vs w => by kernel_rfl) (⟨fun vs lo hi wx hB hK => Out.load1 rfl agg_22 ((hb1_0.to hB).cell 0 _ rfl), fun vs lo hi wx hB hK => Out.call (by kernel_rfl) (c_laws_toLabLinkS _ a_a_Links c_a_Links a.Links (h_a_Links.below (btr e7 hB)) (by first | assumption | omega)) (fun _ _ h => h), trivial⟩) ?_
  rintro vs10 lo10 hi10 w10 hU10
  have hlt11 := hb1_0.lt
  have hlt12 := hb1_1.lt
  have hlt13 := hb4_0.lt
  have e14 := btr e7 hU10.1
  replace hb1_0 := hb1_0.to hU10.1
  replace hb1_1 := hb1_1.to hU10.1
  replace hb4_0 := hb4_0.to hU10.1
  obtain ⟨⟨a10_2, c10_2, fp10_2, hv10_2, hO10_2, hf10_2⟩, hl10_2, -, -⟩ := hU10.2.1 2 _ rfl trivial
  have hsp15 := sep_lo hf10_2 (Nat.lt_of_lt_of_le hlt11 hl10_2)
  have hsp16 := sep_lo hf10_2 (Nat.lt_of_lt_of_le hlt12 hl10_2)
  have hsp17 := sep_lo hf10_2 (Nat.lt_of_lt_of_le hlt13 hl10_2)
  have hl10_2b := Nat.le_trans e7.size hl10_2
  have hlo18 := low_of hf10_2 hl10_2b
  refine Rest.sub [(1, .pointer (some ⟨(lo1 0), 0, none⟩)), (2, .pointer (some ⟨(lo1 1), 0, none⟩)), (3, .pointer (some ⟨(lo4 0), 0, none⟩)), (6, .slice a10_2 a.Links.length c10_2), (7, .pointer (some ⟨(lo4 0), 0, none⟩))] (by rw [← hv10_2]; kernel_rfl) ?_
  refine Rest.store [.slice a10_2 a.Links.length c10_2] [.slice a10_2 a.Links.length c10_2, .slice none 0 0] rfl rfl hb4_0 size_24 rfl rfl rfl ?_
  intro w19 hC20 hb21
  have e22 := bchg1 e14 (Nat.le_refl _) hC20 hl4_0b
  replace hb1_0 := hb1_0.chg hC20 hne8
  replace hb1_1 := hb1_1.chg hC20 hne9
  replace hO10_2 := hO10_2.chg hC20 hsp17
  refine Rest.nil (GQ.sub [(1, .pointer (some ⟨(lo1 0), 0, none⟩)), (2, .pointer (some ⟨(lo1 1), 0, none⟩)), (3, .pointer (some ⟨(lo4 0), 0, none⟩))] (by kernel_rfl) ?_)
  refine GQ.on ?_
  refine GC.seq ?_
  refine GC.reg 4 [W (.pointer (some ⟨(lo1 0), 1, none⟩)), D (.slice a_a_Boxes a.Boxes.length c_a_Boxes), RFL 2 rpLabBox a.Boxes, W (.pointer (some ⟨(lo4 0), 1, none⟩))] mixed (fun vs w => by kernel_rfl) (⟨fun vs lo hi wx hB hK => Out.load1 rfl agg_36 ((hb1_0.to hB).cell 1 _ rfl), fun vs lo hi wx hB hK => Out.call (by kernel_rfl) (c_laws_toLabBoxS _ a_a_Boxes c_a_Boxes a.Boxes (h_a_Boxes.below (btr e22 hB)) (by first | assumption | omega)) (fun _ _ h => h), trivial⟩) ?_
  rintro vs23 lo23 hi23 w23 hU23
  have hlt24 := hb1_0.lt
  have hlt25 := hb1_1.lt
  have hlt26 := hb21.lt
  have hlt27 := hO10_2.lt
  have e28 := btr e22 hU23.1
  replace hb1_0 := hb1_0.to hU23.1
  replace hb1_1 := hb1_1.to hU23.1
  replace hb21 := hb21.to hU23.1
  replace hO10_2 := hO10_2.below hU23.1
  obtain ⟨⟨a23_2, c23_2, fp23_2, hv23_2, hO23_2, hf23_2⟩, hl23_2, -, -⟩ := hU23.2.1 2 _ rfl trivial
  have hsp29 := sep_lo hf23_2 (Nat.lt_of_lt_of_le hlt24 hl23_2)
  have hsp30 := sep_lo hf23_2 (Nat.lt_of_lt_of_le hlt25 hl23_2)
  have hsp31 := sep_lo hf23_2 (Nat.lt_of_lt_of_le hlt26 hl23_2)
  have hds32 := dis_new hlt27 hf23_2 hl23_2
  have hl23_2b := Nat.le_trans e22.size hl23_2
  have hlo33 := low_of hf23_2 hl23_2b
  refine Rest.sub [(2, .pointer (some ⟨(lo1 1), 0, none⟩)), (3, .pointer (some ⟨(lo4 0), 0, none⟩)), (10, .slice a23_2 a.Boxes.length c23_2), (11, .pointer (some ⟨(lo4 0), 1, none⟩))] (by rw [← hv23_2]; kernel_rfl) ?_
  refine Rest.store [.slice a23_2 a.Boxes.length c23_2] [.slice a10_2 a.Links.length c10_2, .slice a23_2 a.Boxes.length c23_2] rfl rfl hb21 size_25 rfl rfl rfl ?_
  intro w34 hC35 hb36
  have e37 := bchg1 e28 (Nat.le_refl _) hC35 hl4_0b
  replace hb1_0 := hb1_0.chg hC35 hne8
  replace hb1_1 := hb1_1.chg hC35 hne9
  replace hO10_2 := hO10_2.chg hC35 hsp17
  replace hO23_2 := hO23_2.chg hC35 hsp31
  refine Rest.nil (GQ.sub [(2, .pointer (some ⟨(lo1 1), 0, none⟩)), (3, .pointer (some ⟨(lo4 0), 0, none⟩))] (by kernel_rfl) ?_)
  refine GQ.on ?_
  refine GC.seq ?_
  refine GC.reg 1 [D (.agg #[.slice a10_2 a.Links.length c10_2, .slice a23_2 a.Boxes.length c23_2])] mixed (fun vs w => by kernel_rfl) (⟨fun vs lo hi wx hB hK => Out.loadA rfl agg_27 size_27 ((hb36.to hB).has 0 _ rfl), trivial⟩) ?_
  rintro vs38 lo38 hi38 w38 hU38
  have e39 := btr e37 hU38.1
  replace hb1_0 := hb1_0.to hU38.1
  replace hb1_1 := hb1_1.to hU38.1
  replace hb36 := hb36.to hU38.1
  replace hO10_2 := hO10_2.below hU38.1
  replace hO23_2 := hO23_2.below hU38.1
  refine Rest.sub [(2, .pointer (some ⟨(lo1 1), 0, none⟩)), (12, .agg #[.slice a10_2 a.Links.length c10_2, .slice a23_2 a.Boxes.length c23_2])] (by kernel_rfl) ?_
  refine Rest.store [.slice a10_2 a.Links.length c10_2, .slice a23_2 a.Boxes.length c23_2] [.slice a10_2 a.Links.length c10_2, .slice a23_2 a.Boxes.length c23_2] rfl rfl hb1_1 size_27 rfl rfl rfl ?_
  intro w40 hC41 hb42
  have e43 := bchg1 e39 (Nat.le_refl _) hC41 hl1_1b
  replace hb1_0 := hb1_0.chg hC41 hne3
  replace hb36 := hb36.chg hC41 (Ne.symm hne9)
  replace hO10_2 := hO10_2.chg hC41 hsp16
  replace hO23_2 := hO23_2.chg hC41 hsp30
  refine Rest.nil (GQ.sub [(2, .pointer (some ⟨(lo1 1), 0, none⟩))] (by kernel_rfl) ?_)
  refine GQ.on ?_
  refine GC.ret ?_
  refine GQ.ret1 (.agg #[.slice a10_2 a.Links.length c10_2, .slice a23_2 a.Boxes.length c23_2]) rfl ⟨_, rfl, run_loadA agg_27 size_27 (hb42.has 0 _ rfl)⟩ ?_
  exact ⟨_, rfl, e43, FreshS.mk (r := rpLabNet) (x := a) ⟨_, _, _, _, _, _, rfl, hO10_2, hO23_2, rfl, (nd_app (SlO.nd hO10_2) (SlO.nd hO23_2) (dis_comm hds32))⟩ (low_app hlo18 hlo33)⟩
/-- laws.eqLabLink -/
theorem c_laws_eqLabLink (w : World) (a : LabLink) (cs_a : List Value) (h_a : rpLabLink.rd w cs_a a) (b : LabLink) (cs_b : List Value) (h_b : rpLabLink.rd w cs_b b) :
    Calls Try.prog 55 #[.agg cs_a.toArray, .agg cs_b.toArray] w fun e w' => ∃ rv, e = .returned rv ∧ (rv = .bool (decide (a = b)) ∧ Below w.heap.size w w') := by
  obtain rfl := h_a
  obtain rfl := h_b
  refine enter [(0, .agg #[.int .i64 a.A, .int .i64 a.B]), (1, .agg #[.int .i64 b.A, .int .i64 b.B])] Try.func55 rfl (by kernel_rfl) (by kernel_rfl) ?_
  have e0 := brefl w
  refine GC.seq ?_
  refine GC.reg 3 [RB 0 72 [.int .i64 a.A, .int .i64 a.B], RB 1 72 [.int .i64 b.A, .int .i64 b.B], W (.bool false)] mixed (fun vs w => by kernel_rfl) (⟨fun vs lo hi wx hB hK => Out.box rfl, fun vs lo hi wx hB hK => Out.box rfl, trivial⟩) ?_
  rintro vs1 lo1 hi1 w1 hU1
  have e2 := btr e0 hU1.1
  obtain ⟨⟨hv1_0, hp1_0, hb1_0⟩, hl1_0, -, -⟩ := hU1.2.1 0 _ rfl trivial
  have hl1_0b := Nat.le_trans e0.size hl1_0
  obtain ⟨⟨hv1_1, hp1_1, hb1_1⟩, hl1_1, -, -⟩ := hU1.2.1 1 _ rfl trivial
  have hne3 := hU1.ne 0 1 rfl rfl trivial trivial (by decide) hp1_0 hp1_1
  have hl1_1b := Nat.le_trans e0.size hl1_1
  refine Rest.nil (GQ.sub [(2, .pointer (some ⟨(lo1 0), 0, none⟩)), (3, .pointer (some ⟨(lo1 1), 0, none⟩))] (by rw [← hv1_0, ← hv1_1]; kernel_rfl) ?_)
  refine GQ.on ?_
  refine GC.seq ?_
  refine GC.seq ?_
  refine GC.reg 5 [W (.pointer (some ⟨(lo1 0), 0, none⟩)), D (.int .i64 a.A), W (.pointer (some ⟨(lo1 1), 0, none⟩)), D (.int .i64 b.A), W (.bool (a.A != b.A))] mixed (fun vs w => by kernel_rfl) (⟨fun vs lo hi wx hB hK => Out.load1 rfl agg_3 ((hb1_0.to hB).cell 0 _ rfl), fun vs lo hi wx hB hK => Out.load1 rfl agg_3 ((hb1_1.to hB).cell 0 _ rfl), trivial⟩) ?_
  rintro vs4 lo4 hi4 w4 hU4
  have e5 := btr e2 hU4.1
  replace hb1_0 := hb1_0.to hU4.1
  replace hb1_1 := hb1_1.to hU4.1
  refine Rest.nil (GQ.sub [(2, .pointer (some ⟨(lo1 0), 0, none⟩)), (3, .pointer (some ⟨(lo1 1), 0, none⟩)), (9, .bool (a.A != b.A))] (by kernel_rfl) ?_)
  refine GQ.on ?_
  refine GC.cond (a.A != b.A) rfl (fun hc0 => ?_) (fun hc0 => ?_)
  · skip
    have hc0' := hc0
    try simp at hc0'
    refine GC.seq ?_
    refine GC.regW [W (.bool false)] [(4, .bool false)] mixed rfl (fun vs w => by kernel_rfl) rfl (fun vs => by kernel_rfl) ?_
    refine GQ.on ?_
    refine GC.ret ?_
    refine GQ.passRet ?_
    refine GQ.ret1 (.bool false) rfl rfl ?_
    exact ⟨_, rfl, (by first | (congr 1; symm; rw [decide_eq_false_iff_not]; rintro rfl; simp_all; done) | (congr 1; symm; rw [decide_eq_true_iff]; cases a; cases b; simp_all; done)), e5⟩
  · skip
    have hc0' := hc0
    try simp at hc0'
    refine GC.skip ?_
    refine GQ.on ?_
    refine GC.seq ?_
    refine GC.seq ?_
    refine GC.reg 5 [W (.pointer (some ⟨(lo1 0), 1, none⟩)), D (.int .i64 a.B), W (.pointer (some ⟨(lo1 1), 1, none⟩)), D (.int .i64 b.B), W (.bool (a.B != b.B))] mixed (fun vs w => by kernel_rfl) (⟨fun vs lo hi wx hB hK => Out.load1 rfl agg_3 ((hb1_0.to hB).cell 1 _ rfl), fun vs lo hi wx hB hK => Out.load1 rfl agg_3 ((hb1_1.to hB).cell 1 _ rfl), trivial⟩) ?_
    rintro vs6 lo6 hi6 w6 hU6
    have e7 := btr e5 hU6.1
    replace hb1_0 := hb1_0.to hU6.1
    replace hb1_1 := hb1_1.to hU6.1
    refine Rest.nil (GQ.sub [(14, .bool (a.B != b.B))] (by kernel_rfl) ?_)
    refine GQ.on ?_
    refine GC.cond (a.B != b.B) rfl (fun hc1 => ?_) (fun hc1 => ?_)
    · skip
      have hc1' := hc1
      try simp at hc1'
      refine GC.seq ?_
      refine GC.regW [W (.bool false)] [(4, .bool false)] mixed rfl (fun vs w => by kernel_rfl) rfl (fun vs => by kernel_rfl) ?_
      refine GQ.on ?_
      refine GC.ret ?_
      refine GQ.passRet ?_
      refine GQ.ret1 (.bool false) rfl rfl ?_
      exact ⟨_, rfl, (by first | (congr 1; symm; rw [decide_eq_false_iff_not]; rintro rfl; simp_all; done) | (congr 1; symm; rw [decide_eq_true_iff]; cases a; cases b; simp_all; done)), e7⟩
    · skip
      have hc1' := hc1
      try simp at hc1'
      refine GC.skip ?_
      refine GQ.on ?_
      refine GC.seq ?_
      refine GC.regW [W (.bool true)] [(4, .bool true)] mixed rfl (fun vs w => by kernel_rfl) rfl (fun vs => by kernel_rfl) ?_
      refine GQ.on ?_
      refine GC.ret ?_
      refine GQ.ret1 (.bool true) rfl rfl ?_
      exact ⟨_, rfl, (by first | (congr 1; symm; rw [decide_eq_false_iff_not]; rintro rfl; simp_all; done) | (congr 1; symm; rw [decide_eq_true_iff]; cases a; cases b; simp_all; done)), e7⟩
/-- laws.eqLabLinkS -/
theorem c_laws_eqLabLinkS (w : World) (a_a : Option Addr) (c_a : Nat) (a : List LabLink) (h_a : SlR rpLabLink w a_a c_a a) (a_b : Option Addr) (c_b : Nat) (b : List LabLink) (h_b : SlR rpLabLink w a_b c_b b) :
    Calls Try.prog 17 #[.slice a_a a.length c_a, .slice a_b b.length c_b] w fun e w' => ∃ rv, e = .returned rv ∧ (rv = .bool (decide (a = b)) ∧ Below w.heap.size w w') := by
  refine enter [(0, .slice a_a a.length c_a), (1, .slice a_b b.length c_b)] Try.func17 rfl (by kernel_rfl) (by kernel_rfl) ?_
  have e0 := brefl w
  refine GC.seq ?_
  refine GC.regW [W (.bool false)] [(0, .slice a_a a.length c_a), (1, .slice a_b b.length c_b)] mixed rfl (fun vs w => by kernel_rfl) rfl (fun vs => by kernel_rfl) ?_
  refine GQ.on ?_
  refine GC.seq ?_
  refine GC.seq ?_
  refine GC.regW [W (.slice a_a a.length c_a), W (.int .i64 (a.length : Int)), W (.slice a_b b.length c_b), W (.int .i64 (b.length : Int)), W (.bool ((a.length : Int) != (b.length : Int)))] [(0, .slice a_a a.length c_a), (1, .slice a_b b.length c_b), (10, .bool ((a.length : Int) != (b.length : Int)))] mixed rfl (fun vs w => by kernel_rfl) rfl (fun vs => by kernel_rfl) ?_
  refine GQ.on ?_
  refine GC.cond ((a.length : Int) != (b.length : Int)) rfl (fun hc0 => ?_) (fun hc0 => ?_)
  · skip
    have hc0' := hc0
    try simp at hc0'
    refine GC.seq ?_
    refine GC.regW [W (.bool false)] [(4, .bool false)] mixed rfl (fun vs w => by kernel_rfl) rfl (fun vs => by kernel_rfl) ?_
    refine GQ.on ?_
    refine GC.ret ?_
    refine GQ.passRet ?_
    refine GQ.ret1 (.bool false) rfl rfl ?_
    exact ⟨_, rfl, (by first | exact eqL_len (by omega) | exact eqL_el hx_x_a_k hx_x_b_k (by rintro rfl; simp at hc2) | exact eqL_all hi0_1 (by omega) (by omega)), e0⟩
  · skip
    have hc0' := hc0
    try simp at hc0'
    refine GC.skip ?_
    refine GQ.on ?_
    refine GC.seq ?_
    refine GC.seq ?_
    refine GC.regW [W (.int .i64 0)] [(0, .slice a_a a.length c_a), (1, .slice a_b b.length c_b), (5, .int .i64 0)] mixed rfl (fun vs w => by kernel_rfl) rfl (fun vs => by kernel_rfl) ?_
    refine GQ.on ?_
    refine GC.block ?_
    refine GC.loop (ι := Nat) (fun k => [(0, .slice a_a a.length c_a), (1, .slice a_b b.length c_b), (5, .int .i64 (k : Int))]) (fun k w' => Chg (fun b' : Nat => False) w w' ∧ (k ≤ a.length) ∧ (a.take k = b.take k)) (fun k => a.length - k) 0 (by kernel_rfl) ⟨chg_refl _ _, by omega, by simp⟩ ?_
    rintro k w1 ⟨hw3, hi0_0, hi0_1⟩
    have e2 := chg_below e0 (Nat.le_refl _) hw3 (fun k h => h.elim)
    have hla := h_a.2.1
    refine GC.seq ?_
    refine GC.seq ?_
    refine GC.regW [W (.int .i64 (k : Int)), W (.slice a_a a.length c_a), W (.int .i64 (a.length : Int)), W (.bool (decide ((k : Int) < (a.length : Int))))] [(0, .slice a_a a.length c_a), (1, .slice a_b b.length c_b), (5, .int .i64 (k : Int)), (14, .bool (decide ((k : Int) < (a.length : Int))))] mixed rfl (fun vs w => by kernel_rfl) rfl (fun vs => by kernel_rfl) ?_
    refine GQ.on ?_
    refine GC.cond (decide ((k : Int) < (a.length : Int))) rfl (fun hc1 => ?_) (fun hc1 => ?_)
    · skip
      have hc1' := hc1
      try simp at hc1'
      refine GC.skip ?_
      refine GQ.on ?_
      refine GC.seq ?_
      refine GC.block ?_
      refine GC.seq ?_
      obtain ⟨x_a_k, hx_x_a_k⟩ : ∃ x, a[k]? = some x := ⟨_, List.getElem?_eq_getElem (by omega)⟩
      obtain ⟨ha_x_a_k, hb_x_a_k, cs_x_a_k, hl_x_a_k, hh_x_a_k, hr_x_a_k⟩ := h_a.2.2 k x_a_k hx_x_a_k
      obtain rfl := hr_x_a_k
      obtain ⟨x_b_k, hx_x_b_k⟩ : ∃ x, b[k]? = some x := ⟨_, List.getElem?_eq_getElem (by omega)⟩
      obtain ⟨ha_x_b_k, hb_x_b_k, cs_x_b_k, hl_x_b_k, hh_x_b_k, hr_x_b_k⟩ := h_b.2.2 k x_b_k hx_x_b_k
      obtain rfl := hr_x_b_k
      refine GC.reg 10 [W (.slice a_a a.length c_a), W (.int .i64 (k : Int)), D (.pointer (some ⟨(ab a_a), ao a_a + k * 2, none⟩)), D (.agg #[.int .i64 x_a_k.A, .int .i64 x_a_k.B]), W (.slice a_b b.length c_b), W (.int .i64 (k : Int)), D (.pointer (some ⟨(ab a_b), ao a_b + k * 2, none⟩)), D (.agg #[.int .i64 x_b_k.A, .int .i64 x_b_k.B]), D (.bool (decide (x_a_k = x_b_k))), W (.bool (!(decide (x_a_k = x_b_k))))] mixed (fun vs w => by kernel_rfl) (⟨fun vs lo hi wx hB hK => Out.idxS k rfl rfl (ltg hx_x_a_k) ha_x_a_k Try.underlying24 size_72, fun vs lo hi wx hB hK => Out.loadA rfl agg_72 size_72 ((hh_x_a_k.below hb_x_a_k (btr e2 hB)).sub 0 _ rfl), fun vs lo hi wx hB hK => Out.idxS k rfl rfl (ltg hx_x_b_k) ha_x_b_k Try.underlying24 size_72, fun vs lo hi wx hB hK => Out.loadA rfl agg_72 size_72 ((hh_x_b_k.below hb_x_b_k (btr e2 hB)).sub 0 _ rfl), fun vs lo hi wx hB hK => Out.call (by kernel_rfl) (c_laws_eqLabLink _ x_a_k ([.int .i64 x_a_k.A, .int .i64 x_a_k.B]) (show rpLabLink.rd _ _ _ from rfl) x_b_k ([.int .i64 x_b_k.A, .int .i64 x_b_k.B]) (show rpLabLink.rd _ _ _ from rfl)) (fun _ _ h => h), trivial⟩) ?_
      rintro vs4 lo4 hi4 w4 hU4
      have e5 := btr e2 hU4.1
      have hw6 := chg_trb hw3 hU4.1
      refine Rest.nil (GQ.sub [(0, .slice a_a a.length c_a), (1, .slice a_b b.length c_b), (5, .int .i64 (k : Int)), (26, .bool (!(decide (x_a_k = x_b_k))))] (by kernel_rfl) ?_)
      refine GQ.on ?_
      refine GC.cond (!(decide (x_a_k = x_b_k))) rfl (fun hc2 => ?_) (fun hc2 => ?_)
      · skip
        have hc2' := hc2
        try simp at hc2'
        refine GC.seq ?_
        refine GC.regW [W (.bool false)] [(4, .bool false)] mixed rfl (fun vs w => by kernel_rfl) rfl (fun vs => by kernel_rfl) ?_
        refine GQ.on ?_
        refine GC.ret ?_
        refine GQ.blockRet ?_
        refine GQ.passRet ?_
        refine GQ.passRet ?_
        refine GQ.blockRet ?_
        refine GQ.passRet ?_
        refine GQ.ret1 (.bool false) rfl rfl ?_
        exact ⟨_, rfl, (by first | exact eqL_len (by omega) | exact eqL_el hx_x_a_k hx_x_b_k (by rintro rfl; simp at hc2) | exact eqL_all hi0_1 (by omega) (by omega)), e5⟩
      · skip
        have hc2' := hc2
        try simp at hc2'
        refine GC.skip ?_
        refine GQ.blockEnd ?_
        refine GQ.on ?_
        refine GC.reg 3 [W (.int .i64 (k : Int)), D (.int .i64 ((k : Int) + 1)), W (.int .i64 ((k : Int) + 1))] mixed (fun vs w => by kernel_rfl) (⟨fun vs lo hi wx hB hK => Out.add rfl rfl (by omega) (by omega), trivial⟩) ?_
        rintro vs7 lo7 hi7 w7 hU7
        have e8 := btr e5 hU7.1
        have hw9 := chg_trb hw6 hU7.1
        refine Rest.nil (GQ.sub [(0, .slice a_a a.length c_a), (1, .slice a_b b.length c_b), (5, .int .i64 ((k : Int) + 1))] (by kernel_rfl) ?_)
        exact GQ.next (k + 1) (by kernel_rfl) ⟨hw9, by have := ltg hx_x_a_k; omega, take_next hi0_1 hx_x_a_k hx_x_b_k (by simpa using hc2)⟩ (by have := ltg hx_x_a_k; omega)
    · skip
      have hc1' := hc1
      try simp at hc1'
      refine GC.exit ?_
      refine GQ.pass ?_
      refine GQ.pass ?_
      refine GQ.blockOut ?_
      refine GQ.on ?_
      refine GC.seq ?_
      refine GC.regW [W (.bool true)] [(4, .bool true)] mixed rfl (fun vs w => by kernel_rfl) rfl (fun vs => by kernel_rfl) ?_
      refine GQ.on ?_
      refine GC.ret ?_
      refine GQ.ret1 (.bool true) rfl rfl ?_
      exact ⟨_, rfl, (by first | exact eqL_len (by omega) | exact eqL_el hx_x_a_k hx_x_b_k (by rintro rfl; simp at hc2) | exact eqL_all hi0_1 (by omega) (by omega)), e2⟩
/-- laws.eqLabRow -/
theorem c_laws_eqLabRow (w : World) (a : LabRow) (cs_a : List Value) (h_a : rpLabRow.rd w cs_a a) (b : LabRow) (cs_b : List Value) (h_b : rpLabRow.rd w cs_b b) :
    Calls Try.prog 139 #[.agg cs_a.toArray, .agg cs_b.toArray] w fun e w' => ∃ rv, e = .returned rv ∧ (rv = .bool (decide (a = b)) ∧ Below w.heap.size w w') := by
  obtain rfl := h_a
  obtain rfl := h_b
  refine enter [(0, .agg #[.int .i64 a.In, .int .i64 a.Next, .int .i64 a.Out]), (1, .agg #[.int .i64 b.In, .int .i64 b.Next, .int .i64 b.Out])] Try.func139 rfl (by kernel_rfl) (by kernel_rfl) ?_
  have e0 := brefl w
  refine GC.seq ?_
  refine GC.reg 3 [RB 0 92 [.int .i64 a.In, .int .i64 a.Next, .int .i64 a.Out], RB 1 92 [.int .i64 b.In, .int .i64 b.Next, .int .i64 b.Out], W (.bool false)] mixed (fun vs w => by kernel_rfl) (⟨fun vs lo hi wx hB hK => Out.box rfl, fun vs lo hi wx hB hK => Out.box rfl, trivial⟩) ?_
  rintro vs1 lo1 hi1 w1 hU1
  have e2 := btr e0 hU1.1
  obtain ⟨⟨hv1_0, hp1_0, hb1_0⟩, hl1_0, -, -⟩ := hU1.2.1 0 _ rfl trivial
  have hl1_0b := Nat.le_trans e0.size hl1_0
  obtain ⟨⟨hv1_1, hp1_1, hb1_1⟩, hl1_1, -, -⟩ := hU1.2.1 1 _ rfl trivial
  have hne3 := hU1.ne 0 1 rfl rfl trivial trivial (by decide) hp1_0 hp1_1
  have hl1_1b := Nat.le_trans e0.size hl1_1
  refine Rest.nil (GQ.sub [(2, .pointer (some ⟨(lo1 0), 0, none⟩)), (3, .pointer (some ⟨(lo1 1), 0, none⟩))] (by rw [← hv1_0, ← hv1_1]; kernel_rfl) ?_)
  refine GQ.on ?_
  refine GC.seq ?_
  refine GC.seq ?_
  refine GC.reg 5 [W (.pointer (some ⟨(lo1 0), 0, none⟩)), D (.int .i64 a.In), W (.pointer (some ⟨(lo1 1), 0, none⟩)), D (.int .i64 b.In), W (.bool (a.In != b.In))] mixed (fun vs w => by kernel_rfl) (⟨fun vs lo hi wx hB hK => Out.load1 rfl agg_3 ((hb1_0.to hB).cell 0 _ rfl), fun vs lo hi wx hB hK => Out.load1 rfl agg_3 ((hb1_1.to hB).cell 0 _ rfl), trivial⟩) ?_
  rintro vs4 lo4 hi4 w4 hU4
  have e5 := btr e2 hU4.1
  replace hb1_0 := hb1_0.to hU4.1
  replace hb1_1 := hb1_1.to hU4.1
  refine Rest.nil (GQ.sub [(2, .pointer (some ⟨(lo1 0), 0, none⟩)), (3, .pointer (some ⟨(lo1 1), 0, none⟩)), (9, .bool (a.In != b.In))] (by kernel_rfl) ?_)
  refine GQ.on ?_
  refine GC.cond (a.In != b.In) rfl (fun hc0 => ?_) (fun hc0 => ?_)
  · skip
    have hc0' := hc0
    try simp at hc0'
    refine GC.seq ?_
    refine GC.regW [W (.bool false)] [(4, .bool false)] mixed rfl (fun vs w => by kernel_rfl) rfl (fun vs => by kernel_rfl) ?_
    refine GQ.on ?_
    refine GC.ret ?_
    refine GQ.passRet ?_
    refine GQ.ret1 (.bool false) rfl rfl ?_
    exact ⟨_, rfl, (by first | (congr 1; symm; rw [decide_eq_false_iff_not]; rintro rfl; simp_all; done) | (congr 1; symm; rw [decide_eq_true_iff]; cases a; cases b; simp_all; done)), e5⟩
  · skip
    have hc0' := hc0
    try simp at hc0'
    refine GC.skip ?_
    refine GQ.on ?_
    refine GC.seq ?_
    refine GC.seq ?_
    refine GC.reg 5 [W (.pointer (some ⟨(lo1 0), 1, none⟩)), D (.int .i64 a.Next), W (.pointer (some ⟨(lo1 1), 1, none⟩)), D (.int .i64 b.Next), W (.bool (a.Next != b.Next))] mixed (fun vs w => by kernel_rfl) (⟨fun vs lo hi wx hB hK => Out.load1 rfl agg_3 ((hb1_0.to hB).cell 1 _ rfl), fun vs lo hi wx hB hK => Out.load1 rfl agg_3 ((hb1_1.to hB).cell 1 _ rfl), trivial⟩) ?_
    rintro vs6 lo6 hi6 w6 hU6
    have e7 := btr e5 hU6.1
    replace hb1_0 := hb1_0.to hU6.1
    replace hb1_1 := hb1_1.to hU6.1
    refine Rest.nil (GQ.sub [(2, .pointer (some ⟨(lo1 0), 0, none⟩)), (3, .pointer (some ⟨(lo1 1), 0, none⟩)), (14, .bool (a.Next != b.Next))] (by kernel_rfl) ?_)
    refine GQ.on ?_
    refine GC.cond (a.Next != b.Next) rfl (fun hc1 => ?_) (fun hc1 => ?_)
    · skip
      have hc1' := hc1
      try simp at hc1'
      refine GC.seq ?_
      refine GC.regW [W (.bool false)] [(4, .bool false)] mixed rfl (fun vs w => by kernel_rfl) rfl (fun vs => by kernel_rfl) ?_
      refine GQ.on ?_
      refine GC.ret ?_
      refine GQ.passRet ?_
      refine GQ.ret1 (.bool false) rfl rfl ?_
      exact ⟨_, rfl, (by first | (congr 1; symm; rw [decide_eq_false_iff_not]; rintro rfl; simp_all; done) | (congr 1; symm; rw [decide_eq_true_iff]; cases a; cases b; simp_all; done)), e7⟩
    · skip
      have hc1' := hc1
      try simp at hc1'
      refine GC.skip ?_
      refine GQ.on ?_
      refine GC.seq ?_
      refine GC.seq ?_
      refine GC.reg 5 [W (.pointer (some ⟨(lo1 0), 2, none⟩)), D (.int .i64 a.Out), W (.pointer (some ⟨(lo1 1), 2, none⟩)), D (.int .i64 b.Out), W (.bool (a.Out != b.Out))] mixed (fun vs w => by kernel_rfl) (⟨fun vs lo hi wx hB hK => Out.load1 rfl agg_3 ((hb1_0.to hB).cell 2 _ rfl), fun vs lo hi wx hB hK => Out.load1 rfl agg_3 ((hb1_1.to hB).cell 2 _ rfl), trivial⟩) ?_
      rintro vs8 lo8 hi8 w8 hU8
      have e9 := btr e7 hU8.1
      replace hb1_0 := hb1_0.to hU8.1
      replace hb1_1 := hb1_1.to hU8.1
      refine Rest.nil (GQ.sub [(19, .bool (a.Out != b.Out))] (by kernel_rfl) ?_)
      refine GQ.on ?_
      refine GC.cond (a.Out != b.Out) rfl (fun hc2 => ?_) (fun hc2 => ?_)
      · skip
        have hc2' := hc2
        try simp at hc2'
        refine GC.seq ?_
        refine GC.regW [W (.bool false)] [(4, .bool false)] mixed rfl (fun vs w => by kernel_rfl) rfl (fun vs => by kernel_rfl) ?_
        refine GQ.on ?_
        refine GC.ret ?_
        refine GQ.passRet ?_
        refine GQ.ret1 (.bool false) rfl rfl ?_
        exact ⟨_, rfl, (by first | (congr 1; symm; rw [decide_eq_false_iff_not]; rintro rfl; simp_all; done) | (congr 1; symm; rw [decide_eq_true_iff]; cases a; cases b; simp_all; done)), e9⟩
      · skip
        have hc2' := hc2
        try simp at hc2'
        refine GC.skip ?_
        refine GQ.on ?_
        refine GC.seq ?_
        refine GC.regW [W (.bool true)] [(4, .bool true)] mixed rfl (fun vs w => by kernel_rfl) rfl (fun vs => by kernel_rfl) ?_
        refine GQ.on ?_
        refine GC.ret ?_
        refine GQ.ret1 (.bool true) rfl rfl ?_
        exact ⟨_, rfl, (by first | (congr 1; symm; rw [decide_eq_false_iff_not]; rintro rfl; simp_all; done) | (congr 1; symm; rw [decide_eq_true_iff]; cases a; cases b; simp_all; done)), e9⟩
/-- laws.eqLabRowS -/
theorem c_laws_eqLabRowS (w : World) (a_a : Option Addr) (c_a : Nat) (a : List LabRow) (h_a : SlR rpLabRow w a_a c_a a) (a_b : Option Addr) (c_b : Nat) (b : List LabRow) (h_b : SlR rpLabRow w a_b c_b b) :
    Calls Try.prog 127 #[.slice a_a a.length c_a, .slice a_b b.length c_b] w fun e w' => ∃ rv, e = .returned rv ∧ (rv = .bool (decide (a = b)) ∧ Below w.heap.size w w') := by
  refine enter [(0, .slice a_a a.length c_a), (1, .slice a_b b.length c_b)] Try.func127 rfl (by kernel_rfl) (by kernel_rfl) ?_
  have e0 := brefl w
  refine GC.seq ?_
  refine GC.regW [W (.bool false)] [(0, .slice a_a a.length c_a), (1, .slice a_b b.length c_b)] mixed rfl (fun vs w => by kernel_rfl) rfl (fun vs => by kernel_rfl) ?_
  refine GQ.on ?_
  refine GC.seq ?_
  refine GC.seq ?_
  refine GC.regW [W (.slice a_a a.length c_a), W (.int .i64 (a.length : Int)), W (.slice a_b b.length c_b), W (.int .i64 (b.length : Int)), W (.bool ((a.length : Int) != (b.length : Int)))] [(0, .slice a_a a.length c_a), (1, .slice a_b b.length c_b), (10, .bool ((a.length : Int) != (b.length : Int)))] mixed rfl (fun vs w => by kernel_rfl) rfl (fun vs => by kernel_rfl) ?_
  refine GQ.on ?_
  refine GC.cond ((a.length : Int) != (b.length : Int)) rfl (fun hc0 => ?_) (fun hc0 => ?_)
  · skip
    have hc0' := hc0
    try simp at hc0'
    refine GC.seq ?_
    refine GC.regW [W (.bool false)] [(4, .bool false)] mixed rfl (fun vs w => by kernel_rfl) rfl (fun vs => by kernel_rfl) ?_
    refine GQ.on ?_
    refine GC.ret ?_
    refine GQ.passRet ?_
    refine GQ.ret1 (.bool false) rfl rfl ?_
    exact ⟨_, rfl, (by first | exact eqL_len (by omega) | exact eqL_el hx_x_a_k hx_x_b_k (by rintro rfl; simp at hc2) | exact eqL_all hi0_1 (by omega) (by omega)), e0⟩
  · skip
    have hc0' := hc0
    try simp at hc0'
    refine GC.skip ?_
    refine GQ.on ?_
    refine GC.seq ?_
    refine GC.seq ?_
    refine GC.regW [W (.int .i64 0)] [(0, .slice a_a a.length c_a), (1, .slice a_b b.length c_b), (5, .int .i64 0)] mixed rfl (fun vs w => by kernel_rfl) rfl (fun vs => by kernel_rfl) ?_
    refine GQ.on ?_
    refine GC.block ?_
    refine GC.loop (ι := Nat) (fun k => [(0, .slice a_a a.length c_a), (1, .slice a_b b.length c_b), (5, .int .i64 (k : Int))]) (fun k w' => Chg (fun b' : Nat => False) w w' ∧ (k ≤ a.length) ∧ (a.take k = b.take k)) (fun k => a.length - k) 0 (by kernel_rfl) ⟨chg_refl _ _, by omega, by simp⟩ ?_
    rintro k w1 ⟨hw3, hi0_0, hi0_1⟩
    have e2 := chg_below e0 (Nat.le_refl _) hw3 (fun k h => h.elim)
    have hla := h_a.2.1
    refine GC.seq ?_
    refine GC.seq ?_
    refine GC.regW [W (.int .i64 (k : Int)), W (.slice a_a a.length c_a), W (.int .i64 (a.length : Int)), W (.bool (decide ((k : Int) < (a.length : Int))))] [(0, .slice a_a a.length c_a), (1, .slice a_b b.length c_b), (5, .int .i64 (k : Int)), (14, .bool (decide ((k : Int) < (a.length : Int))))] mixed rfl (fun vs w => by kernel_rfl) rfl (fun vs => by kernel_rfl) ?_
    refine GQ.on ?_
    refine GC.cond (decide ((k : Int) < (a.length : Int))) rfl (fun hc1 => ?_) (fun hc1 => ?_)
    · skip
      have hc1' := hc1
      try simp at hc1'
      refine GC.skip ?_
      refine GQ.on ?_
      refine GC.seq ?_
      refine GC.block ?_
      refine GC.seq ?_
      obtain ⟨x_a_k, hx_x_a_k⟩ : ∃ x, a[k]? = some x := ⟨_, List.getElem?_eq_getElem (by omega)⟩
      obtain ⟨ha_x_a_k, hb_x_a_k, cs_x_a_k, hl_x_a_k, hh_x_a_k, hr_x_a_k⟩ := h_a.2.2 k x_a_k hx_x_a_k
      obtain rfl := hr_x_a_k
      obtain ⟨x_b_k, hx_x_b_k⟩ : ∃ x, b[k]? = some x := ⟨_, List.getElem?_eq_getElem (by omega)⟩
      obtain ⟨ha_x_b_k, hb_x_b_k, cs_x_b_k, hl_x_b_k, hh_x_b_k, hr_x_b_k⟩ := h_b.2.2 k x_b_k hx_x_b_k
      obtain rfl := hr_x_b_k
      refine GC.reg 10 [W (.slice a_a a.length c_a), W (.int .i64 (k : Int)), D (.pointer (some ⟨(ab a_a), ao a_a + k * 3, none⟩)), D (.agg #[.int .i64 x_a_k.In, .int .i64 x_a_k.Next, .int .i64 x_a_k.Out]), W (.slice a_b b.length c_b), W (.int .i64 (k : Int)), D (.pointer (some ⟨(ab a_b), ao a_b + k * 3, none⟩)), D (.agg #[.int .i64 x_b_k.In, .int .i64 x_b_k.Next, .int .i64 x_b_k.Out]), D (.bool (decide (x_a_k = x_b_k))), W (.bool (!(decide (x_a_k = x_b_k))))] mixed (fun vs w => by kernel_rfl) (⟨fun vs lo hi wx hB hK => Out.idxS k rfl rfl (ltg hx_x_a_k) ha_x_a_k Try.underlying87 size_92, fun vs lo hi wx hB hK => Out.loadA rfl agg_92 size_92 ((hh_x_a_k.below hb_x_a_k (btr e2 hB)).sub 0 _ rfl), fun vs lo hi wx hB hK => Out.idxS k rfl rfl (ltg hx_x_b_k) ha_x_b_k Try.underlying87 size_92, fun vs lo hi wx hB hK => Out.loadA rfl agg_92 size_92 ((hh_x_b_k.below hb_x_b_k (btr e2 hB)).sub 0 _ rfl), fun vs lo hi wx hB hK => Out.call (by kernel_rfl) (c_laws_eqLabRow _ x_a_k ([.int .i64 x_a_k.In, .int .i64 x_a_k.Next, .int .i64 x_a_k.Out]) (show rpLabRow.rd _ _ _ from rfl) x_b_k ([.int .i64 x_b_k.In, .int .i64 x_b_k.Next, .int .i64 x_b_k.Out]) (show rpLabRow.rd _ _ _ from rfl)) (fun _ _ h => h), trivial⟩) ?_
      rintro vs4 lo4 hi4 w4 hU4
      have e5 := btr e2 hU4.1
      have hw6 := chg_trb hw3 hU4.1
      refine Rest.nil (GQ.sub [(0, .slice a_a a.length c_a), (1, .slice a_b b.length c_b), (5, .int .i64 (k : Int)), (26, .bool (!(decide (x_a_k = x_b_k))))] (by kernel_rfl) ?_)
      refine GQ.on ?_
      refine GC.cond (!(decide (x_a_k = x_b_k))) rfl (fun hc2 => ?_) (fun hc2 => ?_)
      · skip
        have hc2' := hc2
        try simp at hc2'
        refine GC.seq ?_
        refine GC.regW [W (.bool false)] [(4, .bool false)] mixed rfl (fun vs w => by kernel_rfl) rfl (fun vs => by kernel_rfl) ?_
        refine GQ.on ?_
        refine GC.ret ?_
        refine GQ.blockRet ?_
        refine GQ.passRet ?_
        refine GQ.passRet ?_
        refine GQ.blockRet ?_
        refine GQ.passRet ?_
        refine GQ.ret1 (.bool false) rfl rfl ?_
        exact ⟨_, rfl, (by first | exact eqL_len (by omega) | exact eqL_el hx_x_a_k hx_x_b_k (by rintro rfl; simp at hc2) | exact eqL_all hi0_1 (by omega) (by omega)), e5⟩
      · skip
        have hc2' := hc2
        try simp at hc2'
        refine GC.skip ?_
        refine GQ.blockEnd ?_
        refine GQ.on ?_
        refine GC.reg 3 [W (.int .i64 (k : Int)), D (.int .i64 ((k : Int) + 1)), W (.int .i64 ((k : Int) + 1))] mixed (fun vs w => by kernel_rfl) (⟨fun vs lo hi wx hB hK => Out.add rfl rfl (by omega) (by omega), trivial⟩) ?_
        rintro vs7 lo7 hi7 w7 hU7
        have e8 := btr e5 hU7.1
        have hw9 := chg_trb hw6 hU7.1
        refine Rest.nil (GQ.sub [(0, .slice a_a a.length c_a), (1, .slice a_b b.length c_b), (5, .int .i64 ((k : Int) + 1))] (by kernel_rfl) ?_)
        exact GQ.next (k + 1) (by kernel_rfl) ⟨hw9, by have := ltg hx_x_a_k; omega, take_next hi0_1 hx_x_a_k hx_x_b_k (by simpa using hc2)⟩ (by have := ltg hx_x_a_k; omega)
    · skip
      have hc1' := hc1
      try simp at hc1'
      refine GC.exit ?_
      refine GQ.pass ?_
      refine GQ.pass ?_
      refine GQ.blockOut ?_
      refine GQ.on ?_
      refine GC.seq ?_
      refine GC.regW [W (.bool true)] [(4, .bool true)] mixed rfl (fun vs w => by kernel_rfl) rfl (fun vs => by kernel_rfl) ?_
      refine GQ.on ?_
      refine GC.ret ?_
      refine GQ.ret1 (.bool true) rfl rfl ?_
      exact ⟨_, rfl, (by first | exact eqL_len (by omega) | exact eqL_el hx_x_a_k hx_x_b_k (by rintro rfl; simp at hc2) | exact eqL_all hi0_1 (by omega) (by omega)), e2⟩
/-- laws.eqLabVia -/
theorem c_laws_eqLabVia (w : World) (a : LabVia) (cs_a : List Value) (h_a : rpLabVia.rd w cs_a a) (b : LabVia) (cs_b : List Value) (h_b : rpLabVia.rd w cs_b b) :
    Calls Try.prog 140 #[.agg cs_a.toArray, .agg cs_b.toArray] w fun e w' => ∃ rv, e = .returned rv ∧ (rv = .bool (decide (a = b)) ∧ Below w.heap.size w w') := by
  obtain rfl := h_a
  obtain rfl := h_b
  refine enter [(0, .agg #[.int .i64 a.To, .int .i64 a.Via, .int .i64 a.Push]), (1, .agg #[.int .i64 b.To, .int .i64 b.Via, .int .i64 b.Push])] Try.func140 rfl (by kernel_rfl) (by kernel_rfl) ?_
  have e0 := brefl w
  refine GC.seq ?_
  refine GC.reg 3 [RB 0 119 [.int .i64 a.To, .int .i64 a.Via, .int .i64 a.Push], RB 1 119 [.int .i64 b.To, .int .i64 b.Via, .int .i64 b.Push], W (.bool false)] mixed (fun vs w => by kernel_rfl) (⟨fun vs lo hi wx hB hK => Out.box rfl, fun vs lo hi wx hB hK => Out.box rfl, trivial⟩) ?_
  rintro vs1 lo1 hi1 w1 hU1
  have e2 := btr e0 hU1.1
  obtain ⟨⟨hv1_0, hp1_0, hb1_0⟩, hl1_0, -, -⟩ := hU1.2.1 0 _ rfl trivial
  have hl1_0b := Nat.le_trans e0.size hl1_0
  obtain ⟨⟨hv1_1, hp1_1, hb1_1⟩, hl1_1, -, -⟩ := hU1.2.1 1 _ rfl trivial
  have hne3 := hU1.ne 0 1 rfl rfl trivial trivial (by decide) hp1_0 hp1_1
  have hl1_1b := Nat.le_trans e0.size hl1_1
  refine Rest.nil (GQ.sub [(2, .pointer (some ⟨(lo1 0), 0, none⟩)), (3, .pointer (some ⟨(lo1 1), 0, none⟩))] (by rw [← hv1_0, ← hv1_1]; kernel_rfl) ?_)
  refine GQ.on ?_
  refine GC.seq ?_
  refine GC.seq ?_
  refine GC.reg 5 [W (.pointer (some ⟨(lo1 0), 0, none⟩)), D (.int .i64 a.To), W (.pointer (some ⟨(lo1 1), 0, none⟩)), D (.int .i64 b.To), W (.bool (a.To != b.To))] mixed (fun vs w => by kernel_rfl) (⟨fun vs lo hi wx hB hK => Out.load1 rfl agg_3 ((hb1_0.to hB).cell 0 _ rfl), fun vs lo hi wx hB hK => Out.load1 rfl agg_3 ((hb1_1.to hB).cell 0 _ rfl), trivial⟩) ?_
  rintro vs4 lo4 hi4 w4 hU4
  have e5 := btr e2 hU4.1
  replace hb1_0 := hb1_0.to hU4.1
  replace hb1_1 := hb1_1.to hU4.1
  refine Rest.nil (GQ.sub [(2, .pointer (some ⟨(lo1 0), 0, none⟩)), (3, .pointer (some ⟨(lo1 1), 0, none⟩)), (9, .bool (a.To != b.To))] (by kernel_rfl) ?_)
  refine GQ.on ?_
  refine GC.cond (a.To != b.To) rfl (fun hc0 => ?_) (fun hc0 => ?_)
  · skip
    have hc0' := hc0
    try simp at hc0'
    refine GC.seq ?_
    refine GC.regW [W (.bool false)] [(4, .bool false)] mixed rfl (fun vs w => by kernel_rfl) rfl (fun vs => by kernel_rfl) ?_
    refine GQ.on ?_
    refine GC.ret ?_
    refine GQ.passRet ?_
    refine GQ.ret1 (.bool false) rfl rfl ?_
    exact ⟨_, rfl, (by first | (congr 1; symm; rw [decide_eq_false_iff_not]; rintro rfl; simp_all; done) | (congr 1; symm; rw [decide_eq_true_iff]; cases a; cases b; simp_all; done)), e5⟩
  · skip
    have hc0' := hc0
    try simp at hc0'
    refine GC.skip ?_
    refine GQ.on ?_
    refine GC.seq ?_
    refine GC.seq ?_
    refine GC.reg 5 [W (.pointer (some ⟨(lo1 0), 1, none⟩)), D (.int .i64 a.Via), W (.pointer (some ⟨(lo1 1), 1, none⟩)), D (.int .i64 b.Via), W (.bool (a.Via != b.Via))] mixed (fun vs w => by kernel_rfl) (⟨fun vs lo hi wx hB hK => Out.load1 rfl agg_3 ((hb1_0.to hB).cell 1 _ rfl), fun vs lo hi wx hB hK => Out.load1 rfl agg_3 ((hb1_1.to hB).cell 1 _ rfl), trivial⟩) ?_
    rintro vs6 lo6 hi6 w6 hU6
    have e7 := btr e5 hU6.1
    replace hb1_0 := hb1_0.to hU6.1
    replace hb1_1 := hb1_1.to hU6.1
    refine Rest.nil (GQ.sub [(2, .pointer (some ⟨(lo1 0), 0, none⟩)), (3, .pointer (some ⟨(lo1 1), 0, none⟩)), (14, .bool (a.Via != b.Via))] (by kernel_rfl) ?_)
    refine GQ.on ?_
    refine GC.cond (a.Via != b.Via) rfl (fun hc1 => ?_) (fun hc1 => ?_)
    · skip
      have hc1' := hc1
      try simp at hc1'
      refine GC.seq ?_
      refine GC.regW [W (.bool false)] [(4, .bool false)] mixed rfl (fun vs w => by kernel_rfl) rfl (fun vs => by kernel_rfl) ?_
      refine GQ.on ?_
      refine GC.ret ?_
      refine GQ.passRet ?_
      refine GQ.ret1 (.bool false) rfl rfl ?_
      exact ⟨_, rfl, (by first | (congr 1; symm; rw [decide_eq_false_iff_not]; rintro rfl; simp_all; done) | (congr 1; symm; rw [decide_eq_true_iff]; cases a; cases b; simp_all; done)), e7⟩
    · skip
      have hc1' := hc1
      try simp at hc1'
      refine GC.skip ?_
      refine GQ.on ?_
      refine GC.seq ?_
      refine GC.seq ?_
      refine GC.reg 5 [W (.pointer (some ⟨(lo1 0), 2, none⟩)), D (.int .i64 a.Push), W (.pointer (some ⟨(lo1 1), 2, none⟩)), D (.int .i64 b.Push), W (.bool (a.Push != b.Push))] mixed (fun vs w => by kernel_rfl) (⟨fun vs lo hi wx hB hK => Out.load1 rfl agg_3 ((hb1_0.to hB).cell 2 _ rfl), fun vs lo hi wx hB hK => Out.load1 rfl agg_3 ((hb1_1.to hB).cell 2 _ rfl), trivial⟩) ?_
      rintro vs8 lo8 hi8 w8 hU8
      have e9 := btr e7 hU8.1
      replace hb1_0 := hb1_0.to hU8.1
      replace hb1_1 := hb1_1.to hU8.1
      refine Rest.nil (GQ.sub [(19, .bool (a.Push != b.Push))] (by kernel_rfl) ?_)
      refine GQ.on ?_
      refine GC.cond (a.Push != b.Push) rfl (fun hc2 => ?_) (fun hc2 => ?_)
      · skip
        have hc2' := hc2
        try simp at hc2'
        refine GC.seq ?_
        refine GC.regW [W (.bool false)] [(4, .bool false)] mixed rfl (fun vs w => by kernel_rfl) rfl (fun vs => by kernel_rfl) ?_
        refine GQ.on ?_
        refine GC.ret ?_
        refine GQ.passRet ?_
        refine GQ.ret1 (.bool false) rfl rfl ?_
        exact ⟨_, rfl, (by first | (congr 1; symm; rw [decide_eq_false_iff_not]; rintro rfl; simp_all; done) | (congr 1; symm; rw [decide_eq_true_iff]; cases a; cases b; simp_all; done)), e9⟩
      · skip
        have hc2' := hc2
        try simp at hc2'
        refine GC.skip ?_
        refine GQ.on ?_
        refine GC.seq ?_
        refine GC.regW [W (.bool true)] [(4, .bool true)] mixed rfl (fun vs w => by kernel_rfl) rfl (fun vs => by kernel_rfl) ?_
        refine GQ.on ?_
        refine GC.ret ?_
        refine GQ.ret1 (.bool true) rfl rfl ?_
        exact ⟨_, rfl, (by first | (congr 1; symm; rw [decide_eq_false_iff_not]; rintro rfl; simp_all; done) | (congr 1; symm; rw [decide_eq_true_iff]; cases a; cases b; simp_all; done)), e9⟩
/-- laws.eqLabViaS -/
theorem c_laws_eqLabViaS (w : World) (a_a : Option Addr) (c_a : Nat) (a : List LabVia) (h_a : SlR rpLabVia w a_a c_a a) (a_b : Option Addr) (c_b : Nat) (b : List LabVia) (h_b : SlR rpLabVia w a_b c_b b) :
    Calls Try.prog 128 #[.slice a_a a.length c_a, .slice a_b b.length c_b] w fun e w' => ∃ rv, e = .returned rv ∧ (rv = .bool (decide (a = b)) ∧ Below w.heap.size w w') := by
  refine enter [(0, .slice a_a a.length c_a), (1, .slice a_b b.length c_b)] Try.func128 rfl (by kernel_rfl) (by kernel_rfl) ?_
  have e0 := brefl w
  refine GC.seq ?_
  refine GC.regW [W (.bool false)] [(0, .slice a_a a.length c_a), (1, .slice a_b b.length c_b)] mixed rfl (fun vs w => by kernel_rfl) rfl (fun vs => by kernel_rfl) ?_
  refine GQ.on ?_
  refine GC.seq ?_
  refine GC.seq ?_
  refine GC.regW [W (.slice a_a a.length c_a), W (.int .i64 (a.length : Int)), W (.slice a_b b.length c_b), W (.int .i64 (b.length : Int)), W (.bool ((a.length : Int) != (b.length : Int)))] [(0, .slice a_a a.length c_a), (1, .slice a_b b.length c_b), (10, .bool ((a.length : Int) != (b.length : Int)))] mixed rfl (fun vs w => by kernel_rfl) rfl (fun vs => by kernel_rfl) ?_
  refine GQ.on ?_
  refine GC.cond ((a.length : Int) != (b.length : Int)) rfl (fun hc0 => ?_) (fun hc0 => ?_)
  · skip
    have hc0' := hc0
    try simp at hc0'
    refine GC.seq ?_
    refine GC.regW [W (.bool false)] [(4, .bool false)] mixed rfl (fun vs w => by kernel_rfl) rfl (fun vs => by kernel_rfl) ?_
    refine GQ.on ?_
    refine GC.ret ?_
    refine GQ.passRet ?_
    refine GQ.ret1 (.bool false) rfl rfl ?_
    exact ⟨_, rfl, (by first | exact eqL_len (by omega) | exact eqL_el hx_x_a_k hx_x_b_k (by rintro rfl; simp at hc2) | exact eqL_all hi0_1 (by omega) (by omega)), e0⟩
  · skip
    have hc0' := hc0
    try simp at hc0'
    refine GC.skip ?_
    refine GQ.on ?_
    refine GC.seq ?_
    refine GC.seq ?_
    refine GC.regW [W (.int .i64 0)] [(0, .slice a_a a.length c_a), (1, .slice a_b b.length c_b), (5, .int .i64 0)] mixed rfl (fun vs w => by kernel_rfl) rfl (fun vs => by kernel_rfl) ?_
    refine GQ.on ?_
    refine GC.block ?_
    refine GC.loop (ι := Nat) (fun k => [(0, .slice a_a a.length c_a), (1, .slice a_b b.length c_b), (5, .int .i64 (k : Int))]) (fun k w' => Chg (fun b' : Nat => False) w w' ∧ (k ≤ a.length) ∧ (a.take k = b.take k)) (fun k => a.length - k) 0 (by kernel_rfl) ⟨chg_refl _ _, by omega, by simp⟩ ?_
    rintro k w1 ⟨hw3, hi0_0, hi0_1⟩
    have e2 := chg_below e0 (Nat.le_refl _) hw3 (fun k h => h.elim)
    have hla := h_a.2.1
    refine GC.seq ?_
    refine GC.seq ?_
    refine GC.regW [W (.int .i64 (k : Int)), W (.slice a_a a.length c_a), W (.int .i64 (a.length : Int)), W (.bool (decide ((k : Int) < (a.length : Int))))] [(0, .slice a_a a.length c_a), (1, .slice a_b b.length c_b), (5, .int .i64 (k : Int)), (14, .bool (decide ((k : Int) < (a.length : Int))))] mixed rfl (fun vs w => by kernel_rfl) rfl (fun vs => by kernel_rfl) ?_
    refine GQ.on ?_
    refine GC.cond (decide ((k : Int) < (a.length : Int))) rfl (fun hc1 => ?_) (fun hc1 => ?_)
    · skip
      have hc1' := hc1
      try simp at hc1'
      refine GC.skip ?_
      refine GQ.on ?_
      refine GC.seq ?_
      refine GC.block ?_
      refine GC.seq ?_
      obtain ⟨x_a_k, hx_x_a_k⟩ : ∃ x, a[k]? = some x := ⟨_, List.getElem?_eq_getElem (by omega)⟩
      obtain ⟨ha_x_a_k, hb_x_a_k, cs_x_a_k, hl_x_a_k, hh_x_a_k, hr_x_a_k⟩ := h_a.2.2 k x_a_k hx_x_a_k
      obtain rfl := hr_x_a_k
      obtain ⟨x_b_k, hx_x_b_k⟩ : ∃ x, b[k]? = some x := ⟨_, List.getElem?_eq_getElem (by omega)⟩
      obtain ⟨ha_x_b_k, hb_x_b_k, cs_x_b_k, hl_x_b_k, hh_x_b_k, hr_x_b_k⟩ := h_b.2.2 k x_b_k hx_x_b_k
      obtain rfl := hr_x_b_k
      refine GC.reg 10 [W (.slice a_a a.length c_a), W (.int .i64 (k : Int)), D (.pointer (some ⟨(ab a_a), ao a_a + k * 3, none⟩)), D (.agg #[.int .i64 x_a_k.To, .int .i64 x_a_k.Via, .int .i64 x_a_k.Push]), W (.slice a_b b.length c_b), W (.int .i64 (k : Int)), D (.pointer (some ⟨(ab a_b), ao a_b + k * 3, none⟩)), D (.agg #[.int .i64 x_b_k.To, .int .i64 x_b_k.Via, .int .i64 x_b_k.Push]), D (.bool (decide (x_a_k = x_b_k))), W (.bool (!(decide (x_a_k = x_b_k))))] mixed (fun vs w => by kernel_rfl) (⟨fun vs lo hi wx hB hK => Out.idxS k rfl rfl (ltg hx_x_a_k) ha_x_a_k Try.underlying88 size_119, fun vs lo hi wx hB hK => Out.loadA rfl agg_119 size_119 ((hh_x_a_k.below hb_x_a_k (btr e2 hB)).sub 0 _ rfl), fun vs lo hi wx hB hK => Out.idxS k rfl rfl (ltg hx_x_b_k) ha_x_b_k Try.underlying88 size_119, fun vs lo hi wx hB hK => Out.loadA rfl agg_119 size_119 ((hh_x_b_k.below hb_x_b_k (btr e2 hB)).sub 0 _ rfl), fun vs lo hi wx hB hK => Out.call (by kernel_rfl) (c_laws_eqLabVia _ x_a_k ([.int .i64 x_a_k.To, .int .i64 x_a_k.Via, .int .i64 x_a_k.Push]) (show rpLabVia.rd _ _ _ from rfl) x_b_k ([.int .i64 x_b_k.To, .int .i64 x_b_k.Via, .int .i64 x_b_k.Push]) (show rpLabVia.rd _ _ _ from rfl)) (fun _ _ h => h), trivial⟩) ?_
      rintro vs4 lo4 hi4 w4 hU4
      have e5 := btr e2 hU4.1
      have hw6 := chg_trb hw3 hU4.1
      refine Rest.nil (GQ.sub [(0, .slice a_a a.length c_a), (1, .slice a_b b.length c_b), (5, .int .i64 (k : Int)), (26, .bool (!(decide (x_a_k = x_b_k))))] (by kernel_rfl) ?_)
      refine GQ.on ?_
      refine GC.cond (!(decide (x_a_k = x_b_k))) rfl (fun hc2 => ?_) (fun hc2 => ?_)
      · skip
        have hc2' := hc2
        try simp at hc2'
        refine GC.seq ?_
        refine GC.regW [W (.bool false)] [(4, .bool false)] mixed rfl (fun vs w => by kernel_rfl) rfl (fun vs => by kernel_rfl) ?_
        refine GQ.on ?_
        refine GC.ret ?_
        refine GQ.blockRet ?_
        refine GQ.passRet ?_
        refine GQ.passRet ?_
        refine GQ.blockRet ?_
        refine GQ.passRet ?_
        refine GQ.ret1 (.bool false) rfl rfl ?_
        exact ⟨_, rfl, (by first | exact eqL_len (by omega) | exact eqL_el hx_x_a_k hx_x_b_k (by rintro rfl; simp at hc2) | exact eqL_all hi0_1 (by omega) (by omega)), e5⟩
      · skip
        have hc2' := hc2
        try simp at hc2'
        refine GC.skip ?_
        refine GQ.blockEnd ?_
        refine GQ.on ?_
        refine GC.reg 3 [W (.int .i64 (k : Int)), D (.int .i64 ((k : Int) + 1)), W (.int .i64 ((k : Int) + 1))] mixed (fun vs w => by kernel_rfl) (⟨fun vs lo hi wx hB hK => Out.add rfl rfl (by omega) (by omega), trivial⟩) ?_
        rintro vs7 lo7 hi7 w7 hU7
        have e8 := btr e5 hU7.1
        have hw9 := chg_trb hw6 hU7.1
        refine Rest.nil (GQ.sub [(0, .slice a_a a.length c_a), (1, .slice a_b b.length c_b), (5, .int .i64 ((k : Int) + 1))] (by kernel_rfl) ?_)
        exact GQ.next (k + 1) (by kernel_rfl) ⟨hw9, by have := ltg hx_x_a_k; omega, take_next hi0_1 hx_x_a_k hx_x_b_k (by simpa using hc2)⟩ (by have := ltg hx_x_a_k; omega)
    · skip
      have hc1' := hc1
      try simp at hc1'
      refine GC.exit ?_
      refine GQ.pass ?_
      refine GQ.pass ?_
      refine GQ.blockOut ?_
      refine GQ.on ?_
      refine GC.seq ?_
      refine GC.regW [W (.bool true)] [(4, .bool true)] mixed rfl (fun vs w => by kernel_rfl) rfl (fun vs => by kernel_rfl) ?_
      refine GQ.on ?_
      refine GC.ret ?_
      refine GQ.ret1 (.bool true) rfl rfl ?_
      exact ⟨_, rfl, (by first | exact eqL_len (by omega) | exact eqL_el hx_x_a_k hx_x_b_k (by rintro rfl; simp at hc2) | exact eqL_all hi0_1 (by omega) (by omega)), e2⟩
/-- laws.eqLabBox -/
theorem c_laws_eqLabBox (w : World) (a : LabBox) (cs_a : List Value) (h_a : rpLabBox.rd w cs_a a) (b : LabBox) (cs_b : List Value) (h_b : rpLabBox.rd w cs_b b) :
    Calls Try.prog 90 #[.agg cs_a.toArray, .agg cs_b.toArray] w fun e w' => ∃ rv, e = .returned rv ∧ (rv = .bool (decide (a = b)) ∧ Below w.heap.size w w') := by
  obtain ⟨a_a_Rows, c_a_Rows, a_a_Guards, c_a_Guards, rfl, h_a_Rows, h_a_Guards⟩ := h_a
  obtain ⟨a_b_Rows, c_b_Rows, a_b_Guards, c_b_Guards, rfl, h_b_Rows, h_b_Guards⟩ := h_b
  refine enter [(0, .agg #[.slice a_a_Rows a.Rows.length c_a_Rows, .slice a_a_Guards a.Guards.length c_a_Guards]), (1, .agg #[.slice a_b_Rows b.Rows.length c_b_Rows, .slice a_b_Guards b.Guards.length c_b_Guards])] Try.func90 rfl (by kernel_rfl) (by kernel_rfl) ?_
  have e0 := brefl w
  refine GC.seq ?_
  refine GC.reg 3 [RB 0 90 [.slice a_a_Rows a.Rows.length c_a_Rows, .slice a_a_Guards a.Guards.length c_a_Guards], RB 1 90 [.slice a_b_Rows b.Rows.length c_b_Rows, .slice a_b_Guards b.Guards.length c_b_Guards], W (.bool false)] mixed (fun vs w => by kernel_rfl) (⟨fun vs lo hi wx hB hK => Out.box rfl, fun vs lo hi wx hB hK => Out.box rfl, trivial⟩) ?_
  rintro vs1 lo1 hi1 w1 hU1
  have e2 := btr e0 hU1.1
  obtain ⟨⟨hv1_0, hp1_0, hb1_0⟩, hl1_0, -, -⟩ := hU1.2.1 0 _ rfl trivial
  have hl1_0b := Nat.le_trans e0.size hl1_0
  obtain ⟨⟨hv1_1, hp1_1, hb1_1⟩, hl1_1, -, -⟩ := hU1.2.1 1 _ rfl trivial
  have hne3 := hU1.ne 0 1 rfl rfl trivial trivial (by decide) hp1_0 hp1_1
  have hl1_1b := Nat.le_trans e0.size hl1_1
  refine Rest.nil (GQ.sub [(2, .pointer (some ⟨(lo1 0), 0, none⟩)), (3, .pointer (some ⟨(lo1 1), 0, none⟩))] (by rw [← hv1_0, ← hv1_1]; kernel_rfl) ?_)
  refine GQ.on ?_
  refine GC.seq ?_
  refine GC.seq ?_
  refine GC.reg 6 [W (.pointer (some ⟨(lo1 0), 0, none⟩)), D (.slice a_a_Rows a.Rows.length c_a_Rows), W (.pointer (some ⟨(lo1 1), 0, none⟩)), D (.slice a_b_Rows b.Rows.length c_b_Rows), D (.bool (decide (a.Rows = b.Rows))), W (.bool (!(decide (a.Rows = b.Rows))))] mixed (fun vs w => by kernel_rfl) (⟨fun vs lo hi wx hB hK => Out.load1 rfl agg_87 ((hb1_0.to hB).cell 0 _ rfl), fun vs lo hi wx hB hK => Out.load1 rfl agg_87 ((hb1_1.to hB).cell 0 _ rfl), fun vs lo hi wx hB hK => Out.call (by kernel_rfl) (c_laws_eqLabRowS _ a_a_Rows c_a_Rows a.Rows (h_a_Rows.below (btr e2 hB)) a_b_Rows c_b_Rows b.Rows (h_b_Rows.below (btr e2 hB))) (fun _ _ h => h), trivial⟩) ?_
  rintro vs4 lo4 hi4 w4 hU4
  have e5 := btr e2 hU4.1
  replace hb1_0 := hb1_0.to hU4.1
  replace hb1_1 := hb1_1.to hU4.1
  refine Rest.nil (GQ.sub [(2, .pointer (some ⟨(lo1 0), 0, none⟩)), (3, .pointer (some ⟨(lo1 1), 0, none⟩)), (10, .bool (!(decide (a.Rows = b.Rows))))] (by kernel_rfl) ?_)
  refine GQ.on ?_
  refine GC.cond (!(decide (a.Rows = b.Rows))) rfl (fun hc0 => ?_) (fun hc0 => ?_)
  · skip
    have hc0' := hc0
    try simp at hc0'
    refine GC.seq ?_
    refine GC.regW [W (.bool false)] [(4, .bool false)] mixed rfl (fun vs w => by kernel_rfl) rfl (fun vs => by kernel_rfl) ?_
    refine GQ.on ?_
    refine GC.ret ?_
    refine GQ.passRet ?_
    refine GQ.ret1 (.bool false) rfl rfl ?_
    exact ⟨_, rfl, (by first | (congr 1; symm; rw [decide_eq_false_iff_not]; rintro rfl; simp_all; done) | (congr 1; symm; rw [decide_eq_true_iff]; cases a; cases b; simp_all; done)), e5⟩
  · skip
    have hc0' := hc0
    try simp at hc0'
    refine GC.skip ?_
    refine GQ.on ?_
    refine GC.seq ?_
    refine GC.seq ?_
    refine GC.reg 6 [W (.pointer (some ⟨(lo1 0), 1, none⟩)), D (.slice a_a_Guards a.Guards.length c_a_Guards), W (.pointer (some ⟨(lo1 1), 1, none⟩)), D (.slice a_b_Guards b.Guards.length c_b_Guards), D (.bool (decide (a.Guards = b.Guards))), W (.bool (!(decide (a.Guards = b.Guards))))] mixed (fun vs w => by kernel_rfl) (⟨fun vs lo hi wx hB hK => Out.load1 rfl agg_88 ((hb1_0.to hB).cell 1 _ rfl), fun vs lo hi wx hB hK => Out.load1 rfl agg_88 ((hb1_1.to hB).cell 1 _ rfl), fun vs lo hi wx hB hK => Out.call (by kernel_rfl) (c_laws_eqLabViaS _ a_a_Guards c_a_Guards a.Guards (h_a_Guards.below (btr e5 hB)) a_b_Guards c_b_Guards b.Guards (h_b_Guards.below (btr e5 hB))) (fun _ _ h => h), trivial⟩) ?_
    rintro vs6 lo6 hi6 w6 hU6
    have e7 := btr e5 hU6.1
    replace hb1_0 := hb1_0.to hU6.1
    replace hb1_1 := hb1_1.to hU6.1
    refine Rest.nil (GQ.sub [(16, .bool (!(decide (a.Guards = b.Guards))))] (by kernel_rfl) ?_)
    refine GQ.on ?_
    refine GC.cond (!(decide (a.Guards = b.Guards))) rfl (fun hc1 => ?_) (fun hc1 => ?_)
    · skip
      have hc1' := hc1
      try simp at hc1'
      refine GC.seq ?_
      refine GC.regW [W (.bool false)] [(4, .bool false)] mixed rfl (fun vs w => by kernel_rfl) rfl (fun vs => by kernel_rfl) ?_
      refine GQ.on ?_
      refine GC.ret ?_
      refine GQ.passRet ?_
      refine GQ.ret1 (.bool false) rfl rfl ?_
      exact ⟨_, rfl, (by first | (congr 1; symm; rw [decide_eq_false_iff_not]; rintro rfl; simp_all; done) | (congr 1; symm; rw [decide_eq_true_iff]; cases a; cases b; simp_all; done)), e7⟩
    · skip
      have hc1' := hc1
      try simp at hc1'
      refine GC.skip ?_
      refine GQ.on ?_
      refine GC.seq ?_
      refine GC.regW [W (.bool true)] [(4, .bool true)] mixed rfl (fun vs w => by kernel_rfl) rfl (fun vs => by kernel_rfl) ?_
      refine GQ.on ?_
      refine GC.ret ?_
      refine GQ.ret1 (.bool true) rfl rfl ?_
      exact ⟨_, rfl, (by first | (congr 1; symm; rw [decide_eq_false_iff_not]; rintro rfl; simp_all; done) | (congr 1; symm; rw [decide_eq_true_iff]; cases a; cases b; simp_all; done)), e7⟩
/-- laws.eqLabBoxS -/
theorem c_laws_eqLabBoxS (w : World) (a_a : Option Addr) (c_a : Nat) (a : List LabBox) (h_a : SlR rpLabBox w a_a c_a a) (a_b : Option Addr) (c_b : Nat) (b : List LabBox) (h_b : SlR rpLabBox w a_b c_b b) :
    Calls Try.prog 54 #[.slice a_a a.length c_a, .slice a_b b.length c_b] w fun e w' => ∃ rv, e = .returned rv ∧ (rv = .bool (decide (a = b)) ∧ Below w.heap.size w w') := by
  refine enter [(0, .slice a_a a.length c_a), (1, .slice a_b b.length c_b)] Try.func54 rfl (by kernel_rfl) (by kernel_rfl) ?_
  have e0 := brefl w
  refine GC.seq ?_
  refine GC.regW [W (.bool false)] [(0, .slice a_a a.length c_a), (1, .slice a_b b.length c_b)] mixed rfl (fun vs w => by kernel_rfl) rfl (fun vs => by kernel_rfl) ?_
  refine GQ.on ?_
  refine GC.seq ?_
  refine GC.seq ?_
  refine GC.regW [W (.slice a_a a.length c_a), W (.int .i64 (a.length : Int)), W (.slice a_b b.length c_b), W (.int .i64 (b.length : Int)), W (.bool ((a.length : Int) != (b.length : Int)))] [(0, .slice a_a a.length c_a), (1, .slice a_b b.length c_b), (10, .bool ((a.length : Int) != (b.length : Int)))] mixed rfl (fun vs w => by kernel_rfl) rfl (fun vs => by kernel_rfl) ?_
  refine GQ.on ?_
  refine GC.cond ((a.length : Int) != (b.length : Int)) rfl (fun hc0 => ?_) (fun hc0 => ?_)
  · skip
    have hc0' := hc0
    try simp at hc0'
    refine GC.seq ?_
    refine GC.regW [W (.bool false)] [(4, .bool false)] mixed rfl (fun vs w => by kernel_rfl) rfl (fun vs => by kernel_rfl) ?_
    refine GQ.on ?_
    refine GC.ret ?_
    refine GQ.passRet ?_
    refine GQ.ret1 (.bool false) rfl rfl ?_
    exact ⟨_, rfl, (by first | exact eqL_len (by omega) | exact eqL_el hx_x_a_k hx_x_b_k (by rintro rfl; simp at hc2) | exact eqL_all hi0_1 (by omega) (by omega)), e0⟩
  · skip
    have hc0' := hc0
    try simp at hc0'
    refine GC.skip ?_
    refine GQ.on ?_
    refine GC.seq ?_
    refine GC.seq ?_
    refine GC.regW [W (.int .i64 0)] [(0, .slice a_a a.length c_a), (1, .slice a_b b.length c_b), (5, .int .i64 0)] mixed rfl (fun vs w => by kernel_rfl) rfl (fun vs => by kernel_rfl) ?_
    refine GQ.on ?_
    refine GC.block ?_
    refine GC.loop (ι := Nat) (fun k => [(0, .slice a_a a.length c_a), (1, .slice a_b b.length c_b), (5, .int .i64 (k : Int))]) (fun k w' => Chg (fun b' : Nat => False) w w' ∧ (k ≤ a.length) ∧ (a.take k = b.take k)) (fun k => a.length - k) 0 (by kernel_rfl) ⟨chg_refl _ _, by omega, by simp⟩ ?_
    rintro k w1 ⟨hw3, hi0_0, hi0_1⟩
    have e2 := chg_below e0 (Nat.le_refl _) hw3 (fun k h => h.elim)
    have hla := h_a.2.1
    refine GC.seq ?_
    refine GC.seq ?_
    refine GC.regW [W (.int .i64 (k : Int)), W (.slice a_a a.length c_a), W (.int .i64 (a.length : Int)), W (.bool (decide ((k : Int) < (a.length : Int))))] [(0, .slice a_a a.length c_a), (1, .slice a_b b.length c_b), (5, .int .i64 (k : Int)), (14, .bool (decide ((k : Int) < (a.length : Int))))] mixed rfl (fun vs w => by kernel_rfl) rfl (fun vs => by kernel_rfl) ?_
    refine GQ.on ?_
    refine GC.cond (decide ((k : Int) < (a.length : Int))) rfl (fun hc1 => ?_) (fun hc1 => ?_)
    · skip
      have hc1' := hc1
      try simp at hc1'
      refine GC.skip ?_
      refine GQ.on ?_
      refine GC.seq ?_
      refine GC.block ?_
      refine GC.seq ?_
      obtain ⟨x_a_k, hx_x_a_k⟩ : ∃ x, a[k]? = some x := ⟨_, List.getElem?_eq_getElem (by omega)⟩
      obtain ⟨ha_x_a_k, hb_x_a_k, cs_x_a_k, hl_x_a_k, hh_x_a_k, hr_x_a_k⟩ := h_a.2.2 k x_a_k hx_x_a_k
      obtain ⟨a_x_a_k_Rows, c_x_a_k_Rows, a_x_a_k_Guards, c_x_a_k_Guards, rfl, h_x_a_k_Rows, h_x_a_k_Guards⟩ := hr_x_a_k
      obtain ⟨x_b_k, hx_x_b_k⟩ : ∃ x, b[k]? = some x := ⟨_, List.getElem?_eq_getElem (by omega)⟩
      obtain ⟨ha_x_b_k, hb_x_b_k, cs_x_b_k, hl_x_b_k, hh_x_b_k, hr_x_b_k⟩ := h_b.2.2 k x_b_k hx_x_b_k
      obtain ⟨a_x_b_k_Rows, c_x_b_k_Rows, a_x_b_k_Guards, c_x_b_k_Guards, rfl, h_x_b_k_Rows, h_x_b_k_Guards⟩ := hr_x_b_k
      refine GC.reg 10 [W (.slice a_a a.length c_a), W (.int .i64 (k : Int)), D (.pointer (some ⟨(ab a_a), ao a_a + k * 2, none⟩)), D (.agg #[.slice a_x_a_k_Rows x_a_k.Rows.length c_x_a_k_Rows, .slice a_x_a_k_Guards x_a_k.Guards.length c_x_a_k_Guards]), W (.slice a_b b.length c_b), W (.int .i64 (k : Int)), D (.pointer (some ⟨(ab a_b), ao a_b + k * 2, none⟩)), D (.agg #[.slice a_x_b_k_Rows x_b_k.Rows.length c_x_b_k_Rows, .slice a_x_b_k_Guards x_b_k.Guards.length c_x_b_k_Guards]), D (.bool (decide (x_a_k = x_b_k))), W (.bool (!(decide (x_a_k = x_b_k))))] mixed (fun vs w => by kernel_rfl) (⟨fun vs lo hi wx hB hK => Out.idxS k rfl rfl (ltg hx_x_a_k) ha_x_a_k Try.underlying25 size_90, fun vs lo hi wx hB hK => Out.loadA rfl agg_90 size_90 ((hh_x_a_k.below hb_x_a_k (btr e2 hB)).sub 0 _ rfl), fun vs lo hi wx hB hK => Out.idxS k rfl rfl (ltg hx_x_b_k) ha_x_b_k Try.underlying25 size_90, fun vs lo hi wx hB hK => Out.loadA rfl agg_90 size_90 ((hh_x_b_k.below hb_x_b_k (btr e2 hB)).sub 0 _ rfl), fun vs lo hi wx hB hK => Out.call (by kernel_rfl) (c_laws_eqLabBox _ x_a_k ([.slice a_x_a_k_Rows x_a_k.Rows.length c_x_a_k_Rows, .slice a_x_a_k_Guards x_a_k.Guards.length c_x_a_k_Guards]) (show rpLabBox.rd _ _ _ from ⟨_, _, _, _, rfl, h_x_a_k_Rows.below (btr e2 hB), h_x_a_k_Guards.below (btr e2 hB)⟩) x_b_k ([.slice a_x_b_k_Rows x_b_k.Rows.length c_x_b_k_Rows, .slice a_x_b_k_Guards x_b_k.Guards.length c_x_b_k_Guards]) (show rpLabBox.rd _ _ _ from ⟨_, _, _, _, rfl, h_x_b_k_Rows.below (btr e2 hB), h_x_b_k_Guards.below (btr e2 hB)⟩)) (fun _ _ h => h), trivial⟩) ?_
      rintro vs4 lo4 hi4 w4 hU4
      have e5 := btr e2 hU4.1
      have hw6 := chg_trb hw3 hU4.1
      refine Rest.nil (GQ.sub [(0, .slice a_a a.length c_a), (1, .slice a_b b.length c_b), (5, .int .i64 (k : Int)), (26, .bool (!(decide (x_a_k = x_b_k))))] (by kernel_rfl) ?_)
      refine GQ.on ?_
      refine GC.cond (!(decide (x_a_k = x_b_k))) rfl (fun hc2 => ?_) (fun hc2 => ?_)
      · skip
        have hc2' := hc2
        try simp at hc2'
        refine GC.seq ?_
        refine GC.regW [W (.bool false)] [(4, .bool false)] mixed rfl (fun vs w => by kernel_rfl) rfl (fun vs => by kernel_rfl) ?_
        refine GQ.on ?_
        refine GC.ret ?_
        refine GQ.blockRet ?_
        refine GQ.passRet ?_
        refine GQ.passRet ?_
        refine GQ.blockRet ?_
        refine GQ.passRet ?_
        refine GQ.ret1 (.bool false) rfl rfl ?_
        exact ⟨_, rfl, (by first | exact eqL_len (by omega) | exact eqL_el hx_x_a_k hx_x_b_k (by rintro rfl; simp at hc2) | exact eqL_all hi0_1 (by omega) (by omega)), e5⟩
      · skip
        have hc2' := hc2
        try simp at hc2'
        refine GC.skip ?_
        refine GQ.blockEnd ?_
        refine GQ.on ?_
        refine GC.reg 3 [W (.int .i64 (k : Int)), D (.int .i64 ((k : Int) + 1)), W (.int .i64 ((k : Int) + 1))] mixed (fun vs w => by kernel_rfl) (⟨fun vs lo hi wx hB hK => Out.add rfl rfl (by omega) (by omega), trivial⟩) ?_
        rintro vs7 lo7 hi7 w7 hU7
        have e8 := btr e5 hU7.1
        have hw9 := chg_trb hw6 hU7.1
        refine Rest.nil (GQ.sub [(0, .slice a_a a.length c_a), (1, .slice a_b b.length c_b), (5, .int .i64 ((k : Int) + 1))] (by kernel_rfl) ?_)
        exact GQ.next (k + 1) (by kernel_rfl) ⟨hw9, by have := ltg hx_x_a_k; omega, take_next hi0_1 hx_x_a_k hx_x_b_k (by simpa using hc2)⟩ (by have := ltg hx_x_a_k; omega)
    · skip
      have hc1' := hc1
      try simp at hc1'
      refine GC.exit ?_
      refine GQ.pass ?_
      refine GQ.pass ?_
      refine GQ.blockOut ?_
      refine GQ.on ?_
      refine GC.seq ?_
      refine GC.regW [W (.bool true)] [(4, .bool true)] mixed rfl (fun vs w => by kernel_rfl) rfl (fun vs => by kernel_rfl) ?_
      refine GQ.on ?_
      refine GC.ret ?_
      refine GQ.ret1 (.bool true) rfl rfl ?_
      exact ⟨_, rfl, (by first | exact eqL_len (by omega) | exact eqL_el hx_x_a_k hx_x_b_k (by rintro rfl; simp at hc2) | exact eqL_all hi0_1 (by omega) (by omega)), e2⟩
/-- laws.eqLabNet -/
theorem c_laws_eqLabNet (w : World) (a : LabNet) (cs_a : List Value) (h_a : rpLabNet.rd w cs_a a) (b : LabNet) (cs_b : List Value) (h_b : rpLabNet.rd w cs_b b) :
    Calls Try.prog 16 #[.agg cs_a.toArray, .agg cs_b.toArray] w fun e w' => ∃ rv, e = .returned rv ∧ (rv = .bool (decide (a = b)) ∧ Below w.heap.size w w') := by
  obtain ⟨a_a_Links, c_a_Links, a_a_Boxes, c_a_Boxes, rfl, h_a_Links, h_a_Boxes⟩ := h_a
  obtain ⟨a_b_Links, c_b_Links, a_b_Boxes, c_b_Boxes, rfl, h_b_Links, h_b_Boxes⟩ := h_b
  refine enter [(0, .agg #[.slice a_a_Links a.Links.length c_a_Links, .slice a_a_Boxes a.Boxes.length c_a_Boxes]), (1, .agg #[.slice a_b_Links b.Links.length c_b_Links, .slice a_b_Boxes b.Boxes.length c_b_Boxes])] Try.func16 rfl (by kernel_rfl) (by kernel_rfl) ?_
  have e0 := brefl w
  refine GC.seq ?_
  refine GC.reg 3 [RB 0 27 [.slice a_a_Links a.Links.length c_a_Links, .slice a_a_Boxes a.Boxes.length c_a_Boxes], RB 1 27 [.slice a_b_Links b.Links.length c_b_Links, .slice a_b_Boxes b.Boxes.length c_b_Boxes], W (.bool false)] mixed (fun vs w => by kernel_rfl) (⟨fun vs lo hi wx hB hK => Out.box rfl, fun vs lo hi wx hB hK => Out.box rfl, trivial⟩) ?_
  rintro vs1 lo1 hi1 w1 hU1
  have e2 := btr e0 hU1.1
  obtain ⟨⟨hv1_0, hp1_0, hb1_0⟩, hl1_0, -, -⟩ := hU1.2.1 0 _ rfl trivial
  have hl1_0b := Nat.le_trans e0.size hl1_0
  obtain ⟨⟨hv1_1, hp1_1, hb1_1⟩, hl1_1, -, -⟩ := hU1.2.1 1 _ rfl trivial
  have hne3 := hU1.ne 0 1 rfl rfl trivial trivial (by decide) hp1_0 hp1_1
  have hl1_1b := Nat.le_trans e0.size hl1_1
  refine Rest.nil (GQ.sub [(2, .pointer (some ⟨(lo1 0), 0, none⟩)), (3, .pointer (some ⟨(lo1 1), 0, none⟩))] (by rw [← hv1_0, ← hv1_1]; kernel_rfl) ?_)
  refine GQ.on ?_
  refine GC.seq ?_
  refine GC.seq ?_
  refine GC.reg 6 [W (.pointer (some ⟨(lo1 0), 0, none⟩)), D (.slice a_a_Links a.Links.length c_a_Links), W (.pointer (some ⟨(lo1 1), 0, none⟩)), D (.slice a_b_Links b.Links.length c_b_Links), D (.bool (decide (a.Links = b.Links))), W (.bool (!(decide (a.Links = b.Links))))] mixed (fun vs w => by kernel_rfl) (⟨fun vs lo hi wx hB hK => Out.load1 rfl agg_24 ((hb1_0.to hB).cell 0 _ rfl), fun vs lo hi wx hB hK => Out.load1 rfl agg_24 ((hb1_1.to hB).cell 0 _ rfl), fun vs lo hi wx hB hK => Out.call (by kernel_rfl) (c_laws_eqLabLinkS _ a_a_Links c_a_Links a.Links (h_a_Links.below (btr e2 hB)) a_b_Links c_b_Links b.Links (h_b_Links.below (btr e2 hB))) (fun _ _ h => h), trivial⟩) ?_
  rintro vs4 lo4 hi4 w4 hU4
  have e5 := btr e2 hU4.1
  replace hb1_0 := hb1_0.to hU4.1
  replace hb1_1 := hb1_1.to hU4.1
  refine Rest.nil (GQ.sub [(2, .pointer (some ⟨(lo1 0), 0, none⟩)), (3, .pointer (some ⟨(lo1 1), 0, none⟩)), (10, .bool (!(decide (a.Links = b.Links))))] (by kernel_rfl) ?_)
  refine GQ.on ?_
  refine GC.cond (!(decide (a.Links = b.Links))) rfl (fun hc0 => ?_) (fun hc0 => ?_)
  · skip
    have hc0' := hc0
    try simp at hc0'
    refine GC.seq ?_
    refine GC.regW [W (.bool false)] [(4, .bool false)] mixed rfl (fun vs w => by kernel_rfl) rfl (fun vs => by kernel_rfl) ?_
    refine GQ.on ?_
    refine GC.ret ?_
    refine GQ.passRet ?_
    refine GQ.ret1 (.bool false) rfl rfl ?_
    exact ⟨_, rfl, (by first | (congr 1; symm; rw [decide_eq_false_iff_not]; rintro rfl; simp_all; done) | (congr 1; symm; rw [decide_eq_true_iff]; cases a; cases b; simp_all; done)), e5⟩
  · skip
    have hc0' := hc0
    try simp at hc0'
    refine GC.skip ?_
    refine GQ.on ?_
    refine GC.seq ?_
    refine GC.seq ?_
    refine GC.reg 6 [W (.pointer (some ⟨(lo1 0), 1, none⟩)), D (.slice a_a_Boxes a.Boxes.length c_a_Boxes), W (.pointer (some ⟨(lo1 1), 1, none⟩)), D (.slice a_b_Boxes b.Boxes.length c_b_Boxes), D (.bool (decide (a.Boxes = b.Boxes))), W (.bool (!(decide (a.Boxes = b.Boxes))))] mixed (fun vs w => by kernel_rfl) (⟨fun vs lo hi wx hB hK => Out.load1 rfl agg_25 ((hb1_0.to hB).cell 1 _ rfl), fun vs lo hi wx hB hK => Out.load1 rfl agg_25 ((hb1_1.to hB).cell 1 _ rfl), fun vs lo hi wx hB hK => Out.call (by kernel_rfl) (c_laws_eqLabBoxS _ a_a_Boxes c_a_Boxes a.Boxes (h_a_Boxes.below (btr e5 hB)) a_b_Boxes c_b_Boxes b.Boxes (h_b_Boxes.below (btr e5 hB))) (fun _ _ h => h), trivial⟩) ?_
    rintro vs6 lo6 hi6 w6 hU6
    have e7 := btr e5 hU6.1
    replace hb1_0 := hb1_0.to hU6.1
    replace hb1_1 := hb1_1.to hU6.1
    refine Rest.nil (GQ.sub [(16, .bool (!(decide (a.Boxes = b.Boxes))))] (by kernel_rfl) ?_)
    refine GQ.on ?_
    refine GC.cond (!(decide (a.Boxes = b.Boxes))) rfl (fun hc1 => ?_) (fun hc1 => ?_)
    · skip
      have hc1' := hc1
      try simp at hc1'
      refine GC.seq ?_
      refine GC.regW [W (.bool false)] [(4, .bool false)] mixed rfl (fun vs w => by kernel_rfl) rfl (fun vs => by kernel_rfl) ?_
      refine GQ.on ?_
      refine GC.ret ?_
      refine GQ.passRet ?_
      refine GQ.ret1 (.bool false) rfl rfl ?_
      exact ⟨_, rfl, (by first | (congr 1; symm; rw [decide_eq_false_iff_not]; rintro rfl; simp_all; done) | (congr 1; symm; rw [decide_eq_true_iff]; cases a; cases b; simp_all; done)), e7⟩
    · skip
      have hc1' := hc1
      try simp at hc1'
      refine GC.skip ?_
      refine GQ.on ?_
      refine GC.seq ?_
      refine GC.regW [W (.bool true)] [(4, .bool true)] mixed rfl (fun vs w => by kernel_rfl) rfl (fun vs => by kernel_rfl) ?_
      refine GQ.on ?_
      refine GC.ret ?_
      refine GQ.ret1 (.bool true) rfl rfl ?_
      exact ⟨_, rfl, (by first | (congr 1; symm; rw [decide_eq_false_iff_not]; rintro rfl; simp_all; done) | (congr 1; symm; rw [decide_eq_true_iff]; cases a; cases b; simp_all; done)), e7⟩
end Go.Proofs.Ytfehpdcfndhniaa
