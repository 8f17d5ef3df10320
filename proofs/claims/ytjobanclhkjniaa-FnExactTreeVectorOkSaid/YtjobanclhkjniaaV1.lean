/-
  The law FnExactTreeVectorOk: for every vector the program and the reference say the same of it, and the law answers true. No condition.
-/
import Derived.Test.YtjobanclhkjniaaRows
import Derived.Test.YtjobanclhkjniaaK3
namespace Go.Proofs.Ytjobanclhkjniaa
open Go.RowKit Go.ChangeShapes Go.WideShapes Go.ChangeAt
theorem mixed : Try.prog.follows .mixedOrders = true := Checked.mixed Try.checked
structure TreeVector where
  Root : Int
  Cost : Int
  Age : Int
def rpTreeVector : Rp TreeVector where
  sz := 3
  rd _ cs x := cs = [.int .i64 x.Root, .int .i64 x.Cost, .int .i64 x.Age]
  mono _ h := h
theorem agg_3 : aggOf Try.prog 3 = some false := by kernel_rfl
theorem size_3 : (Try.prog.info? 3).map (·.size) = some 1 := by kernel_rfl
theorem agg_23 : aggOf Try.prog 23 = some true := by kernel_rfl
theorem size_23 : (Try.prog.info? 23).map (·.size) = some 3 := by kernel_rfl
theorem agg_25 : aggOf Try.prog 25 = some true := by kernel_rfl
theorem size_25 : (Try.prog.info? 25).map (·.size) = some 3 := by kernel_rfl
theorem Out.eqT25 {E : Sl} {w : World} {x y : Operand} {d ty pos af g T} {x0 y0 : Int} { x1 y1 : Int} { x2 y2 : Int} (hx : evL E x = .agg #[.int .i64 x0, .int .i64 x1, .int .i64 x2]) (hy : evL E y = .agg #[.int .i64 y0, .int .i64 y1, .int .i64 y2]) :
    Out Try.prog (fun v' w' => v' = .bool (((x0 == y0) && ((x1 == y1) && (x2 == y2)))) ∧ Below w.heap.size w w') ((execOp (evL E) ⟨d, .binOp .eql 25 x y T, ty, pos, af, g⟩).run Try.prog w) := by
  refine Out.of_run ?_
  by_cases h0 : x0 = y0
  case neg => simp [execOp, hx, hy, go_sem, h0]
  by_cases h1 : x1 = y1
  case neg => simp [execOp, hx, hy, go_sem, h0, h1]
  by_cases h2 : x2 = y2
  case neg => simp [execOp, hx, hy, go_sem, h0, h1, h2]
  simp [execOp, hx, hy, go_sem, h0, h1, h2]
theorem Out.neT25 {E : Sl} {w : World} {x y : Operand} {d ty pos af g T} {x0 y0 : Int} { x1 y1 : Int} { x2 y2 : Int} (hx : evL E x = .agg #[.int .i64 x0, .int .i64 x1, .int .i64 x2]) (hy : evL E y = .agg #[.int .i64 y0, .int .i64 y1, .int .i64 y2]) :
    Out Try.prog (fun v' w' => v' = .bool (!((x0 == y0) && ((x1 == y1) && (x2 == y2)))) ∧ Below w.heap.size w w') ((execOp (evL E) ⟨d, .binOp .neq 25 x y T, ty, pos, af, g⟩).run Try.prog w) := by
  refine Out.of_run ?_
  by_cases h0 : x0 = y0
  case neg => simp [execOp, hx, hy, go_sem, h0]
  by_cases h1 : x1 = y1
  case neg => simp [execOp, hx, hy, go_sem, h0, h1]
  by_cases h2 : x2 = y2
  case neg => simp [execOp, hx, hy, go_sem, h0, h1, h2]
  simp [execOp, hx, hy, go_sem, h0, h1, h2]
def tvI (v : TreeVector) : Bool := (v.Root == 0 && (v.Cost == 0 && v.Age == 0)) || ((decide (1 ≤ v.Root) && decide (v.Root ≤ 1000)) && (decide (0 ≤ v.Cost) && decide (v.Cost ≤ 1000)) && (decide (0 ≤ v.Age) && decide (v.Age ≤ 10)))
def tvS (v : TreeVector) : Bool := if v.Root == 0 then v.Cost == 0 && v.Age == 0 else (decide (v.Root ≥ 1) && decide (v.Root ≤ 1000)) && (decide (v.Cost ≥ 0) && decide (v.Cost ≤ 1000)) && (decide (v.Age ≥ 0) && decide (v.Age ≤ 10))
theorem tv_eq (v : TreeVector) : tvI v = tvS v := by
  unfold tvI tvS
  by_cases h : v.Root = 0 <;> simp [h]
/-- impl.within -/
theorem c_impl_within (w : World) (n : Int) (lo : Int) (hi : Int) :
    Calls Try.prog 25 #[.int .i64 n, .int .i64 lo, .int .i64 hi] w fun e w' => ∃ rv, e = .returned rv ∧ (rv = .bool (decide (lo ≤ n) && decide (n ≤ hi)) ∧ Below w.heap.size w w') := by
  refine enter [(0, .int .i64 n), (1, .int .i64 lo), (2, .int .i64 hi)] Try.func25 rfl (by kernel_rfl) (by kernel_rfl) ?_
  have e0 := brefl w
  refine GC.seq ?_
  refine GC.regW [W (.bool false)] [(0, .int .i64 n), (1, .int .i64 lo), (2, .int .i64 hi)] mixed rfl (fun vs w => by kernel_rfl) rfl (fun vs => by kernel_rfl) ?_
  refine GQ.on ?_
  refine GC.seq ?_
  refine GC.abs [(6, .bool ((decide (lo ≤ n)) && (decide (n ≤ hi))))] (fun w' => Below w.heap.size w w') (fun Q' hQ3 => ?_) (fun w1 hE2 => ?_)
  · skip
    cases hB4 : (decide (lo ≤ n))
    · skip
      have hB4' := hB4
      try simp at hB4'
      refine GC.reg 9 [W (.int .i64 lo), W (.int .i64 n), D (.bool false), W (.bool false), S, S, S, W (.bool false), W (.bool false)] mixed (fun vs w => by kernel_rfl) (⟨fun vs lo hi wx hB hK => Out.asB (Out.of_run (by kernel_rfl)) hB4, trivial⟩) ?_
      rintro vs5 lo5 hi5 w5 hU5
      exact Rest.nil (GQ.sub [(6, .bool ((decide (lo ≤ n)) && (decide (n ≤ hi))))] (by (try simp only [hB4]); kernel_rfl) (hQ3 _ hU5.1))
    · skip
      have hB4' := hB4
      try simp at hB4'
      refine GC.reg 9 [W (.int .i64 lo), W (.int .i64 n), D (.bool true), W (.bool true), W (.int .i64 n), W (.int .i64 hi), W (.bool (decide (n ≤ hi))), W (.bool (decide (n ≤ hi))), W (.bool (decide (n ≤ hi)))] mixed (fun vs w => by kernel_rfl) (⟨fun vs lo hi wx hB hK => Out.asB (Out.of_run (by kernel_rfl)) hB4, trivial⟩) ?_
      rintro vs6 lo6 hi6 w6 hU6
      exact Rest.nil (GQ.sub [(6, .bool ((decide (lo ≤ n)) && (decide (n ≤ hi))))] (by (try simp only [hB4]); kernel_rfl) (hQ3 _ hU6.1))
  · skip
    have e7 := btr e0 hE2
    refine GQ.on ?_
    refine GC.ret ?_
    refine GQ.ret1 (.bool ((decide (lo ≤ n)) && (decide (n ≤ hi)))) rfl rfl ?_
    exact ⟨_, rfl, rfl, e7⟩
/-- spec.l81In -/
theorem c_spec_l81In (w : World) (n : Int) (lo : Int) (hi : Int) :
    Calls Try.prog 23 #[.int .i64 n, .int .i64 lo, .int .i64 hi] w fun e w' => ∃ rv, e = .returned rv ∧ (rv = .bool (decide (n ≥ lo) && decide (n ≤ hi)) ∧ Below w.heap.size w w') := by
  refine enter [(0, .int .i64 n), (1, .int .i64 lo), (2, .int .i64 hi)] Try.func23 rfl (by kernel_rfl) (by kernel_rfl) ?_
  have e0 := brefl w
  refine GC.seq ?_
  refine GC.regW [W (.bool false)] [(0, .int .i64 n), (1, .int .i64 lo), (2, .int .i64 hi)] mixed rfl (fun vs w => by kernel_rfl) rfl (fun vs => by kernel_rfl) ?_
  refine GQ.on ?_
  refine GC.seq ?_
  refine GC.abs [(6, .bool ((decide (n ≥ lo)) && (decide (n ≤ hi))))] (fun w' => Below w.heap.size w w') (fun Q' hQ3 => ?_) (fun w1 hE2 => ?_)
  · skip
    cases hB4 : (decide (n ≥ lo))
    · skip
      have hB4' := hB4
      try simp at hB4'
      refine GC.reg 9 [W (.int .i64 n), W (.int .i64 lo), D (.bool false), W (.bool false), S, S, S, W (.bool false), W (.bool false)] mixed (fun vs w => by kernel_rfl) (⟨fun vs lo hi wx hB hK => Out.asB (Out.of_run (by kernel_rfl)) hB4, trivial⟩) ?_
      rintro vs5 lo5 hi5 w5 hU5
      exact Rest.nil (GQ.sub [(6, .bool ((decide (n ≥ lo)) && (decide (n ≤ hi))))] (by (try simp only [hB4]); kernel_rfl) (hQ3 _ hU5.1))
    · skip
      have hB4' := hB4
      try simp at hB4'
      refine GC.reg 9 [W (.int .i64 n), W (.int .i64 lo), D (.bool true), W (.bool true), W (.int .i64 n), W (.int .i64 hi), W (.bool (decide (n ≤ hi))), W (.bool (decide (n ≤ hi))), W (.bool (decide (n ≤ hi)))] mixed (fun vs w => by kernel_rfl) (⟨fun vs lo hi wx hB hK => Out.asB (Out.of_run (by kernel_rfl)) hB4, trivial⟩) ?_
      rintro vs6 lo6 hi6 w6 hU6
      exact Rest.nil (GQ.sub [(6, .bool ((decide (n ≥ lo)) && (decide (n ≤ hi))))] (by (try simp only [hB4]); kernel_rfl) (hQ3 _ hU6.1))
  · skip
    have e7 := btr e0 hE2
    refine GQ.on ?_
    refine GC.ret ?_
    refine GQ.ret1 (.bool ((decide (n ≥ lo)) && (decide (n ≤ hi)))) rfl rfl ?_
    exact ⟨_, rfl, rfl, e7⟩
/-- (impl.TreeVector).nothing -/
theorem c_impl_TreeVector__nothing (w : World) (v : TreeVector) (cs_v : List Value) (h_v : rpTreeVector.rd w cs_v v) :
    Calls Try.prog 24 #[.agg cs_v.toArray] w fun e w' => ∃ rv, e = .returned rv ∧ (rv = .bool (v.Root == 0 && (v.Cost == 0 && v.Age == 0)) ∧ Below w.heap.size w w') := by
  obtain rfl := h_v
  refine enter [(0, .agg #[.int .i64 v.Root, .int .i64 v.Cost, .int .i64 v.Age])] Try.func24 rfl (by kernel_rfl) (by kernel_rfl) ?_
  have e0 := brefl w
  refine GC.seq ?_
  refine GC.reg 2 [RB 0 25 [.int .i64 v.Root, .int .i64 v.Cost, .int .i64 v.Age], W (.bool false)] mixed (fun vs w => by kernel_rfl) (⟨fun vs lo hi wx hB hK => Out.box rfl, trivial⟩) ?_
  rintro vs1 lo1 hi1 w1 hU1
  have e2 := btr e0 hU1.1
  obtain ⟨⟨hv1_0, hp1_0, hb1_0⟩, hl1_0, -, -⟩ := hU1.2.1 0 _ rfl trivial
  replace hl1_0 := Nat.le_trans e0.size hl1_0
  refine Rest.nil (GQ.sub [(1, .pointer (some ⟨(lo1 0), 0, none⟩))] (by rw [← hv1_0]; kernel_rfl) ?_)
  refine GQ.on ?_
  refine GC.seq ?_
  refine GC.reg 4 [D (.agg #[.int .i64 v.Root, .int .i64 v.Cost, .int .i64 v.Age]), W (.agg #[.int .i64 0, .int .i64 0, .int .i64 0]), D (.bool ((v.Root == 0) && ((v.Cost == 0) && (v.Age == 0)))), W (.bool ((v.Root == 0) && ((v.Cost == 0) && (v.Age == 0))))] mixed (fun vs w => by kernel_rfl) (⟨fun vs lo hi wx hB hK => Out.loadA rfl agg_25 size_25 ((hb1_0.to hB).has 0 _ rfl), fun vs lo hi wx hB hK => Out.eqT25 rfl rfl, trivial⟩) ?_
  rintro vs3 lo3 hi3 w3 hU3
  have e4 := btr e2 hU3.1
  replace hb1_0 := hb1_0.to hU3.1
  refine Rest.nil (GQ.sub [(2, .bool ((v.Root == 0) && ((v.Cost == 0) && (v.Age == 0))))] (by kernel_rfl) ?_)
  refine GQ.on ?_
  refine GC.ret ?_
  refine GQ.ret1 (.bool ((v.Root == 0) && ((v.Cost == 0) && (v.Age == 0)))) rfl rfl ?_
  exact ⟨_, rfl, rfl, e4⟩
/-- impl.TreeVectorOk -/
theorem c_impl_TreeVectorOk (w : World) (v : TreeVector) (cs_v : List Value) (h_v : rpTreeVector.rd w cs_v v) :
    Calls Try.prog 8 #[.agg cs_v.toArray] w fun e w' => ∃ rv, e = .returned rv ∧ (rv = .bool (tvI v) ∧ Below w.heap.size w w') := by
  obtain rfl := h_v
  refine enter [(0, .agg #[.int .i64 v.Root, .int .i64 v.Cost, .int .i64 v.Age])] Try.func8 rfl (by kernel_rfl) (by kernel_rfl) ?_
  have e0 := brefl w
  refine GC.seq ?_
  refine GC.reg 2 [RB 0 25 [.int .i64 v.Root, .int .i64 v.Cost, .int .i64 v.Age], W (.bool false)] mixed (fun vs w => by kernel_rfl) (⟨fun vs lo hi wx hB hK => Out.box rfl, trivial⟩) ?_
  rintro vs1 lo1 hi1 w1 hU1
  have e2 := btr e0 hU1.1
  obtain ⟨⟨hv1_0, hp1_0, hb1_0⟩, hl1_0, -, -⟩ := hU1.2.1 0 _ rfl trivial
  replace hl1_0 := Nat.le_trans e0.size hl1_0
  refine Rest.nil (GQ.sub [(1, .pointer (some ⟨(lo1 0), 0, none⟩))] (by rw [← hv1_0]; kernel_rfl) ?_)
  refine GQ.on ?_
  refine GC.seq ?_
  refine GC.abs [(2, .bool ((v.Root == 0 && (v.Cost == 0 && v.Age == 0)) || ((decide (1 ≤ v.Root) && decide (v.Root ≤ 1000)) && ((decide (0 ≤ v.Cost) && decide (v.Cost ≤ 1000)) && (decide (0 ≤ v.Age) && decide (v.Age ≤ 10))))))] (fun w' => Below w1.heap.size w1 w') (fun Q' hQ5 => ?_) (fun w3 hE4 => ?_)
  · skip
    cases hB6 : (v.Root == 0 && (v.Cost == 0 && v.Age == 0))
    · skip
      have hB6' := hB6
      try simp at hB6'
      cases hB7 : (decide (1 ≤ v.Root) && decide (v.Root ≤ 1000))
      · skip
        have hB7' := hB7
        try simp at hB7'
        refine GC.reg 18 [D (.agg #[.int .i64 v.Root, .int .i64 v.Cost, .int .i64 v.Age]), D (.bool false), W (.bool false), W (.pointer (some ⟨(lo1 0), 0, none⟩)), D (.int .i64 v.Root), D (.bool false), W (.bool false), S, S, S, W (.bool false), W (.bool false), S, S, S, W (.bool false), W (.bool false), W (.bool false)] mixed (fun vs w => by kernel_rfl) (⟨fun vs lo hi wx hB hK => Out.loadA rfl agg_25 size_25 ((hb1_0.to hB).has 0 _ rfl), fun vs lo hi wx hB hK => Out.asB (Out.call (by kernel_rfl) (c_impl_TreeVector__nothing _ v ([.int .i64 v.Root, .int .i64 v.Cost, .int .i64 v.Age]) (show rpTreeVector.rd _ _ _ from rfl)) (fun _ _ h => h)) hB6, fun vs lo hi wx hB hK => Out.load1 rfl agg_3 ((hb1_0.to hB).cell 0 _ rfl), fun vs lo hi wx hB hK => Out.asB (Out.call (by kernel_rfl) (c_impl_within _ v.Root 1 1000) (fun _ _ h => h)) hB7, trivial⟩) ?_
        rintro vs8 lo8 hi8 w8 hU8
        exact Rest.nil (GQ.sub [(2, .bool ((v.Root == 0 && (v.Cost == 0 && v.Age == 0)) || ((decide (1 ≤ v.Root) && decide (v.Root ≤ 1000)) && ((decide (0 ≤ v.Cost) && decide (v.Cost ≤ 1000)) && (decide (0 ≤ v.Age) && decide (v.Age ≤ 10))))))] (by (try simp only [hB6]); (try simp only [hB7]); kernel_rfl) (hQ5 _ hU8.1))
      · skip
        have hB7' := hB7
        try simp at hB7'
        cases hB9 : (decide (0 ≤ v.Cost) && decide (v.Cost ≤ 1000))
        · skip
          have hB9' := hB9
          try simp at hB9'
          refine GC.reg 18 [D (.agg #[.int .i64 v.Root, .int .i64 v.Cost, .int .i64 v.Age]), D (.bool false), W (.bool false), W (.pointer (some ⟨(lo1 0), 0, none⟩)), D (.int .i64 v.Root), D (.bool true), W (.bool true), W (.pointer (some ⟨(lo1 0), 1, none⟩)), D (.int .i64 v.Cost), D (.bool false), W (.bool false), W (.bool false), S, S, S, W (.bool false), W (.bool false), W (.bool false)] mixed (fun vs w => by kernel_rfl) (⟨fun vs lo hi wx hB hK => Out.loadA rfl agg_25 size_25 ((hb1_0.to hB).has 0 _ rfl), fun vs lo hi wx hB hK => Out.asB (Out.call (by kernel_rfl) (c_impl_TreeVector__nothing _ v ([.int .i64 v.Root, .int .i64 v.Cost, .int .i64 v.Age]) (show rpTreeVector.rd _ _ _ from rfl)) (fun _ _ h => h)) hB6, fun vs lo hi wx hB hK => Out.load1 rfl agg_3 ((hb1_0.to hB).cell 0 _ rfl), fun vs lo hi wx hB hK => Out.asB (Out.call (by kernel_rfl) (c_impl_within _ v.Root 1 1000) (fun _ _ h => h)) hB7, fun vs lo hi wx hB hK => Out.load1 rfl agg_3 ((hb1_0.to hB).cell 1 _ rfl), fun vs lo hi wx hB hK => Out.asB (Out.call (by kernel_rfl) (c_impl_within _ v.Cost 0 1000) (fun _ _ h => h)) hB9, trivial⟩) ?_
          rintro vs10 lo10 hi10 w10 hU10
          exact Rest.nil (GQ.sub [(2, .bool ((v.Root == 0 && (v.Cost == 0 && v.Age == 0)) || ((decide (1 ≤ v.Root) && decide (v.Root ≤ 1000)) && ((decide (0 ≤ v.Cost) && decide (v.Cost ≤ 1000)) && (decide (0 ≤ v.Age) && decide (v.Age ≤ 10))))))] (by (try simp only [hB6]); (try simp only [hB7]); (try simp only [hB9]); kernel_rfl) (hQ5 _ hU10.1))
        · skip
          have hB9' := hB9
          try simp at hB9'
          refine GC.reg 18 [D (.agg #[.int .i64 v.Root, .int .i64 v.Cost, .int .i64 v.Age]), D (.bool false), W (.bool false), W (.pointer (some ⟨(lo1 0), 0, none⟩)), D (.int .i64 v.Root), D (.bool true), W (.bool true), W (.pointer (some ⟨(lo1 0), 1, none⟩)), D (.int .i64 v.Cost), D (.bool true), W (.bool true), W (.bool true), W (.pointer (some ⟨(lo1 0), 2, none⟩)), D (.int .i64 v.Age), D (.bool (decide (0 ≤ v.Age) && decide (v.Age ≤ 10))), W (.bool (decide (0 ≤ v.Age) && decide (v.Age ≤ 10))), W (.bool (decide (0 ≤ v.Age) && decide (v.Age ≤ 10))), W (.bool (decide (0 ≤ v.Age) && decide (v.Age ≤ 10)))] mixed (fun vs w => by kernel_rfl) (⟨fun vs lo hi wx hB hK => Out.loadA rfl agg_25 size_25 ((hb1_0.to hB).has 0 _ rfl), fun vs lo hi wx hB hK => Out.asB (Out.call (by kernel_rfl) (c_impl_TreeVector__nothing _ v ([.int .i64 v.Root, .int .i64 v.Cost, .int .i64 v.Age]) (show rpTreeVector.rd _ _ _ from rfl)) (fun _ _ h => h)) hB6, fun vs lo hi wx hB hK => Out.load1 rfl agg_3 ((hb1_0.to hB).cell 0 _ rfl), fun vs lo hi wx hB hK => Out.asB (Out.call (by kernel_rfl) (c_impl_within _ v.Root 1 1000) (fun _ _ h => h)) hB7, fun vs lo hi wx hB hK => Out.load1 rfl agg_3 ((hb1_0.to hB).cell 1 _ rfl), fun vs lo hi wx hB hK => Out.asB (Out.call (by kernel_rfl) (c_impl_within _ v.Cost 0 1000) (fun _ _ h => h)) hB9, fun vs lo hi wx hB hK => Out.load1 rfl agg_3 ((hb1_0.to hB).cell 2 _ rfl), fun vs lo hi wx hB hK => Out.call (by kernel_rfl) (c_impl_within _ v.Age 0 10) (fun _ _ h => h), trivial⟩) ?_
          rintro vs11 lo11 hi11 w11 hU11
          exact Rest.nil (GQ.sub [(2, .bool ((v.Root == 0 && (v.Cost == 0 && v.Age == 0)) || ((decide (1 ≤ v.Root) && decide (v.Root ≤ 1000)) && ((decide (0 ≤ v.Cost) && decide (v.Cost ≤ 1000)) && (decide (0 ≤ v.Age) && decide (v.Age ≤ 10))))))] (by (try simp only [hB6]); (try simp only [hB7]); (try simp only [hB9]); kernel_rfl) (hQ5 _ hU11.1))
    · skip
      have hB6' := hB6
      try simp at hB6'
      refine GC.reg 18 [D (.agg #[.int .i64 v.Root, .int .i64 v.Cost, .int .i64 v.Age]), D (.bool true), W (.bool true), S, S, S, S, S, S, S, S, S, S, S, S, S, W (.bool true), W (.bool true)] mixed (fun vs w => by kernel_rfl) (⟨fun vs lo hi wx hB hK => Out.loadA rfl agg_25 size_25 ((hb1_0.to hB).has 0 _ rfl), fun vs lo hi wx hB hK => Out.asB (Out.call (by kernel_rfl) (c_impl_TreeVector__nothing _ v ([.int .i64 v.Root, .int .i64 v.Cost, .int .i64 v.Age]) (show rpTreeVector.rd _ _ _ from rfl)) (fun _ _ h => h)) hB6, trivial⟩) ?_
      rintro vs12 lo12 hi12 w12 hU12
      exact Rest.nil (GQ.sub [(2, .bool ((v.Root == 0 && (v.Cost == 0 && v.Age == 0)) || ((decide (1 ≤ v.Root) && decide (v.Root ≤ 1000)) && ((decide (0 ≤ v.Cost) && decide (v.Cost ≤ 1000)) && (decide (0 ≤ v.Age) && decide (v.Age ≤ 10))))))] (by (try simp only [hB6]); kernel_rfl) (hQ5 _ hU12.1))
  · skip
    have e13 := btr e2 hE4
    replace hb1_0 := hb1_0.to hE4
    refine GQ.on ?_
    refine GC.ret ?_
    refine GQ.ret1 (.bool ((v.Root == 0 && (v.Cost == 0 && v.Age == 0)) || ((decide (1 ≤ v.Root) && decide (v.Root ≤ 1000)) && ((decide (0 ≤ v.Cost) && decide (v.Cost ≤ 1000)) && (decide (0 ≤ v.Age) && decide (v.Age ≤ 10)))))) rfl rfl ?_
    exact ⟨_, rfl, (by simp [tvI, Bool.and_assoc]), e13⟩
/-- spec.TreeVectorOk -/
theorem c_spec_TreeVectorOk (w : World) (v : TreeVector) (cs_v : List Value) (h_v : rpTreeVector.rd w cs_v v) :
    Calls Try.prog 6 #[.agg cs_v.toArray] w fun e w' => ∃ rv, e = .returned rv ∧ (rv = .bool (tvS v) ∧ Below w.heap.size w w') := by
  obtain rfl := h_v
  refine enter [(0, .agg #[.int .i64 v.Root, .int .i64 v.Cost, .int .i64 v.Age])] Try.func6 rfl (by kernel_rfl) (by kernel_rfl) ?_
  have e0 := brefl w
  refine GC.seq ?_
  refine GC.reg 2 [RB 0 25 [.int .i64 v.Root, .int .i64 v.Cost, .int .i64 v.Age], W (.bool false)] mixed (fun vs w => by kernel_rfl) (⟨fun vs lo hi wx hB hK => Out.box rfl, trivial⟩) ?_
  rintro vs1 lo1 hi1 w1 hU1
  have e2 := btr e0 hU1.1
  obtain ⟨⟨hv1_0, hp1_0, hb1_0⟩, hl1_0, -, -⟩ := hU1.2.1 0 _ rfl trivial
  replace hl1_0 := Nat.le_trans e0.size hl1_0
  refine Rest.nil (GQ.sub [(1, .pointer (some ⟨(lo1 0), 0, none⟩))] (by rw [← hv1_0]; kernel_rfl) ?_)
  refine GQ.on ?_
  refine GC.seq ?_
  refine GC.seq ?_
  refine GC.reg 3 [W (.pointer (some ⟨(lo1 0), 0, none⟩)), D (.int .i64 v.Root), W (.bool (v.Root == (0 : Int)))] mixed (fun vs w => by kernel_rfl) (⟨fun vs lo hi wx hB hK => Out.load1 rfl agg_3 ((hb1_0.to hB).cell 0 _ rfl), trivial⟩) ?_
  rintro vs3 lo3 hi3 w3 hU3
  have e4 := btr e2 hU3.1
  replace hb1_0 := hb1_0.to hU3.1
  refine Rest.nil (GQ.sub [(1, .pointer (some ⟨(lo1 0), 0, none⟩)), (5, .bool (v.Root == (0 : Int)))] (by kernel_rfl) ?_)
  refine GQ.on ?_
  refine GC.cond (v.Root == (0 : Int)) rfl (fun hc5 => ?_) (fun hc5 => ?_)
  · skip
    have hc5' := hc5
    try simp at hc5'
    refine GC.seq ?_
    refine GC.abs [(2, .bool ((v.Cost == (0 : Int)) && (v.Age == (0 : Int))))] (fun w' => Below w3.heap.size w3 w') (fun Q' hQ8 => ?_) (fun w6 hE7 => ?_)
    · skip
      cases hB9 : (v.Cost == (0 : Int))
      · skip
        have hB9' := hB9
        try simp at hB9'
        refine GC.reg 9 [W (.pointer (some ⟨(lo1 0), 1, none⟩)), D (.int .i64 v.Cost), D (.bool false), W (.bool false), S, S, S, W (.bool false), W (.bool false)] mixed (fun vs w => by kernel_rfl) (⟨fun vs lo hi wx hB hK => Out.load1 rfl agg_3 ((hb1_0.to hB).cell 1 _ rfl), fun vs lo hi wx hB hK => Out.asB (Out.of_run (by kernel_rfl)) hB9, trivial⟩) ?_
        rintro vs10 lo10 hi10 w10 hU10
        exact Rest.nil (GQ.sub [(2, .bool ((v.Cost == (0 : Int)) && (v.Age == (0 : Int))))] (by (try simp only [hB9]); kernel_rfl) (hQ8 _ hU10.1))
      · skip
        have hB9' := hB9
        try simp at hB9'
        refine GC.reg 9 [W (.pointer (some ⟨(lo1 0), 1, none⟩)), D (.int .i64 v.Cost), D (.bool true), W (.bool true), W (.pointer (some ⟨(lo1 0), 2, none⟩)), D (.int .i64 v.Age), W (.bool (v.Age == (0 : Int))), W (.bool (v.Age == (0 : Int))), W (.bool (v.Age == (0 : Int)))] mixed (fun vs w => by kernel_rfl) (⟨fun vs lo hi wx hB hK => Out.load1 rfl agg_3 ((hb1_0.to hB).cell 1 _ rfl), fun vs lo hi wx hB hK => Out.asB (Out.of_run (by kernel_rfl)) hB9, fun vs lo hi wx hB hK => Out.load1 rfl agg_3 ((hb1_0.to hB).cell 2 _ rfl), trivial⟩) ?_
        rintro vs11 lo11 hi11 w11 hU11
        exact Rest.nil (GQ.sub [(2, .bool ((v.Cost == (0 : Int)) && (v.Age == (0 : Int))))] (by (try simp only [hB9]); kernel_rfl) (hQ8 _ hU11.1))
    · skip
      have e12 := btr e4 hE7
      replace hb1_0 := hb1_0.to hE7
      refine GQ.on ?_
      refine GC.ret ?_
      refine GQ.passRet ?_
      refine GQ.ret1 (.bool ((v.Cost == (0 : Int)) && (v.Age == (0 : Int)))) rfl rfl ?_
      exact ⟨_, rfl, (by first | (simp [tvS, *]; done) | simp [tvS, *, Bool.and_assoc]), e12⟩
  · skip
    have hc5' := hc5
    try simp at hc5'
    refine GC.skip ?_
    refine GQ.on ?_
    refine GC.seq ?_
    refine GC.abs [(2, .bool ((decide (v.Root ≥ 1) && decide (v.Root ≤ 1000)) && ((decide (v.Cost ≥ 0) && decide (v.Cost ≤ 1000)) && (decide (v.Age ≥ 0) && decide (v.Age ≤ 10)))))] (fun w' => Below w3.heap.size w3 w') (fun Q' hQ15 => ?_) (fun w13 hE14 => ?_)
    · skip
      cases hB16 : (decide (v.Root ≥ 1) && decide (v.Root ≤ 1000))
      · skip
        have hB16' := hB16
        try simp at hB16'
        refine GC.reg 14 [W (.pointer (some ⟨(lo1 0), 0, none⟩)), D (.int .i64 v.Root), D (.bool false), W (.bool false), S, S, S, W (.bool false), W (.bool false), S, S, S, W (.bool false), W (.bool false)] mixed (fun vs w => by kernel_rfl) (⟨fun vs lo hi wx hB hK => Out.load1 rfl agg_3 ((hb1_0.to hB).cell 0 _ rfl), fun vs lo hi wx hB hK => Out.asB (Out.call (by kernel_rfl) (c_spec_l81In _ v.Root 1 1000) (fun _ _ h => h)) hB16, trivial⟩) ?_
        rintro vs17 lo17 hi17 w17 hU17
        exact Rest.nil (GQ.sub [(2, .bool ((decide (v.Root ≥ 1) && decide (v.Root ≤ 1000)) && ((decide (v.Cost ≥ 0) && decide (v.Cost ≤ 1000)) && (decide (v.Age ≥ 0) && decide (v.Age ≤ 10)))))] (by (try simp only [hB16]); kernel_rfl) (hQ15 _ hU17.1))
      · skip
        have hB16' := hB16
        try simp at hB16'
        cases hB18 : (decide (v.Cost ≥ 0) && decide (v.Cost ≤ 1000))
        · skip
          have hB18' := hB18
          try simp at hB18'
          refine GC.reg 14 [W (.pointer (some ⟨(lo1 0), 0, none⟩)), D (.int .i64 v.Root), D (.bool true), W (.bool true), W (.pointer (some ⟨(lo1 0), 1, none⟩)), D (.int .i64 v.Cost), D (.bool false), W (.bool false), W (.bool false), S, S, S, W (.bool false), W (.bool false)] mixed (fun vs w => by kernel_rfl) (⟨fun vs lo hi wx hB hK => Out.load1 rfl agg_3 ((hb1_0.to hB).cell 0 _ rfl), fun vs lo hi wx hB hK => Out.asB (Out.call (by kernel_rfl) (c_spec_l81In _ v.Root 1 1000) (fun _ _ h => h)) hB16, fun vs lo hi wx hB hK => Out.load1 rfl agg_3 ((hb1_0.to hB).cell 1 _ rfl), fun vs lo hi wx hB hK => Out.asB (Out.call (by kernel_rfl) (c_spec_l81In _ v.Cost 0 1000) (fun _ _ h => h)) hB18, trivial⟩) ?_
          rintro vs19 lo19 hi19 w19 hU19
          exact Rest.nil (GQ.sub [(2, .bool ((decide (v.Root ≥ 1) && decide (v.Root ≤ 1000)) && ((decide (v.Cost ≥ 0) && decide (v.Cost ≤ 1000)) && (decide (v.Age ≥ 0) && decide (v.Age ≤ 10)))))] (by (try simp only [hB16]); (try simp only [hB18]); kernel_rfl) (hQ15 _ hU19.1))
        · skip
          have hB18' := hB18
          try simp at hB18'
          refine GC.reg 14 [W (.pointer (some ⟨(lo1 0), 0, none⟩)), D (.int .i64 v.Root), D (.bool true), W (.bool true), W (.pointer (some ⟨(lo1 0), 1, none⟩)), D (.int .i64 v.Cost), D (.bool true), W (.bool true), W (.bool true), W (.pointer (some ⟨(lo1 0), 2, none⟩)), D (.int .i64 v.Age), D (.bool (decide (v.Age ≥ 0) && decide (v.Age ≤ 10))), W (.bool (decide (v.Age ≥ 0) && decide (v.Age ≤ 10))), W (.bool (decide (v.Age ≥ 0) && decide (v.Age ≤ 10)))] mixed (fun vs w => by kernel_rfl) (⟨fun vs lo hi wx hB hK => Out.load1 rfl agg_3 ((hb1_0.to hB).cell 0 _ rfl), fun vs lo hi wx hB hK => Out.asB (Out.call (by kernel_rfl) (c_spec_l81In _ v.Root 1 1000) (fun _ _ h => h)) hB16, fun vs lo hi wx hB hK => Out.load1 rfl agg_3 ((hb1_0.to hB).cell 1 _ rfl), fun vs lo hi wx hB hK => Out.asB (Out.call (by kernel_rfl) (c_spec_l81In _ v.Cost 0 1000) (fun _ _ h => h)) hB18, fun vs lo hi wx hB hK => Out.load1 rfl agg_3 ((hb1_0.to hB).cell 2 _ rfl), fun vs lo hi wx hB hK => Out.call (by kernel_rfl) (c_spec_l81In _ v.Age 0 10) (fun _ _ h => h), trivial⟩) ?_
          rintro vs20 lo20 hi20 w20 hU20
          exact Rest.nil (GQ.sub [(2, .bool ((decide (v.Root ≥ 1) && decide (v.Root ≤ 1000)) && ((decide (v.Cost ≥ 0) && decide (v.Cost ≤ 1000)) && (decide (v.Age ≥ 0) && decide (v.Age ≤ 10)))))] (by (try simp only [hB16]); (try simp only [hB18]); kernel_rfl) (hQ15 _ hU20.1))
    · skip
      have e21 := btr e4 hE14
      replace hb1_0 := hb1_0.to hE14
      refine GQ.on ?_
      refine GC.ret ?_
      refine GQ.ret1 (.bool ((decide (v.Root ≥ 1) && decide (v.Root ≤ 1000)) && ((decide (v.Cost ≥ 0) && decide (v.Cost ≤ 1000)) && (decide (v.Age ≥ 0) && decide (v.Age ≤ 10))))) rfl rfl ?_
      exact ⟨_, rfl, (by first | (simp [tvS, *]; done) | simp [tvS, *, Bool.and_assoc]), e21⟩
/-- laws.toTreeVector -/
theorem c_laws_toTreeVector (w : World) (a : TreeVector) (cs_a : List Value) (h_a : rpTreeVector.rd w cs_a a) :
    Calls Try.prog 7 #[.agg cs_a.toArray] w fun e w' => ∃ rv, e = .returned rv ∧ (rv = .agg #[.int .i64 a.Root, .int .i64 a.Cost, .int .i64 a.Age] ∧ Below w.heap.size w w') := by
  obtain rfl := h_a
  refine enter [(0, .agg #[.int .i64 a.Root, .int .i64 a.Cost, .int .i64 a.Age])] Try.func7 rfl (by kernel_rfl) (by kernel_rfl) ?_
  have e0 := brefl w
  refine GC.seq ?_
  refine GC.reg 2 [RB 0 23 [.int .i64 a.Root, .int .i64 a.Cost, .int .i64 a.Age], RB 1 25 [.int .i64 0, .int .i64 0, .int .i64 0]] mixed (fun vs w => by kernel_rfl) (⟨fun vs lo hi wx hB hK => Out.box rfl, fun vs lo hi wx hB hK => Out.alloc (z := .agg #[.int .i64 0, .int .i64 0, .int .i64 0]) (by kernel_rfl) rfl, trivial⟩) ?_
  rintro vs1 lo1 hi1 w1 hU1
  have e2 := btr e0 hU1.1
  obtain ⟨⟨hv1_0, hp1_0, hb1_0⟩, hl1_0, -, -⟩ := hU1.2.1 0 _ rfl trivial
  replace hl1_0 := Nat.le_trans e0.size hl1_0
  obtain ⟨⟨hv1_1, hp1_1, hb1_1⟩, hl1_1, -, -⟩ := hU1.2.1 1 _ rfl trivial
  have hne3 := hU1.ne 0 1 rfl rfl trivial trivial (by decide) hp1_0 hp1_1
  replace hl1_1 := Nat.le_trans e0.size hl1_1
  refine Rest.nil (GQ.sub [(1, .pointer (some ⟨(lo1 0), 0, none⟩)), (2, .pointer (some ⟨(lo1 1), 0, none⟩))] (by rw [← hv1_0, ← hv1_1]; kernel_rfl) ?_)
  refine GQ.on ?_
  refine GC.seq ?_
  refine GC.reg 1 [RB 0 25 [.int .i64 0, .int .i64 0, .int .i64 0]] mixed (fun vs w => by kernel_rfl) (⟨fun vs lo hi wx hB hK => Out.alloc (z := .agg #[.int .i64 0, .int .i64 0, .int .i64 0]) (by kernel_rfl) rfl, trivial⟩) ?_
  rintro vs4 lo4 hi4 w4 hU4
  have hlt5 := hb1_0.lt
  have hlt6 := hb1_1.lt
  have e7 := btr e2 hU4.1
  replace hb1_0 := hb1_0.to hU4.1
  replace hb1_1 := hb1_1.to hU4.1
  obtain ⟨⟨hv4_0, hp4_0, hb4_0⟩, hl4_0, -, -⟩ := hU4.2.1 0 _ rfl trivial
  have hne8 := Nat.ne_of_lt (Nat.lt_of_lt_of_le hlt5 hl4_0)
  have hne9 := Nat.ne_of_lt (Nat.lt_of_lt_of_le hlt6 hl4_0)
  replace hl4_0 := Nat.le_trans e2.size hl4_0
  refine Rest.nil (GQ.sub [(1, .pointer (some ⟨(lo1 0), 0, none⟩)), (2, .pointer (some ⟨(lo1 1), 0, none⟩)), (3, .pointer (some ⟨(lo4 0), 0, none⟩))] (by rw [← hv4_0]; kernel_rfl) ?_)
  refine GQ.on ?_
  refine GC.seq ?_
  refine GC.reg 3 [W (.pointer (some ⟨(lo1 0), 0, none⟩)), D (.int .i64 a.Root), W (.pointer (some ⟨(lo4 0), 0, none⟩))] mixed (fun vs w => by kernel_rfl) (⟨fun vs lo hi wx hB hK => Out.load1 rfl agg_3 ((hb1_0.to hB).cell 0 _ rfl), trivial⟩) ?_
  rintro vs10 lo10 hi10 w10 hU10
  have e11 := btr e7 hU10.1
  replace hb1_0 := hb1_0.to hU10.1
  replace hb1_1 := hb1_1.to hU10.1
  replace hb4_0 := hb4_0.to hU10.1
  refine Rest.sub [(1, .pointer (some ⟨(lo1 0), 0, none⟩)), (2, .pointer (some ⟨(lo1 1), 0, none⟩)), (3, .pointer (some ⟨(lo4 0), 0, none⟩)), (5, .int .i64 a.Root), (6, .pointer (some ⟨(lo4 0), 0, none⟩))] (by kernel_rfl) ?_
  refine Rest.store [.int .i64 a.Root] [.int .i64 a.Root, .int .i64 0, .int .i64 0] rfl rfl hb4_0 size_3 rfl rfl rfl ?_
  intro w12 hC13 hb14
  have e15 := bchg1 e11 (Nat.le_refl _) hC13 hl4_0
  replace hb1_0 := hb1_0.chg hC13 hne8
  replace hb1_1 := hb1_1.chg hC13 hne9
  refine Rest.nil (GQ.sub [(1, .pointer (some ⟨(lo1 0), 0, none⟩)), (2, .pointer (some ⟨(lo1 1), 0, none⟩)), (3, .pointer (some ⟨(lo4 0), 0, none⟩))] (by kernel_rfl) ?_)
  refine GQ.on ?_
  refine GC.seq ?_
  refine GC.reg 3 [W (.pointer (some ⟨(lo1 0), 1, none⟩)), D (.int .i64 a.Cost), W (.pointer (some ⟨(lo4 0), 1, none⟩))] mixed (fun vs w => by kernel_rfl) (⟨fun vs lo hi wx hB hK => Out.load1 rfl agg_3 ((hb1_0.to hB).cell 1 _ rfl), trivial⟩) ?_
  rintro vs16 lo16 hi16 w16 hU16
  have e17 := btr e15 hU16.1
  replace hb1_0 := hb1_0.to hU16.1
  replace hb1_1 := hb1_1.to hU16.1
  replace hb14 := hb14.to hU16.1
  refine Rest.sub [(1, .pointer (some ⟨(lo1 0), 0, none⟩)), (2, .pointer (some ⟨(lo1 1), 0, none⟩)), (3, .pointer (some ⟨(lo4 0), 0, none⟩)), (8, .int .i64 a.Cost), (9, .pointer (some ⟨(lo4 0), 1, none⟩))] (by kernel_rfl) ?_
  refine Rest.store [.int .i64 a.Cost] [.int .i64 a.Root, .int .i64 a.Cost, .int .i64 0] rfl rfl hb14 size_3 rfl rfl rfl ?_
  intro w18 hC19 hb20
  have e21 := bchg1 e17 (Nat.le_refl _) hC19 hl4_0
  replace hb1_0 := hb1_0.chg hC19 hne8
  replace hb1_1 := hb1_1.chg hC19 hne9
  refine Rest.nil (GQ.sub [(1, .pointer (some ⟨(lo1 0), 0, none⟩)), (2, .pointer (some ⟨(lo1 1), 0, none⟩)), (3, .pointer (some ⟨(lo4 0), 0, none⟩))] (by kernel_rfl) ?_)
  refine GQ.on ?_
  refine GC.seq ?_
  refine GC.reg 3 [W (.pointer (some ⟨(lo1 0), 2, none⟩)), D (.int .i64 a.Age), W (.pointer (some ⟨(lo4 0), 2, none⟩))] mixed (fun vs w => by kernel_rfl) (⟨fun vs lo hi wx hB hK => Out.load1 rfl agg_3 ((hb1_0.to hB).cell 2 _ rfl), trivial⟩) ?_
  rintro vs22 lo22 hi22 w22 hU22
  have e23 := btr e21 hU22.1
  replace hb1_0 := hb1_0.to hU22.1
  replace hb1_1 := hb1_1.to hU22.1
  replace hb20 := hb20.to hU22.1
  refine Rest.sub [(2, .pointer (some ⟨(lo1 1), 0, none⟩)), (3, .pointer (some ⟨(lo4 0), 0, none⟩)), (11, .int .i64 a.Age), (12, .pointer (some ⟨(lo4 0), 2, none⟩))] (by kernel_rfl) ?_
  refine Rest.store [.int .i64 a.Age] [.int .i64 a.Root, .int .i64 a.Cost, .int .i64 a.Age] rfl rfl hb20 size_3 rfl rfl rfl ?_
  intro w24 hC25 hb26
  have e27 := bchg1 e23 (Nat.le_refl _) hC25 hl4_0
  replace hb1_0 := hb1_0.chg hC25 hne8
  replace hb1_1 := hb1_1.chg hC25 hne9
  refine Rest.nil (GQ.sub [(2, .pointer (some ⟨(lo1 1), 0, none⟩)), (3, .pointer (some ⟨(lo4 0), 0, none⟩))] (by kernel_rfl) ?_)
  refine GQ.on ?_
  refine GC.seq ?_
  refine GC.reg 1 [D (.agg #[.int .i64 a.Root, .int .i64 a.Cost, .int .i64 a.Age])] mixed (fun vs w => by kernel_rfl) (⟨fun vs lo hi wx hB hK => Out.loadA rfl agg_25 size_25 ((hb26.to hB).has 0 _ rfl), trivial⟩) ?_
  rintro vs28 lo28 hi28 w28 hU28
  have e29 := btr e27 hU28.1
  replace hb1_0 := hb1_0.to hU28.1
  replace hb1_1 := hb1_1.to hU28.1
  replace hb26 := hb26.to hU28.1
  refine Rest.sub [(2, .pointer (some ⟨(lo1 1), 0, none⟩)), (13, .agg #[.int .i64 a.Root, .int .i64 a.Cost, .int .i64 a.Age])] (by kernel_rfl) ?_
  refine Rest.store [.int .i64 a.Root, .int .i64 a.Cost, .int .i64 a.Age] [.int .i64 a.Root, .int .i64 a.Cost, .int .i64 a.Age] rfl rfl hb1_1 size_25 rfl rfl rfl ?_
  intro w30 hC31 hb32
  have e33 := bchg1 e29 (Nat.le_refl _) hC31 hl1_1
  replace hb1_0 := hb1_0.chg hC31 hne3
  replace hb26 := hb26.chg hC31 (Ne.symm hne9)
  refine Rest.nil (GQ.sub [(2, .pointer (some ⟨(lo1 1), 0, none⟩))] (by kernel_rfl) ?_)
  refine GQ.on ?_
  refine GC.ret ?_
  refine GQ.ret1 (.agg #[.int .i64 a.Root, .int .i64 a.Cost, .int .i64 a.Age]) rfl ⟨_, rfl, run_loadA agg_25 size_25 (hb32.has 0 _ rfl)⟩ ?_
  exact ⟨_, rfl, rfl, e33⟩
/-- laws.FnExactTreeVectorOk -/
theorem c_laws_FnExactTreeVectorOk (w : World) (aV : TreeVector) (cs_aV : List Value) (h_aV : rpTreeVector.rd w cs_aV aV) :
    Calls Try.prog 3 #[.agg cs_aV.toArray] w fun e w' => ∃ rv, e = .returned rv ∧ (rv = .bool true ∧ Below w.heap.size w w') := by
  obtain rfl := h_aV
  refine enter [(0, .agg #[.int .i64 aV.Root, .int .i64 aV.Cost, .int .i64 aV.Age])] Try.func3 rfl (by kernel_rfl) (by kernel_rfl) ?_
  have e0 := brefl w
  refine GC.seq ?_
  refine GC.reg 2 [RB 0 23 [.int .i64 aV.Root, .int .i64 aV.Cost, .int .i64 aV.Age], W (.bool false)] mixed (fun vs w => by kernel_rfl) (⟨fun vs lo hi wx hB hK => Out.box rfl, trivial⟩) ?_
  rintro vs1 lo1 hi1 w1 hU1
  have e2 := btr e0 hU1.1
  obtain ⟨⟨hv1_0, hp1_0, hb1_0⟩, hl1_0, -, -⟩ := hU1.2.1 0 _ rfl trivial
  replace hl1_0 := Nat.le_trans e0.size hl1_0
  refine Rest.nil (GQ.sub [(1, .pointer (some ⟨(lo1 0), 0, none⟩))] (by rw [← hv1_0]; kernel_rfl) ?_)
  refine GQ.on ?_
  refine GC.seq ?_
  refine GC.reg 4 [D (.agg #[.int .i64 aV.Root, .int .i64 aV.Cost, .int .i64 aV.Age]), D (.agg #[.int .i64 aV.Root, .int .i64 aV.Cost, .int .i64 aV.Age]), D (.bool (tvS aV)), W (.bool (tvS aV))] mixed (fun vs w => by kernel_rfl) (⟨fun vs lo hi wx hB hK => Out.loadA rfl agg_23 size_23 ((hb1_0.to hB).has 0 _ rfl), fun vs lo hi wx hB hK => Out.call (by kernel_rfl) (c_laws_toTreeVector _ aV ([.int .i64 aV.Root, .int .i64 aV.Cost, .int .i64 aV.Age]) (show rpTreeVector.rd _ _ _ from rfl)) (fun _ _ h => h), fun vs lo hi wx hB hK => Out.call (by kernel_rfl) (c_spec_TreeVectorOk _ aV ([.int .i64 aV.Root, .int .i64 aV.Cost, .int .i64 aV.Age]) (show rpTreeVector.rd _ _ _ from rfl)) (fun _ _ h => h), trivial⟩) ?_
  rintro vs3 lo3 hi3 w3 hU3
  have e4 := btr e2 hU3.1
  replace hb1_0 := hb1_0.to hU3.1
  refine Rest.nil (GQ.sub [(1, .pointer (some ⟨(lo1 0), 0, none⟩)), (3, .bool (tvS aV))] (by kernel_rfl) ?_)
  refine GQ.on ?_
  refine GC.seq ?_
  refine GC.reg 4 [D (.agg #[.int .i64 aV.Root, .int .i64 aV.Cost, .int .i64 aV.Age]), D (.agg #[.int .i64 aV.Root, .int .i64 aV.Cost, .int .i64 aV.Age]), D (.bool (tvI aV)), W (.bool (tvI aV))] mixed (fun vs w => by kernel_rfl) (⟨fun vs lo hi wx hB hK => Out.loadA rfl agg_23 size_23 ((hb1_0.to hB).has 0 _ rfl), fun vs lo hi wx hB hK => Out.call (by kernel_rfl) (c_laws_toTreeVector _ aV ([.int .i64 aV.Root, .int .i64 aV.Cost, .int .i64 aV.Age]) (show rpTreeVector.rd _ _ _ from rfl)) (fun _ _ h => h), fun vs lo hi wx hB hK => Out.call (by kernel_rfl) (c_impl_TreeVectorOk _ aV ([.int .i64 aV.Root, .int .i64 aV.Cost, .int .i64 aV.Age]) (show rpTreeVector.rd _ _ _ from rfl)) (fun _ _ h => h), trivial⟩) ?_
  rintro vs5 lo5 hi5 w5 hU5
  have e6 := btr e4 hU5.1
  replace hb1_0 := hb1_0.to hU5.1
  refine Rest.nil (GQ.sub [(3, .bool (tvS aV)), (4, .bool (tvI aV))] (by kernel_rfl) ?_)
  refine GQ.on ?_
  refine GC.seq ?_
  refine GC.seq ?_
  refine GC.regW [W (.bool (tvI aV)), W (.bool (tvS aV)), W (.bool ((tvI aV) != (tvS aV)))] [(13, .bool ((tvI aV) != (tvS aV)))] mixed rfl (fun vs w => by kernel_rfl) rfl (fun vs => by kernel_rfl) ?_
  refine GQ.on ?_
  refine GC.cond ((tvI aV) != (tvS aV)) rfl (fun hc7 => ?_) (fun hc7 => ?_)
  · skip
    exact absurd hc7 (by simp [tv_eq])
  · skip
    have hc7' := hc7
    try simp at hc7'
    refine GC.skip ?_
    refine GQ.on ?_
    refine GC.seq ?_
    refine GC.regW [W (.bool true)] [(2, .bool true)] mixed rfl (fun vs w => by kernel_rfl) rfl (fun vs => by kernel_rfl) ?_
    refine GQ.on ?_
    refine GC.ret ?_
    refine GQ.ret1 (.bool true) rfl rfl ?_
    exact ⟨_, rfl, rfl, e6⟩
theorem opens_3 : Opens Try.prog 3 rpInt := Opens.int Try.underlying3
theorem opens_23 : Opens Try.prog 23 rpTreeVector := by
  intro H enc W fuel cs y h
  obtain ⟨hl, hf⟩ := trod_struct Try.underlying23 h
  have hn : Try.prog.cellsOf 23 = 3 := by kernel_rfl
  rw [hn] at hl
  obtain ⟨c0, cs0, rfl⟩ : ∃ c r, cs = c :: r := by cases cs with | nil => simp at hl | cons a b => exact ⟨a, b, rfl⟩
  obtain ⟨c1, cs1, rfl⟩ : ∃ c r, cs0 = c :: r := by cases cs0 with | nil => simp at hl | cons a b => exact ⟨a, b, rfl⟩
  obtain ⟨c2, cs2, rfl⟩ : ∃ c r, cs1 = c :: r := by cases cs1 with | nil => simp at hl | cons a b => exact ⟨a, b, rfl⟩
  obtain rfl : cs2 = [] := by simpa using hl
  obtain ⟨n0, z0, g0⟩ := hf 0 _ rfl
  have g0 : DataW.trod enc Try.prog W 0 (fun _ => true) true n0 3 [c0] = some z0 := g0
  obtain ⟨x0, e0⟩ := opens_3 H enc W n0 [c0] z0 g0
  have u0_0 := (List.cons.inj e0).1
  subst u0_0
  obtain ⟨n1, z1, g1⟩ := hf 1 _ rfl
  have g1 : DataW.trod enc Try.prog W 0 (fun _ => true) true n1 3 [c1] = some z1 := g1
  obtain ⟨x1, e1⟩ := opens_3 H enc W n1 [c1] z1 g1
  have u1_0 := (List.cons.inj e1).1
  subst u1_0
  obtain ⟨n2, z2, g2⟩ := hf 2 _ rfl
  have g2 : DataW.trod enc Try.prog W 0 (fun _ => true) true n2 3 [c2] = some z2 := g2
  obtain ⟨x2, e2⟩ := opens_3 H enc W n2 [c2] z2 g2
  have u2_0 := (List.cons.inj e2).1
  subst u2_0
  exact ⟨⟨x0, x1, x2⟩, rfl⟩
theorem own : ownKnob Try.prog.godebug = none := by kernel_rfl
theorem laid : laidOutB Try.prog = true := by kernel_rfl
set_option maxRecDepth 100000 in
theorem lifted_FnExactTreeVectorOk (os : Os) (started : os.Started) (H : Type) (enc : TypeId × Value → H) :
    ReturnsInHanded {} Try.checked os 3 .any (Rows.fnExactTreeVectorOkSpec.pre6 enc Try.prog Try.f3 Rows.fnExactTreeVectorOkRow.domain false) (Rows.fnExactTreeVectorOkSpec.post enc Try.prog Try.f3 false true false false) := by
  refine returnsInHanded_of_change (C := Try.checked) own started (by kernel_rfl) Try.func3
    (ChangeSpec.witness6 (enc := enc) (C := Try.checked) false ⟨#[], #[.agg #[.int .i64 0, .int .i64 0, .int .i64 0]], []⟩ 8 (by kernel_rfl) (by kernel_rfl) (by kernel_rfl) (by kernel_rfl)) ?_
  intro W base args ds gs before hval0 hW hcnd _
  have hval : ∀ (j : Nat) t v, Try.f3.params[j]? = some t → args[j]? = some v → Value.okWide Try.prog W .any base t v := hval0
  have hW' := hW
  obtain ⟨p, q, hA0, hV, rfl, hfz, hnd⟩ := hW
  have hA : DataW.TrodAll enc Try.prog W 0 (fun _ => true) true Try.f3.params.toList args.toList ds p := hA0
  rw [Try.params3] at hA hval
  obtain ⟨v0, vs0, d0, ds0, p0, q0, hargs, rfl, rfl, h0, r0⟩ := trodAll_cons hA
  obtain ⟨rfl, rfl, rfl⟩ := trodAll_nil r0
  obtain rfl : args = #[v0] := by cases args; simp_all
  obtain ⟨rfl, rfl⟩ := trodVars_none hV
  obtain ⟨fu0, t0⟩ := h0
  obtain ⟨cs0, rfl, -⟩ := okWide_struct Try.underlying23 (hval 0 23 v0 rfl rfl)
  obtain ⟨x0, o0⟩ := opens_23 H enc W fu0 cs0.toList _ t0
  refine (c_laws_FnExactTreeVectorOk W x0 cs0.toList o0).mono fun e W' ⟨rv, he, hv, hb⟩ => ?_
  subst he; subst hv
  exact ⟨_, rfl, law_post rfl hW' hb rfl Try.underlying4 rfl rfl rfl laid (by decide +kernel)⟩
/-- the statement -/
theorem proved_FnExactTreeVectorOk : Rows.FnExactTreeVectorOkSaid :=
  OpenClaim.holds_of_wide 3 Try.f3 rfl rfl rfl rfl rfl rfl rfl ⟨rfl, rfl, rfl, rfl, rfl⟩ rfl rfl rfl rfl rfl (by kernel_rfl) Try.func3 (by kernel_rfl)
    (of_decide_eq_true (by kernel_rfl)) (by unfold Func.isWrapper; first | (rw [if_pos (by decide +kernel)]; kernel_rfl) | (rw [if_neg (by decide +kernel)]; exact ⟨rfl, rfl⟩))
    (fun os started H enc _ => lifted_FnExactTreeVectorOk os started H enc)
#print axioms proved_FnExactTreeVectorOk
end Go.Proofs.Ytjobanclhkjniaa
